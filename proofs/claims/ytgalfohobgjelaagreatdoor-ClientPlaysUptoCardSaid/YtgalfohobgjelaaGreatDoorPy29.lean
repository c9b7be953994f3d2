/- What is proved here: a part of the proof that 'probitylaw31.ClientPlays' answers true. Conditions: each theorem's own. -/
import Derived.Test.YtgalfohobgjelaaGreatDoorPy28
set_option maxRecDepth 100000
set_option maxHeartbeats 8000000
namespace Go.Proofs.YtgalfohobgjelaaGreatDoor
section
def Ωhk(b:Int):Hs:=UInt8.ofNat (b%256).toNat ::List.replicate 31 0
theorem hash1_len(b:Int):(Ωhk b).length =32:=rfl
def Ωmu(l:Hs)(j:Nat):Hs:=l.set j ((l[j]?.getD 0)^^^1)
theorem flipH_len(l:Hs)(j:Nat):(Ωmu l j).length =l.length:=ΩoE
def Ωau(Q:List Hs)(a b:Int):List Hs:=
 if Q=[] then(if a%2=0 then [Ωhk b] else [])
 else
  let n:=(b%(Q.length:Int)).toNat
  let x:=Q[n]?.getD []
  if a%5=0 then Q.set n (Ωmu x (b%32).toNat)
  else if a%5=1 then Q.take n++Q.drop (n+1)
  else if a%5=2 then Q++[x]
  else if a%5=3 then(Q.set n (Q[(n+1)%Q.length]?.getD [])).set ((n+1)%Q.length) x
  else Q
theorem ΩeW{a b:Int}:Ωau [] a b=if a%2=0 then [Ωhk b] else []:=by unfold Ωau;rw[ΩnV rfl]
theorem ΩiI{Q:List Hs}{n:Nat}{x:Hs}(hx:Q[n]? =some x):Q≠[]:=fun e=>by rw[e] at hx;simp at hx
section
variable {Q:List Hs} {a b:Int} {n:Nat} {x:Hs} (hn:b%(Q.length:Int)=(n:Int)) (hx:Q[n]? =some x)
include hn hx
theorem Ωj9(h:a%5=0):Ωau Q a b=Q.set n (Ωmu x (b%32).toNat):=by
 unfold Ωau
 rw[ΩnU (ΩiI hx),ΩnV h,hn,Ωoj,hx]
 rfl
theorem Ωmo(h:a%5=1):Ωau Q a b=Q.take n++Q.drop (n+1):=by
 unfold Ωau
 rw[ΩnU (ΩiI hx),ΩnU (by omega),ΩnV h,hn,Ωoj]
theorem Ωmn(h:a%5=2):Ωau Q a b=Q++[x]:=by
 unfold Ωau
 rw[ΩnU (ΩiI hx),ΩnU (by omega),ΩnU (by omega),ΩnV h,hn,Ωoj,hx]
 rfl
theorem Ωmm(h:a%5=3){y:Hs}(hy:Q[(n+1)%Q.length]? =some y):Ωau Q a b=(Q.set n y).set ((n+1)%Q.length) x:=by
 unfold Ωau
 rw[ΩnU (ΩiI hx),ΩnU (by omega),ΩnU (by omega),ΩnU (by omega),ΩnV h,hn,Ωoj,hx,hy]
 rfl
end
theorem Ωml{Q:List Hs}{a b:Int}(hne:Q≠[])(h:a%5=4):Ωau Q a b=Q:=by
 unfold Ωau
 rw[ΩnU hne,ΩnU (by omega),ΩnU (by omega),ΩnU (by omega),ΩnU (by omega)]
theorem bentL_ok{Q:List Hs}(hQ:HsOk Q)(a b:Int):HsOk (Ωau Q a b):=by
 by_cases h0:Q=[]
 ·subst h0
  rw[ΩeW]
  split
  ·intro h hh
   rw[Ωou.1 hh]
   rfl
  ·exact fun _ h=>by cases h
 ·have hl:0<Q.length:=List.length_pos_iff.2 h0
  obtain⟨n,hn⟩:∃n:Nat,b%(Q.length:Int)=(n:Int):=⟨(b%(Q.length:Int)).toNat,by have:=Ωoo b (show(Q.length:Int)≠0 by omega);omega⟩
  have hlt:n<Q.length:=by have:=Ωod b (show(0:Int)<(Q.length:Int) by omega);omega
  obtain⟨x,hx⟩:∃x,Q[n]? =some x:=⟨_,Ωnu hlt⟩
  have hxl:=hQ x (ΩnE hx)
  have hm:(n+1)%Q.length<Q.length:=ΩoL _ hl
  obtain⟨y,hy⟩:∃y,Q[(n+1)%Q.length]? =some y:=⟨_,Ωnu hm⟩
  have h5:a%5=0∨a%5=1∨a%5=2∨a%5=3∨a%5=4:=by omega
  rcases h5 with h|h|h|h|h
  ·rw[Ωj9 hn hx h];exact ΩgN hQ (by rw[flipH_len];exact hxl) _
  ·rw[Ωmo hn hx h]
   intro l hl
   rcases ΩoH.1 hl with h|h
   ·exact hQ l (ΩnY h)
   ·exact hQ l (Ωor h)
  ·rw[Ωmn hn hx h]
   intro l hl
   rcases ΩoH.1 hl with h|h
   ·exact hQ l h
   ·rw[Ωou.1 h];exact hxl
  ·rw[Ωmm hn hx h hy];exact ΩgN (ΩgN hQ (hQ y (ΩnE hy)) _) hxl _
  ·rw[Ωml h0 h];exact hQ
theorem bentL_len{Q:List Hs}(a b:Int):(Ωau Q a b).length≤Q.length+1:=by
 unfold Ωau
 by_cases h0:Q=[]
 ·rw[ΩnV h0]
  split<;>simp
 ·rw[ΩnU h0]
  simp only
  split
  ·rw[ΩoE];omega
  ·split
   ·rw[ΩnA,ΩnB,Ωn4];omega
   ·split
    ·rw[ΩnA,Ωoq];omega
    ·split
     ·rw[ΩoE,ΩoE];omega
     ·omega
theorem ΩlP(x:Int)(m:Int)(hm:0<m):∃r:Int,x.tmod m=r∧-m<r∧r<m∧(r+m).tmod m=x%m:=by
 refine⟨x.tmod m,rfl,Int.lt_tmod_of_pos x hm,Int.tmod_lt_of_pos x hm,?_⟩
 have hr1:=Int.lt_tmod_of_pos x hm
 have hr2:x%m=if x.tmod m<0 then x.tmod m+m else x.tmod m:=by
  have e:=Int.tmod_eq_emod (a:=x) (b:=m)
  have:=Ωoo x (show m≠0 by omega)
  have:=Ωod x hm
  have hab:(m.natAbs:Int)=m:=by omega
  rw[e]
  split<;>split<;>omega
 have hlt:=Int.tmod_lt_of_pos x hm
 rw[Int.tmod_eq_emod_of_nonneg (by omega),hr2]
 split
 ·exact Int.emod_eq_of_lt (by omega) (by omega)
 ·rw[Int.add_emod_right];exact Int.emod_eq_of_lt (by omega) (by omega)
end
section
open Go.RowKit Go.Shelf
attribute [local go_sem ↓ high] ΩaB ΩaF Ωl3 Ωip Ωlf
theorem haBd_one(b:Int)(W:World):(haBd #[(0,.int .u8 (b%256))]).run Tryz.prog W= .ok (hv (Ωhk b)) W:=by
 have e:(Ωhk b).map bv= .int .u8 (b%256)::List.replicate 31 (.int .u8 0):=by
  unfold Ωhk
  simp only[ΩoF,List.map_replicate]
  rw[bv_small (by omega) (by omega)]
  rfl
 unfold hv
 rw[e]
 exact run_build (P:=Tryz.prog) W 35 _ _ (by kernel_rfl)
abbrev tA2:TypeId:=68
structure BnS(w:World)(F:Nat)(a b:Int)(oA:Option Addr)(oc:Nat)(n:Nat)(Q:List Hs)(W:World):Prop where
 arg:Blk W F tA2 #[.int .i64 a,.int .i64 b]
 own:ΩO W w.heap.size (.slice oA n oc) n Q
 only:Only Ωa w W
theorem BnS.keep{w:World}{F:Nat}{a b:Int}{oA:Option Addr}{oc n:Nat}{Q:List Hs}{W W' :World}(h:BnS w F a b oA oc n Q W)(ho:Only Ωa W W'):BnS w F a b oA oc n Q W' :=
 ⟨h.arg.only ho (fun e=>e),Ωe h.own ho (fun _ _ e=>e),h.only.trans ho⟩
theorem xor8_all:∀n:Fin 256,bits .xor .u8 (n.val:Int) 1=((UInt8.ofNat n.val^^^1).toNat :Int):=by decide+kernel
theorem xor8(y:UInt8):bits .xor .u8 (y.toNat:Int) 1=((y^^^1).toNat :Int):=by
 have h:=xor8_all ⟨y.toNat,y.toNat_lt⟩
 simpa using h
theorem ΩO.first{W:World}{base g cap n:Nat}{Q:List Hs}(h:ΩO W base (.slice (some ⟨g,0,none⟩) Q.length cap) Q.length Q)(hok:HsOk Q)(hn:n≤Q.length):HaSl W (.slice (some ⟨g,0,none⟩) n cap) (Q.take n):=(h.sl hok).take hn
theorem ΩO.rest{W:World}{base g cap m:Nat}{Q:List Hs}(h:ΩO W base (.slice (some ⟨g,0,none⟩) Q.length cap) Q.length Q)(hok:HsOk Q)(hm:m≤Q.length):HaSl W (.slice (some ⟨g,m*32,none⟩) (Q.length-m) (cap-m)) (Q.drop m):=by
 obtain⟨A,cap',e,h1,h2,h3⟩:=h.sl hok
 cases e
 refine⟨_,cap-m,by rw[Ωn4],by rw[Ωn4];omega,by omega,fun i p hp=> ?_⟩
 rw[List.getElem?_drop] at hp
 obtain⟨g',o',e,h4,h5⟩:=h3 (m+i) p hp
 cases e
 refine⟨g,m*32,rfl,h4,?_⟩
 have e2:m*32+i*32=0+(m+i)*32:=by omega
 rw[e2]
 exact h5
theorem ΩlN(Y:World)(h:Hs):HaSl (Y.alloc (.cells (h.map bv).toArray 35)) (.slice (some ⟨Y.heap.size,0,none⟩) 1 1) [h]:=by
 refine⟨_,1,rfl,Ωnv _,by omega,fun i p hp=> ?_⟩
 have hi:i=0:=by
  have:=(Ωnx.1 hp).1
  simp only[Ωoq] at this
  omega
 subst hi
 simp only[ΩnF,Option.some.injEq] at hp
 subst hp
 refine⟨Y.heap.size,0,rfl,(Blk.new Y _ _).lt,fun j x hj=> ?_⟩
 have hc:=(Blk.new Y 35 (h.map bv).toArray).cell j
 have e9:0+0*32+j=j:=by omega
 rw[e9,hc]
 have hj2:(h.map bv)[j]? =some x:=hj
 simpa using hj2
theorem bent_any(Q:List Hs)(hok:HsOk Q)(hQ:Q.length≤1000)(v:Value)(a b:Int)(ha:In a)(hb:In b)(w:World)(hs:HaSl w v Q):
  Calls Tryz.prog 52 #[v,.agg #[.int .i64 a,.int .i64 b]] w fun e w' =>∃rv,e= .returned rv∧ΩO w' w.heap.size rv (Ωau Q a b).length (Ωau Q a b)∧Only Ωa w w' :=by
 obtain⟨F,eF⟩:∃F,F=w.heap.size:=⟨_,rfl⟩
 have h0:Blk (w.alloc (.cells #[.int .i64 a,.int .i64 b] tA2)) F tA2 #[.int .i64 a,.int .i64 b]∧HaSl (w.alloc (.cells #[.int .i64 a,.int .i64 b] tA2)) v Q∧Only Ωa w (w.alloc (.cells #[.int .i64 a,.int .i64 b] tA2)):=
  ⟨by rw[eF];exact Blk.new w _ _,hs.only ((Only.refl _ _).alloc _),(Only.refl _ _).alloc _⟩
 have H0:=Θ h0
 have EF:=Θ eF
 have HOK:=Θ hok
 have HA:=Θ (And.intro ha hb)
 obtain⟨a1,a2⟩:=ha
 obtain⟨b1,b2⟩:=hb
 clear h0 eF hok hs
 go_enter Tryz.func52,Tryz.ntmps52
 go_upto_region 1 with(fail)
 rw[←EF.out]
 refine Ωf (fun Z=>Blk Z F tA2 #[.int .i64 a,.int .i64 b]∧HaSl Z v Q∧Only Ωa w Z) H0.out ?_
 clear H0
 rintro Z ⟨hF,hS,hO⟩
 have hown0:ΩO (Z.alloc (.cells #[] 35)) Z.heap.size (.slice (some ⟨Z.heap.size,0,none⟩) 0 0) 0 []:=
  ⟨rfl,.inr ⟨Z.heap.size,0,#[],rfl,Ωnv _,Blk.new Z _ _,Ωnv _,by rw[Ωg];omega,rfl,rfl⟩⟩
 obtain⟨oA,oc,W5,hr5,ho5,hg5,hat5⟩:=Ωa1 (Z.alloc (.cells #[] 35)) Z.heap.size _ _ [] Q HOK.out hown0 (hS.only ((Only.refl Ωa _).alloc _)) (by simp only[Ωn8];omega) (by rw[Ωnw];omega) 59
 rw[ΩoD] at hr5 ho5 hat5
 have hO5:Only Ωa Z W5:=((Only.refl Ωa Z).alloc _).grown hg5 (fun j e=>by cases e;exact .inr (Ωnv _))
 have hB5:BnS w F a b oA oc Q.length Q W5:=⟨hF.only hO5 (fun e=>e),ΩE ho5 hO.size,hO.trans hO5⟩
 have HB:=Θ hB5
 clear hF hS hO hown0 ho5 hg5 hat5 hO5 hB5
 by_cases hq0:Q=[]
 ·subst hq0
  go_upto_region 2 with(fail)
  clear hr5
  refine Ωf (BnS w F a b oA oc 0 []) HB.out ?_
  clear HB
  intro Y hY
  have c0:Y.cell? ⟨F,0,none⟩=some (.int .i64 a):=hY.arg.cell 0
  have c1:Y.cell? ⟨F,1,none⟩=some (.int .i64 b):=hY.arg.cell 1
  have HY:=Θ hY
  clear hY
  by_cases h2:a%2=0
  ·have k2:a.tmod 2=0:=by rw[Int.tmod_eq_emod];split<;>omega
   have hbd:=haBd_one b
   have hb1:=Ωb3 (Ωhk b) (hash1_len b)
   have hnew:=ΩlN Y (Ωhk b)
   obtain⟨rA,rc,W6,hr6,ho6,hg6,hat6⟩:=Ωa1 (Y.alloc (.cells ((Ωhk b).map bv).toArray 35)) w.heap.size _ _ [] [Ωhk b] (fun h hh=>by rw[Ωou.1 hh];rfl) (Ωe HY.out.own ((Only.refl Ωa _).alloc _) (fun _ _ e=>e)) hnew (by simp) (by rw[Ωnw];have:=HY.out.only.size;omega) 59
   rw[ΩoD] at hr6 ho6
   have HF:Hid (ΩO W6 w.heap.size (.slice rA (Ωau [] a b).length rc) (Ωau [] a b).length (Ωau [] a b)∧Only Ωa w W6):=Θ (by
    rw[ΩeW,ΩnV h2]
    exact⟨ho6,(HY.out.only.alloc _).grown hg6 (fun j e=> .inr (ΩJ HY.out.own e).1)⟩)
   have HLN:Hid ((Ωau [] a b).length =1):=Θ (by rw[ΩeW,ΩnV h2];rfl)
   clear hnew ho6 hg6 hat6 h2
   go_wp2_with fail
   go_ret
   have h9:=HF.out
   rw[HLN.out] at h9
   rw[HLN.out]
   exact⟨_,rfl,h9.1,h9.2⟩
  ·have k2:(a.tmod 2==0)=false:=by
    rw[ΩnL,Int.tmod_eq_emod]
    split<;>omega
   have HLN:Hid ((Ωau [] a b)=[]):=Θ (by rw[ΩeW,ΩnU h2])
   clear h2
   go_wp2_with fail
   go_ret
   rw[HLN.out]
   exact⟨_,rfl,HY.out.own,HY.out.only⟩
 ·have hl:0<Q.length:=List.length_pos_iff.2 hq0
  obtain⟨n,hn⟩:∃n:Nat,b%(Q.length:Int)=(n:Int):=⟨(b%(Q.length:Int)).toNat,by have:=Ωoo b (show(Q.length:Int)≠0 by omega);omega⟩
  have hlt:n<Q.length:=by have:=Ωod b (show(0:Int)<(Q.length:Int) by omega);omega
  obtain⟨x,hx⟩:∃x,Q[n]? =some x:=⟨_,Ωnu hlt⟩
  obtain⟨rn,kn1,kn2,kn3,kn4⟩:=ΩlP b (Q.length:Int) (by omega)
  rw[hn] at kn4
  obtain⟨r5,k51,k52,k53,k54⟩:=ΩlP a 5 (by omega)
  obtain⟨s5,es5⟩:∃s:Int,s=a%5:=⟨_,rfl⟩
  rw[←es5] at k54
  have hs5:s5=0∨s5=1∨s5=2∨s5=3∨s5=4:=by omega
  have d0:((Q.length:Int)==0)=false:=by rw[ΩnL];omega
  have e0:¬(Q.length:Int)=0:=by omega
  obtain⟨g,oc',e9,_,_,hoc,_⟩:=Ωcd HB.out.own hl
  cases e9
  have inq:(n:Int)<(Q.length:Int):=by omega
  have inq0:(0:Int)≤(n:Int):=by omega
  go_upto_region 2 with(fail)
  clear hr5
  refine Ωf (BnS w F a b (some ⟨g,0,none⟩) oc Q.length Q) HB.out ?_
  clear HB
  intro Y hY
  have c0:Y.cell? ⟨F,0,none⟩=some (.int .i64 a):=hY.arg.cell 0
  have c1:Y.cell? ⟨F,1,none⟩=some (.int .i64 b):=hY.arg.cell 1
  have HY:=Θ hY
  have HX:=Θ hx
  have HN:=Θ hn
  have ES:=Θ es5
  have HNE:=Θ hq0
  have hxl:x.length=32:=HOK.out x (ΩnE hx)
  clear hY hx hn es5 hq0
  rcases hs5 with rfl|rfl|rfl|rfl|rfl
  ·obtain⟨r32,k1,k2,k3,k4⟩:=ΩlP b 32 (by omega)
   obtain⟨j,ej⟩:∃j:Nat,b%32=(j:Int):=⟨(b%32).toNat,by omega⟩
   have hj:j<32:=by omega
   rw[ej] at k4
   obtain⟨y,hy⟩:∃y,x[j]? =some y:=⟨_,Ωnu (by omega)⟩
   have hcy:Y.cell? ⟨g,n*32+j,none⟩=some (.int .u8 (y.toNat:Int)):=HY.out.own.range HOK.out HX.out j _ (by rw[Ωn0,hy];rfl)
   have hxr:=xor8 y
   have ij:(j:Int)<32:=by omega
   have ij0:(0:Int)≤(j:Int):=by omega
   have ev:(Value.int .u8 ((y.toNat^^^1:Nat):Int))=bv (y^^^1):=by
    unfold bv
    rw[UInt8.toNat_xor]
    rfl
   have hfin:ΩO ((Y.setCell ⟨g,n*32+j,none⟩ (.int .u8 ((y.toNat^^^1:Nat):Int))).drew) w.heap.size (.slice (some ⟨g,0,none⟩) (Ωau Q a b).length oc) (Ωau Q a b).length (Ωau Q a b)∧Only Ωa w ((Y.setCell ⟨g,n*32+j,none⟩ (.int .u8 ((y.toNat^^^1:Nat):Int))).drew):=by
    rw[ev]
    have e:Ωau Q a b=Q.set n (x.set j (y^^^1)):=by
     rw[Ωj9 HN.out HX.out (by have:=ES.out;omega),ej,Ωoj]
     unfold Ωmu
     rw[hy]
     rfl
    have h1:=HY.out
    rw[e,ΩoE]
    exact⟨own_drew (h1.own.set1 HOK.out HX.out hj _),(h1.only.setCell (p:=⟨g,n*32+j,none⟩) (.inr (ΩJ h1.own rfl).1) _).drew⟩
   have fz:Y.frozen? ⟨g,n*32+j,none⟩=false:=by
    rcases HY.out.own.2 with⟨h9,_⟩|⟨g',cap',cur,e,_,hh,_⟩
    ·cases h9
    ·cases e
     exact Blk.frozen (t:=35) hh _
   have HLN:Hid ((Ωau Q a b).length =Q.length):=Θ (by rw[Ωj9 HN.out HX.out (by have:=ES.out;omega),ΩoE])
   have HF:=Θ hfin
   clear hfin ej hy ev
   go_upto_region 9 with(fail)
   go_region
   go_wp2_with fail
   go_ret
   have h9:=HF.out
   rw[HLN.out] at h9
   rw[HLN.out]
   exact⟨_,rfl,h9.1,h9.2⟩
  ·have hnc:(n:Int)≤(oc:Int):=by omega
   have hn1:(n:Int)+1≤(Q.length:Int):=by omega
   have ho1:ΩO (Y.alloc (.cells #[] 35)).drew Y.heap.size (.slice (some ⟨Y.heap.size,0,none⟩) 0 0) 0 []:=
    ⟨rfl,.inr ⟨Y.heap.size,0,#[],rfl,Ωnv _,Blk.new Y _ _,Ωnv _,by rw[Ωg];omega,rfl,rfl⟩⟩
   have hsl:ΩO (Y.alloc (.cells #[] 35)).drew w.heap.size (.slice (some ⟨g,0,none⟩) Q.length oc) Q.length Q:=Ωe HY.out.own ((Only.refl Ωa Y).alloc _).drew (fun _ _ e=>e)
   obtain⟨pA,pc,W1,hr1,hp1,hg1,hat1⟩:=Ωa1 (Y.alloc (.cells #[] 35)).drew Y.heap.size _ _ [] (Q.take n) (fun h hh=>HOK.out h (ΩnY hh)) ho1 (hsl.first HOK.out (by omega)) (by rw[ΩnB];simp;omega) (((Only.refl Ωa Y).alloc _).drew.size) 59
   rw[ΩoD,ΩnB,Nat.min_eq_left (by omega)] at hr1 hp1
   have hO1:Only Ωa Y W1:=((Only.refl Ωa Y).alloc _).drew.grown hg1 (fun j e=>by cases e;exact .inr (Ωnv _))
   obtain⟨Ax,hAx⟩:∃Ax,(if oc=n+1 then(some ⟨g,0,none⟩:Option Addr) else some ⟨g,(n+1)*32,none⟩)=Ax:=⟨_,rfl⟩
   have hsr:HaSl W1 (.slice Ax (Q.length-(n+1)) (oc-(n+1))) (Q.drop (n+1)):=by
    by_cases he:oc=n+1
    ·refine⟨Ax,_,by rw[Ωn4],by rw[Ωn4];omega,by omega,fun i p hp=> ?_⟩
     have:=(Ωnx.1 hp).1
     rw[Ωn4] at this
     omega
    ·rw[ΩnU he] at hAx
     rw[←hAx]
     exact(HY.out.own.rest HOK.out (m:=n+1) (by omega)).only hO1
   obtain⟨rA,rc,W2,hr2,hp2,hg2,hat2⟩:=Ωa1 W1 Y.heap.size (.slice pA n pc) _ (Q.take n) (Q.drop (n+1)) (fun h hh=>HOK.out h (Ωor hh)) (by rw[ΩnB,Nat.min_eq_left (by omega)];exact hp1) hsr (by rw[ΩnB,Ωn4];omega) hO1.size 59
   have e1:Ωau Q a b=Q.take n++Q.drop (n+1):=Ωmo HN.out HX.out (by have:=ES.out;omega)
   rw[←e1] at hr2 hp2
   have HF:Hid (ΩO W2 w.heap.size (.slice rA (Ωau Q a b).length rc) (Ωau Q a b).length (Ωau Q a b)∧Only Ωa w W2):=Θ ⟨ΩE hp2 HY.out.only.size,HY.out.only.trans (hO1.grown hg2 (fun j e=> .inr (ΩJ hp1 e).1))⟩
   obtain⟨ll,ell⟩:∃l,l=(Ωau Q a b).length :=⟨_,rfl⟩
   rw[←ell] at hr2
   have HLL:=Θ ell
   clear ho1 hsl hp1 hg1 hat1 hO1 hsr hp2 hg2 hat2 e1 ell
   go_upto_region 11 with(fail)
   go_region
   go_wp2_with fail
   go_ret
   have h9:=HF.out
   rw[←HLL.out] at h9
   rw[←HLL.out]
   exact⟨_,rfl,h9.1,h9.2⟩
  ·have hld:=Ωp (HY.out.own.range HOK.out HX.out) hxl
   have hb1:=Ωb3 x hxl
   obtain⟨rA,rc,W6,hr6,ho6,hg6,hat6⟩:=Ωa1 (Y.alloc (.cells (x.map bv).toArray 35)) w.heap.size _ _ Q [x] (fun h hh=>by rw[Ωou.1 hh];exact hxl) (Ωe HY.out.own ((Only.refl Ωa _).alloc _) (fun _ _ e=>e)) (ΩlN Y x) (by simp only[Ωoq];omega) ((HY.out.only.alloc _).size) 59
   have e1:Ωau Q a b=Q++[x]:=Ωmn HN.out HX.out (by have:=ES.out;omega)
   rw[←e1] at hr6 ho6
   have HF:Hid (ΩO W6 w.heap.size (.slice rA (Ωau Q a b).length rc) (Ωau Q a b).length (Ωau Q a b)∧Only Ωa w W6):=Θ ⟨ho6,(HY.out.only.alloc _).grown hg6 (fun j e=> .inr (ΩJ HY.out.own e).1)⟩
   obtain⟨ll,ell⟩:∃l,l=(Ωau Q a b).length :=⟨_,rfl⟩
   rw[←ell] at hr6
   have HLL:=Θ ell
   clear ho6 hg6 hat6 e1 ell
   go_wp2_with fail
   go_ret
   have h9:=HF.out
   rw[←HLL.out] at h9
   rw[←HLL.out]
   exact⟨_,rfl,h9.1,h9.2⟩
  ·obtain⟨m,em⟩:∃m:Nat,m=(n+1)%Q.length:=⟨_,rfl⟩
   have emi:((n:Int)+1)%(Q.length:Int)=(m:Int):=by rw[em,Int.natCast_emod];rfl
   have hml:m<Q.length:=by rw[em];exact ΩoL _ hl
   obtain⟨y,hy⟩:∃y,Q[m]? =some y:=⟨_,Ωnu hml⟩
   have hyl:y.length=32:=HOK.out y (ΩnE hy)
   have e1:Ωau Q a b=(Q.set n y).set m x:=by
    rw[em] at hy
    rw[em]
    exact Ωmm HN.out HX.out (by have:=ES.out;omega) hy
   have imq:(m:Int)<(Q.length:Int):=by omega
   have imq0:(0:Int)≤(m:Int):=by omega
   have hld:=Ωp (HY.out.own.range HOK.out HX.out) hxl
   have hstn:=ΩaT Y x hxl
   obtain⟨D,eD⟩:∃D,D=Y.heap.size:=⟨_,rfl⟩
   have hZ0:HaAt ((Y.alloc (.cells Ωw 35)).setCells Y.heap.size 0 (x.map bv)) D x∧BnS w F a b (some ⟨g,0,none⟩) oc Q.length Q ((Y.alloc (.cells Ωw 35)).setCells Y.heap.size 0 (x.map bv)):=
    ⟨by rw[eD];exact(ΩaI Y).put rfl hxl,HY.out.keep (Ωb ((Only.refl _ _).alloc _) Y.heap.size 0 (.inr (Ωnv _)) _)⟩
   rw[←eD] at hZ0
   have HZ0:=Θ hZ0
   have ED:=Θ eD
   have HYY:=Θ (And.intro hy (And.intro hyl e1))
   clear hZ0 eD hy hyl e1 em
   go_upto_region 17 with(fail)
   rw[←ED.out]
   refine Ωf (fun Z=>HaAt Z D x∧BnS w F a b (some ⟨g,0,none⟩) oc Q.length Q Z) HZ0.out ?_
   clear HZ0 hld hstn c0 c1
   rintro V ⟨hD,hV⟩
   have hne:g≠D:=by
    have h1:=(ΩJ HY.out.own (g:=g) rfl).2
    have h2:=ED.out
    omega
   have hld:=Ωp (hV.own.range HOK.out HYY.out.1) HYY.out.2.1
   have hst:=Ωfv (i:=n) hV.own hlt HYY.out.2.1
   have hV2:ΩO (V.setCells g (n*32) (y.map bv)) w.heap.size (.slice (some ⟨g,0,none⟩) Q.length oc) Q.length (Q.set n y):=hV.own.put HOK.out hlt HYY.out.2.1
   have hD2:HaAt (V.setCells g (n*32) (y.map bv)) D x:=Blk.farCells (Ne.symm hne) _ _ hD
   have hO2:Only Ωa w (V.setCells g (n*32) (y.map bv)):=Ωb hV.only g (n*32) (.inr (ΩJ hV.own rfl).1) _
   have HV:=Θ (And.intro hV2 (And.intro hD2 hO2))
   clear hD hV hV2 hD2 hO2 HY
   go_upto_region 18 with(fail)
   refine Ωf (fun Z=>ΩO Z w.heap.size (.slice (some ⟨g,0,none⟩) Q.length oc) Q.length (Q.set n y)∧HaAt Z D x∧Only Ωa w Z) HV.out ?_
   clear HV hld hst
   rintro U ⟨hU,hD,hO⟩
   have hq1:HsOk (Q.set n y):=ΩgN HOK.out HYY.out.2.1 n
   have hl1:(Q.set n y).length =Q.length:=ΩoE
   have hU1:ΩO U w.heap.size (.slice (some ⟨g,0,none⟩) (Q.set n y).length oc) (Q.set n y).length (Q.set n y):=by rw[hl1];exact hU
   have hld:=Ωp hD.range hxl
   have hst:=Ωfv (i:=m) hU1 (by rw[hl1];exact hml) hxl
   have hU2:ΩO (U.setCells g (m*32) (x.map bv)) w.heap.size (.slice (some ⟨g,0,none⟩) Q.length oc) Q.length ((Q.set n y).set m x):=by
    have h:=hU1.put hq1 (by rw[hl1];exact hml) hxl (i:=m)
    rw[hl1] at h
    exact h
   have HF:=Θ (And.intro hU2 (Ωb hO g (m*32) (.inr (ΩJ hU (g:=g) rfl).1) (x.map bv)))
   clear hU hD hO hq1 hU1 hU2 hl1
   go_wp2_with fail
   go_ret
   rw[HYY.out.2.2,ΩoE,ΩoE]
   exact⟨_,rfl,HF.out.1,HF.out.2⟩
  ·go_wp2_with fail
   go_ret
   rw[Ωml HNE.out (by have:=ES.out;omega)]
   exact⟨_,rfl,HY.out.own,HY.out.only⟩
end
section
def wd3:Wd:=⟨3,[],0⟩
theorem Ωlr:wd3.Ok:=⟨by decide,by decide⟩
theorem setW3:setW wd3=setB 4++[bidder 60,bidder 61]:=rfl
theorem ΩdB:offs (setW wd3)=[Ωhj 1,Ωhj 2,Ωhj 3,Ωhj 4]:=by
 rw[setW3]
 simp[offs,ΩcO,setB,Ωnk,Ωhj,bidder,List.range_succ]
theorem Ωmz(h:Hd)(k:Nat)(hk:bitW 0 k=false):Ωly 0 h k=vAt h k:=by
 unfold Ωly vAt
 rw[hk]
 simp
theorem Ωno(k:Nat):bitW 0 k=false:=by unfold bitW;simp
theorem ΩhY(h:Hd):Ω7 wd3 h 14 0=[vAt h 1,vAt h 2,vAt h 3]:=by
 have h4:wd3.n=4:=rfl
 unfold Ω7
 rw[h4]
 simp only[ΩaZ]
 rw[show bitW 14 1=true from by decide,show bitW 14 2=true from by decide,show bitW 14 3=true from by decide,show bitW 14 4=false from by decide]
 simp[Ωmz _ _ (Ωno _)]
theorem Ωlw(h:Hd):Ω7 wd3 h 28 0=[vAt h 2,vAt h 3,vAt h 4]:=by
 have h4:wd3.n=4:=rfl
 unfold Ω7
 rw[h4]
 simp only[ΩaZ]
 rw[show bitW 28 1=false from by decide,show bitW 28 2=true from by decide,show bitW 28 3=true from by decide,show bitW 28 4=true from by decide]
 simp[Ωmz _ _ (Ωno _)]
theorem cert14(h:Hd):Ωba (setW wd3) h [vAt h 1,vAt h 2,vAt h 3]=true:=by
 unfold Ωba Ω1
 rw[ΩdB]
 have hd:∀j,eqHd (vAt h j).head h=true:=fun j=>Ωas.2 rfl
 simp[hd,ΩiA,need]
theorem cert28(h:Hd):Ωba (setW wd3) h [vAt h 2,vAt h 3,vAt h 4]=true:=by
 unfold Ωba Ω1
 rw[ΩdB]
 have hd:∀j,eqHd (vAt h j).head h=true:=fun j=>Ωas.2 rfl
 simp[hd,ΩiA,need]
theorem ΩiH(P:List Pers){o:Option Hd}(h:ΩbH P [] o):o=none:=by
 unfold ΩbH at h
 cases o with
 |none=>rfl
 |some b=>exact absurd h.1 (by simp)
theorem Ωlb{P:List Pers}{L:List Vt}{h:Hd}(hL:∀v∈L,v.head=h)(hne:L≠[])(hc:Ωba P h L=true){o:Option Hd}(ho:ΩbH P L o):o=some h:=by
 have hd:∀x,x∈L.map (·.head)→x=h:=fun x hx=>by
  obtain⟨v,hv,rfl⟩:=Ωos.1 hx
  exact hL v hv
 have hm:h∈L.map (·.head):=by
  cases L with
  |nil=>exact absurd rfl hne
  |cons v l=>exact Ωos.2 ⟨v,by simp,hL v (by simp)⟩
 cases o with
 |none=>
  have h9:Ωba P h L=false:=ho h hm
  rw[hc] at h9;cases h9
 |some b=>
  rw[hd b ho.1]
theorem Ωmk(h:Hd){o:Option Hd}(ho:ΩbH (setW wd3) (Ω7 wd3 h 14 0) o):o=some h:=by
 rw[ΩhY] at ho
 exact Ωlb (fun v hv=>by simp at hv;rcases hv with rfl|rfl|rfl<;>rfl) (by simp) (cert14 h) ho
theorem best28(h:Hd){o:Option Hd}(ho:ΩbH (setW wd3) (Ω7 wd3 h 28 0) o):o=some h:=by
 rw[Ωlw] at ho
 exact Ωlb (fun v hv=>by simp at hv;rcases hv with rfl|rfl|rfl<;>rfl) (by simp) (cert28 h) ho
end
section
theorem Ωk3(n:Nat)(r:Hs):ckL 0 n (ΩN []) r []=true:=by
 unfold ckL
 simp
theorem ckL_right(l:List (List UInt8))(m:Nat)(hl:l.length≤1000000)(h1:1≤m)(h2:m<l.length):ckL m l.length (ΩN (l.take m)) (ΩN l) (ΩbC l m)=true:=by
 obtain⟨g1,g2⟩:=Ωff l.length l m true (ΩN (l.take m)) (Ωnv _) hl h1 (by omega) (fun _=>rfl)
 have hg:ΩbC l m=(Ωcj l.length l m true).reverse :=by unfold ΩbC;rw[ΩnU (by omega)]
 unfold ckL
 rw[ΩnU (by omega)]
 unfold ckB
 rw[hg,Ωog,ΩnV g1,List.reverse_reverse,g2]
 simp
theorem ckL_grow(l:List (List UInt8))(m:Nat)(hl:l.length≤1000000)(h2:m<l.length):ckL m l.length (ΩN (l.take m)) (ΩN l) (ΩbC l m)=true:=by
 by_cases h0:m=0
 ·subst h0
  have hg:ΩbC l 0=[]:=by unfold ΩbC;rw[ΩnV (.inl rfl)]
  rw[hg,Ωoz]
  exact Ωk3 _ _
 ·exact ckL_right l m hl (by omega) h2
end
section
open Go.RowKit Go.Shelf
theorem setW_mem{d:Wd}{p:Pers}(h:p∈setW d):p∈setB d.n∨p=bidder 60∨p=bidder 61:=by
 unfold setW at h
 rcases ΩoH.1 h with h|h
 ·exact .inl h
 ·simp only[Ωn3,Ωol,or_false] at h
  exact .inr h
theorem Ωlq(d:Wd):d.n≤7:=by unfold Wd.n;omega
theorem Ωd1(d:Wd):ΩS (setW d):=fun p hp=>by
 rcases setW_mem hp with h|rfl|rfl
 ·exact setB_ok d.n (by have:=Ωlq d;omega) p h
 ·exact⟨⟨by decide,by decide⟩,⟨by decide,by decide⟩,Ωl6 _⟩
 ·exact⟨⟨by decide,by decide⟩,⟨by decide,by decide⟩,Ωl6 _⟩
theorem Ωkn(d:Wd):∀p∈setW d,In p.pub:=fun p hp=>(Ωd1 d p hp).pub
theorem Ωca(d:Wd):(setW d).length≤1000:=by
 unfold setW
 rw[ΩnA,Ωh9]
 have:=Ωlq d
 simp only[ΩnD,Ωn8]
 omega
theorem Ωf9(yes odd:Nat)(h:Hd):∀n,∀v∈ΩaZ yes odd h n,v.head=h
 |0,v,hv=>by simp[ΩaZ] at hv
 |n+1,v,hv=>by
  simp only[ΩaZ,ΩoH] at hv
  rcases hv with hv|hv
  ·exact Ωf9 yes odd h n v hv
  ·split at hv
   ·simp only[Ωou] at hv
    subst hv
    rfl
   ·simp at hv
theorem Ωf8{d:Wd}{h:Hd}{yes odd:Nat}{v:Vt}(hv:v∈Ω7 d h yes odd):v.head=h:=Ωf9 _ _ _ _ v hv
theorem Ωc3(d:Wd){h:Hd}(ok:h.Ok)(yes odd:Nat):Ω4 (Ω7 d h yes odd):=ΩiM yes odd h ok d.n (by have:=Ωlq d;omega)
theorem Ωbw(d:Wd){h:Hd}(hs:Ωah h)(yes odd:Nat):ΩcW (Ω7 d h yes odd):=fun v hv=>by rw[Ωf8 hv];exact hs
theorem Ωbc{L:List ByteArray}(h:L.length≤1000):Ωah (hdOf L):=⟨L.length,rfl,h⟩
theorem ΩgL:Ωah hd0:=⟨0,rfl,by omega⟩
theorem ΩjD{P:List Pers}{L:List Vt}{h:Hd}(hL:∀v∈L,v.head=h){o:Option Hd}(ho:ΩbH P L o):(o=none∧(L=[]∨Ωba P h L=false))∨(o=some h∧Ωba P h L=true):=by
 have hd:∀x,x∈L.map (·.head)→x=h:=fun x hx=>by
  obtain⟨v,hv,rfl⟩:=Ωos.1 hx
  exact hL v hv
 cases o with
 |none=>
  refine .inl ⟨rfl,?_⟩
  cases L with
  |nil=>exact .inl rfl
  |cons v l=>exact .inr (ho h (Ωos.2 ⟨v,List.mem_cons_self ..,hL v (List.mem_cons_self ..)⟩))
 |some b=>
  have e:b=h:=hd b ho.1
  subst e
  exact .inr ⟨rfl,ho.2.1⟩
theorem hdNext_small{P:List Pers}{L:List Vt}{o:Option Hd}{old h:Hd}{Q:List Hs}(hs:ΩcW L)(hh:Ωah h)(ho:ΩbH P L o):Ωah (Ω5 o old Q h):=by
 unfold Ω5
 split
 ·exact ΩbY hs ho
 ·exact hh
def ΩiL(v:Value):Sem Value:=Instr.loadAt 24 v
theorem Ωej(v:Value):Instr.loadAt 24 v=ΩiL v:=rfl
theorem ΩcE{W:World}{g:Nat}{d:Wd}{kA:Option Addr}{kc:Nat}(h:Blk W g tWd (wdC d kA kc)):(ΩiL (.pointer (some ⟨g,0,none⟩))).run Tryz.prog W= .ok (.agg (wdC d kA kc)) W:=
 ΩoG W g 0 24 [.int .u8 (d.off:Int),.slice kA d.kinds.length kc,.int .u8 (d.fork:Int)] _ (Ωd h) Tryz.underlying24 rfl (by kernel_rfl)
theorem three_heads(W:World){a b c:Hd}(la:a.root.length=32)(lb:b.root.length=32)(lc:c.root.length=32)(N M K:Nat)(hN:N=W.heap.size)(hM:M=N+1)(hK:K=M+1):
  ∃W3,W3=((W.alloc (.cells hd0C tHd)).alloc (.cells hd0C tHd)).alloc (.cells hd0C tHd)∧
   (ΩbJ (.pointer (some ⟨N,0,none⟩)) (.agg (hdC a).toArray)).run Tryz.prog W3= .ok () (W3.setCells N 0 (hdC a))∧
   (ΩbJ (.pointer (some ⟨M,0,none⟩)) (.agg (hdC b).toArray)).run Tryz.prog (W3.setCells N 0 (hdC a))= .ok () ((W3.setCells N 0 (hdC a)).setCells M 0 (hdC b))∧
   (ΩbJ (.pointer (some ⟨K,0,none⟩)) (.agg (hdC c).toArray)).run Tryz.prog ((W3.setCells N 0 (hdC a)).setCells M 0 (hdC b))= .ok () (((W3.setCells N 0 (hdC a)).setCells M 0 (hdC b)).setCells K 0 (hdC c))∧
   HdAt (((W3.setCells N 0 (hdC a)).setCells M 0 (hdC b)).setCells K 0 (hdC c)) N a∧
   HdAt (((W3.setCells N 0 (hdC a)).setCells M 0 (hdC b)).setCells K 0 (hdC c)) M b∧
   HdAt (((W3.setCells N 0 (hdC a)).setCells M 0 (hdC b)).setCells K 0 (hdC c)) K c∧
   Only Ωa W (((W3.setCells N 0 (hdC a)).setCells M 0 (hdC b)).setCells K 0 (hdC c)):=by
 obtain⟨W3,e3⟩:∃W3,W3=((W.alloc (.cells hd0C tHd)).alloc (.cells hd0C tHd)).alloc (.cells hd0C tHd):=⟨_,rfl⟩
 have b1:Blk W3 N tHd hd0C:=by rw[e3,hN];exact((Blk.new W _ _).alloc _).alloc _
 have b2:Blk W3 M tHd hd0C:=by
  have h:=(Blk.new (W.alloc (.cells hd0C tHd)) tHd hd0C).alloc (.cells hd0C tHd)
  rw[Ωnw] at h
  rw[e3,hM,hN];exact h
 have b3:Blk W3 K tHd hd0C:=by
  have h:=Blk.new ((W.alloc (.cells hd0C tHd)).alloc (.cells hd0C tHd)) tHd hd0C
  rw[Ωnw,Ωnw] at h
  rw[e3,hK,hM,hN];exact h
 have n1:M≠N:=by omega
 have n2:K≠N:=by omega
 have n3:K≠M:=by omega
 have b2' :Blk (W3.setCells N 0 (hdC a)) M tHd hd0C:=Blk.farCells n1 _ 0 b2
 have b3' :Blk ((W3.setCells N 0 (hdC a)).setCells M 0 (hdC b)) K tHd hd0C:=Blk.farCells n3 _ 0 (Blk.farCells n2 _ 0 b3)
 have f1:HdAt (W3.setCells N 0 (hdC a)) N a:=Ωj b1 (by rw[Ωo la];rfl)
 have f2:HdAt ((W3.setCells N 0 (hdC a)).setCells M 0 (hdC b)) M b:=Ωj b2' (by rw[Ωo lb];rfl)
 have f3:HdAt (((W3.setCells N 0 (hdC a)).setCells M 0 (hdC b)).setCells K 0 (hdC c)) K c:=Ωj b3' (by rw[Ωo lc];rfl)
 refine⟨W3,e3,Ωax b1 rfl la,Ωax b2' rfl lb,Ωax b3' rfl lc,Blk.farCells (Ne.symm n2) _ 0 (Blk.farCells (Ne.symm n1) _ 0 f1),Blk.farCells (Ne.symm n3) _ 0 f2,f3,?_⟩
 rw[e3]
 exact Ωb (Ωb (Ωb ((((Only.refl _ _).alloc _).alloc _).alloc _) N 0 (.inr (by omega)) _) M 0 (.inr (by omega)) _) K 0 (.inr (by omega)) _
end
section
theorem Ωdt{a b:Hd}(h:a.size≠b.size):agT a b=true:=by
 unfold agT
 rw[ΩeY]
 simp[h]
theorem ΩjF{a b:Hd}(h:a.size=b.size)(hn:a≠b):agT a b=false:=by
 unfold agT
 rw[ΩeY]
 have:eqHd a b=false:=by
  cases he:eqHd a b with
  |false=>rfl
  |true=>exact absurd (Ωas.1 he) hn
 simp[h,this]
theorem agT_self(a:Hd):agT a a=true:=by
 unfold agT
 rw[ΩeY]
 simp[Ωas.2 rfl]
theorem agT_true{a b:Hd}(h:a.size=b.size→a=b):agT a b=true:=by
 by_cases e:a.size=b.size
 ·rw[h e];exact agT_self b
 ·exact Ωdt e
end
section
open Go.RowKit Go.Shelf
theorem evAt_ok(d:Wd)(second:Bool)(k:Nat)(hk:k≤2000)(last:Hs)(hl:last.length=32)(x:Nat):(evAt d second k last x).Ok :=Ωh5 (ΩkT d second k hk last hl x) _
theorem evAt_short(d:Wd)(second:Bool)(k:Nat)(last:Hs)(x:Nat):(evAt d second k last x).name.size≤100∧(evAt d second k last x).text.size≤100:=Ωgg _ _ (ΩgV d second k last x)
theorem Ωjr(d:Wd)(second:Bool):∀(l:List UInt8) (k:Nat) (last:Hs),last.length=32→∀(i:Nat) (e:Ev),(ΩcY d second k last l)[i]? =some e→∃(prev:Hs) (x:UInt8),prev.length=32∧l[i]? =some x∧e=evAt d second (k+i) prev x.toNat
 |[],_,_,_,i,e,h=>by simp[ΩcY] at h
 |x::l,k,last,hl,0,e,h=>by
  simp only[ΩcY,ΩnF,Option.some.injEq] at h
  exact⟨last,x,hl,rfl,h.symm⟩
 |x::l,k,last,hl,i+1,e,h=>by
  simp only[ΩcY,ΩnK] at h
  obtain⟨prev,y,h1,h2,h3⟩:=Ωjr d second l (k+1) _ (ΩaX _) i e h
  exact⟨prev,y,h1,by rw[ΩnK];exact h2,by rw[h3,show k+(i+1)=k+1+i by omega]⟩
theorem evsW_len(d:Wd)(second:Bool):(evsW d second).length =min 12 d.kinds.length:=by
 unfold evsW
 rw[ΩgS,ΩnB]
theorem Ωl9(d:Wd)(second:Bool):(evsW d second).length≤12:=by rw[evsW_len];omega
theorem evsW_get{d:Wd}{second:Bool}{i:Nat}{e:Ev}(h:(evsW d second)[i]? =some e):∃(prev:Hs) (x:UInt8),prev.length=32∧d.kinds[i]? =some x∧i<12∧e=evAt d second i prev x.toNat:=by
 unfold evsW at h
 obtain⟨prev,x,h1,h2,h3⟩:=Ωjr d second _ 0 Ωr rfl i e h
 have hi:i<12:=by
  have:=(Ωnx.1 h2).1
  rw[ΩnB] at this
  omega
 refine⟨prev,x,h1,?_,hi,by rw[h3,ΩnR]⟩
 rw[ΩoC,ΩnV hi] at h2
 exact h2
theorem Ωfk{d:Wd}{second:Bool}{e:Ev}(h:e∈evsW d second):e.Ok∧e.name.size≤100∧e.text.size≤100:=by
 obtain⟨i,hi⟩:=List.mem_iff_getElem?.1 h
 obtain⟨prev,x,h1,_,h12,rfl⟩:=evsW_get hi
 exact⟨evAt_ok d second i (by omega) prev h1 _,evAt_short d second i prev _⟩
noncomputable def lvW(d:Wd)(second:Bool):List ByteArray:=Ωdf (evsW d second)
theorem ΩjV(d:Wd)(second:Bool):(lvW d second).length =(evsW d second).length :=leavesE_len _
theorem ΩlT(d:Wd)(second:Bool):(lvW d second).length≤12:=by rw[ΩjV];exact Ωl9 d second
theorem Ωgz(d:Wd)(second:Bool):Ωb7 (lvW d second):=fun s hs=>by
 obtain⟨e,he,rfl⟩:=Ωos.1 hs
 have h:=Ωfk he
 have h2:=Ωdl h.1 (by omega) (by omega)
 show(ΩaJ e).toArray.size≤_
 rw[ΩnJ]
 exact h2
theorem Ωe3{L:List ByteArray}(h:Ωb7 L)(n:Nat):Ωb7 (L.take n):=fun s hs=>h s (ΩnY hs)
theorem StSl.first{W:World}{A:Option Addr}{n cap k:Nat}{L:List ByteArray}(h:StSl W (.slice A n cap) L)(hk:k≤L.length):StSl W (.slice A k cap) (L.take k):=by
 obtain⟨A',cap',e,h1,h2,h3⟩:=h
 cases e
 refine⟨A,cap,by rw[ΩnB,Nat.min_eq_left hk],by rw[ΩnB];omega,h2,fun i s hs=>h3 i s ?_⟩
 rw[ΩoC] at hs
 split at hs
 ·exact hs
 ·cases hs
theorem growL_len(l:List (List UInt8))(m:Nat):(ΩbC l m).length≤l.length:=by
 unfold ΩbC
 split
 ·exact Ωoh _
 ·rw[Ωog]
  exact Ωcu _ _ _ _
end
section
open Go.RowKit Go.Shelf
structure Ac where
 what:Int
 n:Int
 size:Int
 from_:Int
 second:Bool
 bits:Nat
 wrong:Nat
 b0:Int
 b1:Int
structure Ac.Ok(a:Ac):Prop where
 what:In a.what
 n:In a.n
 size:In a.size
 from_:In a.from_
 bits:a.bits<65536
 wrong:a.wrong<65536
 b0:In a.b0
 b1:In a.b1
abbrev acC(a:Ac):Array Value:= #[.int .i64 a.what,.int .i64 a.n,.int .i64 a.size,.int .i64 a.from_,.bool a.second,.int .u16 (a.bits:Int),.int .u16 (a.wrong:Int),.int .i64 a.b0,.int .i64 a.b1]
abbrev tAc:TypeId:=70
abbrev tCl:TypeId:=81
def bd0:Bd:=⟨0,⟨#[]⟩,[],⟨#[]⟩,[]⟩
def clA(wh:Int)(b:Bd)(A:Option Addr)(k:Nat):List Value:=[.int .i64 wh,.int .i64 b.bidder,.string b.qt,.slice A b.qc.length k,.string b.pt,.slice none b.pc.length 0]
def clL(wh:Int)(b:Bd)(A:Option Addr)(k:Nat)(e:Ev)(gv rv:Value):List Value:=clA wh b A k++(evC e++[gv,rv])
def Ωmf(v:Value):Sem Value:=Instr.loadAt 81 v
theorem Ωg7(v:Value):Instr.loadAt 81 v=Ωmf v:=rfl
def Ωg6(p v:Value):Sem Unit:=Instr.storeAt 81 p v
theorem Ωfn(p v:Value):Instr.storeAt 81 p v=Ωg6 p v:=rfl
def Ωnm:Sem Value:=Instr.alloc 81 true (.tuple #[])
theorem ΩiE:Instr.alloc 81 true (.tuple #[])=Ωnm:=rfl
def cl0:List Value:=clL 0 bd0 none 0 Ωam (.slice none 0 0) (.slice none 0 0)
theorem Ωjy(W:World):Ωnm.run Tryz.prog W= .ok (.pointer (some ⟨W.heap.size,0,none⟩)) (W.alloc (.cells cl0.toArray tCl)):=by kernel_rfl
section
variable {w W:World} {g:Nat} {wh:Int} {b:Bd} {A:Option Addr} {k:Nat} {e:Ev} {gv rv:Value}
theorem ΩcU(h:e.prev.length=32):(clL wh b A k e gv rv).length =54:=by simp[clL,clA,Ωaa h]
theorem Ωfo:cl0.length=54:=ΩcU rfl
abbrev ClB(W:World)(g:Nat)(wh:Int)(b:Bd)(A:Option Addr)(k:Nat)(e:Ev)(gv rv:Value):Prop:=Blk W g tCl (clL wh b A k e gv rv).toArray
theorem Ωlj{i:Nat}{v:Value}(h:ClB W g wh b A k e gv rv)(hi:(clL wh b A k e gv rv)[i]? =some v):W.cell? ⟨g,i,none⟩=some v:=by rw[h.cell];simpa using hi
theorem ΩiB(h:ClB W g wh b A k e gv rv):W.cell? ⟨g,0,none⟩=some (.int .i64 wh):=Ωlj h rfl
theorem cl_text(h:ClB W g wh b A k e gv rv):W.cell? ⟨g,15,none⟩=some (.string e.text):=Ωlj h rfl
theorem Ωmd(he:e.prev.length=32)(j:Nat):(clL wh b A k e gv rv)[52+j]? =[gv,rv][j]? :=by
 unfold clL
 rw[ΩnM (by show 6≤_;omega),show(clA wh b A k).length =6 from rfl,ΩnM (by rw[Ωaa he];omega),Ωaa he]
 congr 1;omega
theorem ΩiD(h:ClB W g wh b A k e gv rv)(he:e.prev.length=32):W.cell? ⟨g,52,none⟩=some gv:=Ωlj h (Ωmd he 0)
theorem Ωk2(h:ClB W g wh b A k e gv rv)(he:e.prev.length=32):W.cell? ⟨g,53,none⟩=some rv:=Ωlj h (Ωmd he 1)
theorem ΩmO{i:Nat}{v:Value}{wh' :Int}{b' :Bd}{A' :Option Addr}{k' :Nat}{e' :Ev}{gv' rv' :Value}(h:ClB W g wh b A k e gv rv)(hs:(clL wh b A k e gv rv).set i v=clL wh' b' A' k' e' gv' rv'):ClB (W.setCell ⟨g,i,none⟩ v) g wh' b' A' k' e' gv' rv' :=by
 have h1:=Blk.set_ h i v
 rw[show((clL wh b A k e gv rv).toArray).setIfInBounds i v=(clL wh' b' A' k' e' gv' rv').toArray by rw[ΩnX,hs]] at h1
 exact h1
theorem cl_put_proof(h:ClB W g wh b A k e gv rv)(he:e.prev.length=32)(x:Value):ClB (W.setCell ⟨g,52,none⟩ x) g wh b A k e x rv:=by
 refine ΩmO h ?_
 unfold clL
 rw[Ωof _ _ (by show 6≤_;omega),show(clA wh b A k).length =6 from rfl,Ωof _ _ (by rw[Ωaa he];omega),Ωaa he]
 rfl
theorem cl_put_text(h:ClB W g wh b A k e gv rv)(t:ByteArray):ClB (W.setCell ⟨g,15,none⟩ (.string t)) g wh b A k {e with text:=t} gv rv:=ΩmO h rfl
theorem cl_put_ev(h:ClB W g wh b A k e gv rv)(he:e.prev.length=32){e' :Ev}(he' :e'.prev.length=32):ClB (W.setCells g 6 (evC e')) g wh b A k e' gv rv:=by
 have h1:=Blk.setCells (evC e') 6 h
 have e9:ΩaN (clL wh b A k e gv rv) 6 (evC e')=clL wh b A k e' gv rv:=by
  rw[Ωbr _ _ _ (by rw[ΩcU he,Ωaa he'];omega),Ωaa he']
  unfold clL
  have e1:(clA wh b A k++(evC e++[gv,rv])).take 6=clA wh b A k:=by rw[Ωom (by exact Ωnv 6)];rfl
  have e2:(clA wh b A k++(evC e++[gv,rv])).drop (6+46)=[gv,rv]:=by
   rw[←List.drop_drop,show(clA wh b A k++(evC e++[gv,rv])).drop 6=evC e++[gv,rv] from rfl,List.drop_append,Ωaa he,Ωoi (by rw[Ωaa he];exact Ωnv _)]
   rfl
  rw[e1,e2,ΩoA]
 rw[e9] at h1
 exact h1
theorem Ωnl(h:ClB W g wh b A k e gv rv):W.rangeAt g 6 (evC e):=fun j v hj=>by
 have hj2:=(Ωnx.1 hj).1
 refine Ωlj h ?_
 unfold clL
 rw[ΩnM (by show 6≤_;omega),show(clA wh b A k).length =6 from rfl,Nat.add_sub_cancel_left,Ωn1 hj2]
 exact hj
theorem Ωme(h:ClB W g wh b A k e gv rv)(he:e.prev.length=32):(Ωmf (.pointer (some ⟨g,0,none⟩))).run Tryz.prog W= .ok (.agg (clL wh b A k e gv rv).toArray) W:=
 ΩoG W g 0 81 (clL wh b A k e gv rv) _ (Ωd h) Tryz.underlying81 rfl (by rw[ΩcU he];kernel_rfl)
theorem cl_one(hg:gv.oneCell' =true)(hr:rv.oneCell' =true):∀v∈clL wh b A k e gv rv,v.oneCell' =true:=fun v hv=>by
 unfold clL clA at hv
 simp only[ΩoH,Ωn3,Ωol,or_false] at hv
 rcases hv with(rfl|rfl|rfl|rfl|rfl|rfl)|hv|rfl|rfl
 ·rfl
 ·rfl
 ·rfl
 ·rfl
 ·rfl
 ·rfl
 ·exact Ωiw e v hv
 ·exact hg
 ·exact hr
theorem ΩiC{cs:List Value}(h:Blk W g tCl cs.toArray)(hl:cs.length=54)(he:e.prev.length=32)(hg:gv.oneCell' =true)(hr:rv.oneCell' =true):(Ωg6 (.pointer (some ⟨g,0,none⟩)) (.agg (clL wh b A k e gv rv).toArray)).run Tryz.prog W= .ok () (W.setCells g 0 (clL wh b A k e gv rv)):=
 run_storeAt_mid (P:=Tryz.prog) W g 0 81 (clL wh b A k e gv rv).toArray (h.there 0 _ (by simp[ΩcU he,hl])) (by rw[ΩnJ,ΩcU he];kernel_rfl) (all_oneCell_toArray (cl_one hg hr))
theorem Ωg5{cs:List Value}(h:Blk W g tCl cs.toArray)(hl:cs.length=54)(he:e.prev.length=32):ClB (W.setCells g 0 (clL wh b A k e gv rv)) g wh b A k e gv rv:=h.filled _ (by rw[ΩcU he,hl])
theorem cl_store_ev(h:ClB W g wh b A k e gv rv)(he:e.prev.length=32){e' :Ev}(he' :e'.prev.length=32):(ΩgU (.pointer (some ⟨g,6,none⟩)) (.agg (evC e').toArray)).run Tryz.prog W= .ok () (W.setCells g 6 (evC e')):=
 run_storeAt_mid (P:=Tryz.prog) W g 6 79 (evC e').toArray (h.there 6 _ (by simp[ΩcU he,Ωaa he'])) (by rw[ΩnJ,Ωaa he'];kernel_rfl) (all_oneCell_toArray (Ωiw e'))
end
structure Cl where
 what:Int
 bid:Bd
 ev:Ev
 proof:List Hs
 votes:List Vt
noncomputable def Ωcc(d:Wd)(a:Ac):List Hs:=
 let sz:=(a.size%(((lvW d a.second).length :Int)+1)).toNat
 if a.what%6<4 then ΩbC (txs ((lvW d a.second).take sz)) (a.from_%((sz:Int)+1)).toNat
 else if(lvW d a.second).length =0 then []
 else
  let n:=(a.n%((lvW d a.second).length :Int)).toNat
  if n<sz then(Ωch sz (txs ((lvW d a.second).take sz)) n).reverse else []
noncomputable def Ωfw(d:Wd)(a:Ac):Ev:=
 if a.what%6<4∨(lvW d a.second).length =0 then Ωam
 else
  let e:=(evsW d a.second)[(a.n%((lvW d a.second).length :Int)).toNat]?.getD Ωam
  if a.n.tmod 7=6 then {e with text:=e.text++⟨#[32]⟩} else e
noncomputable def ΩeB(d:Wd)(a:Ac):Cl where
 what:=a.what%6
 bid:=bidW a.n
 ev:=Ωfw d a
 proof:=if 0≤a.b0 then Ωau (Ωcc d a) a.b0 a.b1 else Ωcc d a
 votes:=Ω7 d (hdOf ((lvW d a.second).take (a.size%(((lvW d a.second).length :Int)+1)).toNat)) a.bits a.wrong
end
section
open Go.RowKit Go.Shelf
theorem rpath_out(i len cap:Nat)(A:Option Addr)(hi:len≤i)(_hl:len≤1000)(hi2:i≤1000)(w:World):
  Calls Tryz.prog 29 #[.slice A len cap,.int .i64 (i:Int)] w fun e w' =>e= .returned (.tuple #[.slice none 0 0,.bool false])∧Only Ωa w w' :=by
 have d1:decide ((i:Int)<0)=false:=Ωny (by omega)
 have d2:decide ((len:Int)≤(i:Int))=true:=ΩnG (by omega)
 have i2:(len:Int)≤(i:Int):=by omega
 have hO:Only Ωa w w.drew:=(Only.refl _ _).drew
 have hO1:Only Ωa w w:=Only.refl _ _
 go_enter Tryz.func29,Tryz.ntmps29
 go_wp2_with fail
 go_ret2
 exact⟨rfl,by first|assumption|exact hO.drew⟩
theorem rbid31_own(n:Int)(hn:In n)(w:World):Calls Tryz.prog 31 #[.int .i64 n] w fun e w' =>∃g,e= .returned (.agg (Ωae (bidW n) (some ⟨g,0,none⟩) none 1 0))∧w.heap.size≤g∧Blk w' g 3 #[.int .i64 4]∧Only Ωa w w' :=by
 have hmd:∀W,Calls Tryz.prog 16 #[.int .i64 n,.int .i64 4] W fun e w' =>e= .returned (.int .i64 (n%4))∧w' =W:=fun W=>Ωcs n 4 hn (by omega) (by omega) W
 obtain⟨q,eq⟩:∃q:Nat,q=(n%4).toNat :=⟨_,rfl⟩
 have hq:n%4=(q:Int):=by omega
 have hq4:q<4:=by omega
 rw[hq] at hmd
 obtain⟨c,ec⟩:∃c,c=UInt8.ofNat (97+q):=⟨_,rfl⟩
 have hc:(c.toNat:Int)=97+(q:Int):=by rw[ec];simp[UInt8.toNat_ofNat];omega
 have hqt:(bidW n).qt =⟨#[113]⟩++⟨#[c]⟩:=by
  show(⟨#[113,UInt8.ofNat (97+(n%4).toNat)]⟩:ByteArray)=_
  rw[←eq,←ec];rfl
 have w1:IntKind.i64.wrap (97+(q:Int))=(c.toNat:Int):=by rw[←hc];exact ΩnH _ (by have:=c.toNat_lt;omega)
 have w2:IntKind.u8.wrap (c.toNat:Int)=(c.toNat:Int):=by have:=c.toNat_lt;rw[IntKind.wrap_u8];omega
 have w3:(c.toNat:Int)%256=(c.toNat:Int):=by have:=c.toNat_lt;omega
 have L1:(⟨[c].toArray⟩:ByteArray).size =1:=rfl
 have HMD:=Θ hmd
 have HQT:=Θ hqt
 unfold Ωae
 rw[hqt]
 clear hmd hq eq hc ec hqt
 have tok:True:=trivial
 have hby:ΩI ((w.alloc (.cells #[.int .i64 0,.string ⟨#[]⟩,.slice none 0 0,.string ⟨#[]⟩,.slice none 0 0] tBid)).alloc (.cells #[.int .u8 (c.toNat:Int)] 5)) (w.heap.size+1) 0 [c]:=by
  have h:=Ωds (Blk.new (w.alloc (.cells #[.int .i64 0,.string ⟨#[]⟩,.slice none 0 0,.string ⟨#[]⟩,.slice none 0 0] tBid)) 5 ([c].map bv).toArray)
  rw[Ωnw] at h
  exact h
 have HBY:=Θ hby
 clear hby
 go_enter Tryz.func31,Tryz.ntmps31
 go_wp2_with fail
 refine(HMD.out _).mono ?_
 rintro e1 v1 ⟨rfl,rfl⟩
 go_wp2_with (have _t:=tok;refine Ωy rfl 22 9 5 (.tmp 7) rfl (w.heap.size+1) 0 1 1 rfl [c] rfl HBY.out Tryz.underlying22 Tryz.underlying5 Tryz.underlying9 ?_;clear tok _t)
 have hinf:(Tryz.prog.info? tBid).map (·.size)=some 5:=by kernel_rfl
 refine bodyPost_ret (v:= .agg #[.int .i64 60,.string ((⟨#[113]⟩:ByteArray)++⟨#[c]⟩),.slice (some ⟨w.heap.size+1+1,0,none⟩) 1 1,.string ⟨#[]⟩,.slice none 0 0]) (Ωn rfl rfl (((Blk.new w _ _).alloc _).alloc _) Tryz.underlying75 rfl (by simpa using hinf)) rfl ⟨w.heap.size+1+1,rfl,by omega,?_,(((Only.refl _ _).alloc _).alloc _).alloc _⟩
 have h:=Blk.new ((w.alloc (.cells #[.int .i64 60,.string ((⟨#[113]⟩:ByteArray)++⟨#[c]⟩),.slice (some ⟨w.heap.size+1+1,0,none⟩) 1 1,.string ⟨#[]⟩,.slice none 0 0] tBid)).alloc (.cells #[.int .u8 (c.toNat:Int)] 5)) 3 #[.int .i64 4]
 rw[Ωnw,Ωnw] at h
 exact h
end
end Go.Proofs.YtgalfohobgjelaaGreatDoor
