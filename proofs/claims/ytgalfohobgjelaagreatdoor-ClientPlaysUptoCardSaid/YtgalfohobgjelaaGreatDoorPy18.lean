/- What is proved here: a part of the proof that 'probitylaw31.ClientPlays' answers true. Conditions: each theorem's own. -/
import Derived.Test.YtgalfohobgjelaaGreatDoorPy04
import Derived.Lib.Join
import Derived.Deep.RegionWith
import Derived.Laws.EntriesVeiled
import Derived.Deep.DeepCutAuto
import Derived.Defers
set_option maxRecDepth 100000
set_option maxHeartbeats 8000000
namespace Go.Proofs.YtgalfohobgjelaaGreatDoor
section
def ΩdL(e:Ev):List UInt8:=shaL (ΩaJ e)
def zeros32:List UInt8:=List.replicate 32 0
end
section
open Go.ChangeShapes Go.WideShapes Go.ChangeAt Go.RowKit Go.Deep
abbrev tEv:TypeId:=79
def evC(e:Ev):List Value:=[.int .i64 e.seq,.int .i64 e.kind,.int .i64 e.who,.int .i64 e.time,.int .i64 e.bidder,.int .i64 e.lot,.int .i64 e.n,.int .i64 e.other,.string e.name,.string e.text,.int .i64 e.sx,.int .i64 e.sy]++(e.prev.map bv++[.int .i64 e.r,.int .i64 e.s])
theorem Ωaa{e:Ev}(h:e.prev.length=32):(evC e).length =46:=by simp[evC,h]
section
variable {H:Type} {enc:TypeId×Value→H} {w:World} {base:Nat} {spare:Nat→Bool} {held:Bool}
end
end
section
open Go.RowKit Go.Shelf
def Ωfd:List (List UInt8)→List UInt8
 |[]=>[]
 |x::l=>x++l.flatMap (fun y=>32::y)
def Ωap(l:List (List UInt8)):Nat:=(l.map List.length).foldl (·+·) 0
theorem foldl_add(l:List Nat):∀a,l.foldl (·+·) a=a+l.foldl (·+·) 0:=by
 induction l with
 |nil=>intro a;simp
 |cons x l ih=>intro a;rw[List.foldl_cons,List.foldl_cons,ih,ih (0+x)];omega
theorem ΩaQ(x:List UInt8)(l:List (List UInt8)):Ωap (x::l)=x.length+Ωap l:=by
 unfold Ωap
 rw[ΩoF,List.foldl_cons,foldl_add]
 omega
theorem ΩgB(l:List (List UInt8))(x:List UInt8):Ωap (l++[x])=Ωap l+x.length:=by
 unfold Ωap
 rw[Ωow,List.foldl_append]
 rfl
theorem ΩcP(l:List (List UInt8))(k:Nat):Ωap (l.take k)≤Ωap l:=by
 induction l generalizing k with
 |nil=>simp
 |cons x l ih=>
  cases k with
  |zero=>simp[Ωap]
  |succ k=>rw[Ωoc,ΩaQ,ΩaQ];have:=ih k;omega
theorem Ωh1(l:List (List UInt8)):(l.flatMap (fun y=>32::y)).length =l.length+Ωap l:=by
 induction l with
 |nil=>rfl
 |cons x l ih=>rw[ΩnW,ΩnA,ih,ΩaQ,ΩnD,ΩnD];omega
theorem joinW_len(x:List UInt8)(l:List (List UInt8)):(Ωfd (x::l)).length =Ωap (x::l)+l.length:=by
 rw[Ωfd,ΩnA,Ωh1,ΩaQ];omega
def ΩhT(w:World)(b o:Nat)(xs:List ByteArray):Prop:=∀(j:Nat) (x:ByteArray),xs[j]? =some x→w.cell? ⟨b,o+j,none⟩=some (.string x)
theorem sjoin_any(x0:ByteArray)(r:List ByteArray)(bk o c n:Nat)(w:World)(hx:ΩhT w bk o (x0::r))(hn:n=r.length+1)(h2:1≤r.length)(hN:r.length≤1000)(hcap:n≤c)(hc:c≤9223372036854775807)(hlen:Ωap ((x0::r).map (·.data.toList))≤35184372088832):
  Calls Tryz.prog 153 #[.slice (some ⟨bk,o,none⟩) n c,.string ⟨#[32]⟩] w (Ωq (Ωfd ((x0::r).map (·.data.toList))) w):=by
 have hcell:=fun(j:Nat) (x:ByteArray) (h:(x0::r)[j]? =some x)=>hx j x h
 have hdv:¬(9223372036854775807/((n:Int)-1)≤1):=by
  have h1:(2:Int)≤9223372036854775807/((n:Int)-1):=by
   rw[Int.le_ediv_iff_mul_le (by omega)]
   omega
  omega
 have hne0:((n:Int)==0)=false:=ΩnL.2 (by omega)
 have hne1:((n:Int)==1)=false:=ΩnL.2 (by omega)
 have n1:(1:Int)≤(n:Int)-1:=by omega
 have n2:(n:Int)-1≤1000:=by omega
 have e1:(⟨#[32]⟩:ByteArray).size =1:=rfl
 have hlc:((x0::r).map (·.data.toList)).length =n:=by rw[ΩnN,ΩnD,hn]
 obtain⟨L,eL⟩:∃L,L=(x0::r).map (·.data.toList):=⟨_,rfl⟩
 rw[←eL] at hlen hlc
 have HX:=Θ hx
 have HCELL:=Θ hcell
 have HLC:=Θ hlc
 have HLEN:=Θ hlen
 have EL:=Θ eL
 have HN:=Θ hn
 clear hx hcell hlc hlen hn
 go_enter Tryz.func153,Tryz.ntmps153
 go_wp2_with fail
 go_loop [5,41] (fun v i=>∃k:Nat,k≤n∧i= .int .i64 k∧v= .int .i64 ((n:Int)-1+(Ωap (L.take k):Int))) (fun _ i=>n-(intOf i).toNat)
 case atStart=>exact⟨0,Ωoh _,rfl,by simp[Ωap]⟩
 case round=>
  obtain⟨k,hk,rfl,rfl⟩:=hrel
  have hle:=ΩcP L k
  have hlen:=HLEN.out
  by_cases hkn:k<n
  ·obtain⟨x,hx⟩:∃x,(x0::r)[k]? =some x:=⟨_,Ωnu (by rw[ΩnD,←HN.out];exact hkn)⟩
   have hc0:=HCELL.out k x hx
   have hstep:Ωap (L.take (k+1))=Ωap (L.take k)+x.size:=by
    rw[ΩnO,EL.out,Ωn0,hx,Ωoe,ΩnS,ΩgB,Ωc]
   have hle2:=ΩcP L (k+1)
   obtain⟨a,ea⟩:∃a,a=Ωap (L.take k):=⟨_,rfl⟩
   rw[←ea] at hle hstep
   rw[←ea]
   have ik:(k:Int)<(n:Int):=by omega
   have hsz:x.size≤35184372088832:=by omega
   have HST:=Θ hstep
   clear hstep hx ea hle2
   go_wp2_with fail
   go_round
   case rel=>exact⟨k+1,by omega,by go_num,by rw[HST.out];congr 1;omega⟩
   case measure=>simp[intOf];omega
  ·obtain rfl:k=n:=by omega
   have hall:L.take k=L:=ΩnI (by rw[HLC.out];exact Ωnv _)
   rw[hall] at hle⊢
   clear hall
   obtain⟨T,eT⟩:∃T,T=Ωap L:=⟨_,rfl⟩
   rw[←eT] at hle hlen⊢
   have ET:=Θ eT
   clear eT
   obtain⟨M,eM⟩:∃M:Nat,M=k-1+T:=⟨_,rfl⟩
   have eM2:(k:Int)-1+(T:Int)=(M:Int):=by omega
   have hM:M≤140737488355328:=by omega
   go_wp2_with fail
   rw[show((k-1:Nat):Int)+(T:Int)=(M:Int) by omega]
   clear eM2
   refine(Tryz.Builder_Grow_fresh w.heap.size w.heap.size M _ (Ωnv _) (heap_alloc_new w _) (by simp) (by omega)).mono ?_
   rintro e w1 ⟨rfl,h1,hb1⟩
   have ho1:Only Ωa w w1:=((Only.refl Ωa w).alloc _).below' hb1 (Ωnv _)
   have hx1:=HCELL.out 0 x0 rfl
   rw[Nat.add_zero] at hx1
   have hc1:w1.cell? ⟨bk,o,none⟩=some (.string x0):=ho1.cell_some hx1 (fun e=>e)
   have H1:Hid (Lib.IsBuilder 161 5 w.heap.size w.heap.size (Lib.byteCells []) w1):=Θ (Or.inr h1)
   have HO1:=Θ ho1
   have hT0:T=x0.size+Ωap (r.map (·.data.toList)):=by rw[ET.out,EL.out,ΩoF,ΩaQ,Ωc]
   clear h1 hb1 ho1 hx1
   go_wp2_with fail
   refine(ΩcB H1.out (by simp;omega) HO1.out.size).mono ?_
   rintro e w2 ⟨rfl,h2',hb2⟩
   rw[ΩoD] at h2'
   have H2:=Θ h2'
   have HO2:=Θ (HO1.out.below' hb2 (Ωnv _))
   have hrk:r.length=k-1:=by have:=HN.out;omega
   obtain⟨R,eR⟩:∃R,R=r.map (·.data.toList):=⟨_,rfl⟩
   rw[←eR] at hT0
   have ER:=Θ eR
   have HT0:=Θ hT0
   have hTR:x0.size+Ωap R≤35184372088832:=by omega
   have hRl:R.length=k-1:=by rw[eR,ΩnN,hrk]
   have HRL:=Θ hRl
   have HRK:=Θ hrk
   clear hT0 eR hRl hrk
   have i2:(1:Int)≤(k:Int):=by omega
   have i3:(k:Int)≤(c:Int):=by omega
   have i4:¬(c:Int)=1:=by omega
   have i5:¬c=1:=by omega
   clear h2' hb2
   go_wp2_with fail
   go_loopw [65] (fun i wr=>∃j:Nat,j≤k-1∧i= .int .i64 j∧Lib.IsBuilder 161 5 w.heap.size w.heap.size (Lib.byteCells (x0.data.toList++(R.take j).flatMap (fun y=>32::y))) wr∧Only Ωa w wr) (fun i _=>k-1-(intOf i).toNat)
   case atStart=>exact⟨0,Ωoh _,rfl,by simpa using H2.out,HO2.out⟩
   case round=>
    obtain⟨j,hj,rfl,hb,ho⟩:=hrel
    have HB:=Θ hb
    have HO:=Θ ho
    clear hb ho
    have hpl:(x0.data.toList++(R.take j).flatMap (fun y=>32::y)).length≤x0.size+(k-1)+Ωap R:=by
     rw[ΩnA,Ωh1,ΩnB,←Ωc]
     have:=ΩcP R j
     have:=HRL.out
     omega
    by_cases hjr:j<k-1
    ·obtain⟨y,hy⟩:∃y,r[j]? =some y:=⟨_,Ωnu (by rw[HRK.out];exact hjr)⟩
     have hcy:=HCELL.out (j+1) y (by simpa using hy)
     have hcy2:wr.cell? ⟨bk,o+1+j,none⟩=some (.string y):=by
      rw[show o+1+j=o+(j+1) by omega]
      exact HO.out.cell_some hcy (fun e=>e)
     have hRy:R[j]? =some y.data.toList:=by rw[ER.out,Ωn0,hy];rfl
     have hnx:(R.take (j+1)).flatMap (fun y=>32::y)=(R.take j).flatMap (fun y=>32::y)++(32::y.data.toList):=by
      rw[ΩnO,hRy,ΩnS,Ωn2];simp
     have hys:(x0.data.toList++(R.take j).flatMap (fun y=>32::y)).length +1+y.size≤140737488355328:=by
      have h1:=ΩcP R (j+1)
      rw[ΩnO,hRy,ΩnS,ΩgB,←Ωc] at h1
      rw[ΩnA,Ωh1,ΩnB,←Ωc]
      have:=HRL.out
      omega
     have ij:(j:Int)<((k-1:Nat):Int):=by omega
     have HNX:=Θ hnx
     clear hy hcy hRy hnx
     go_wp2_with fail
     refine(ΩcB HB.out (by rw[e1];omega) HO.out.size).mono ?_
     rintro e w3 ⟨rfl,h3,hb3⟩
     have H3:=Θ h3
     have HO3:=Θ (HO.out.below' hb3 (Ωnv _))
     clear h3 hb3
     go_wp2_with fail
     refine(ΩcB H3.out (by rw[ΩnA];show _+1+_≤_;omega) HO3.out.size).mono ?_
     rintro e w4 ⟨rfl,h4,hb4⟩
     have hcat:x0.data.toList++(R.take j).flatMap (fun y=>32::y)++(⟨#[32]⟩:ByteArray).data.toList ++y.data.toList=x0.data.toList++(R.take (j+1)).flatMap (fun y=>32::y):=by
      rw[HNX.out]
      simp
     rw[hcat] at h4
     have H4:=Θ h4
     have HO4:=Θ (HO3.out.below' hb4 (Ωnv _))
     clear h4 hb4 hcat
     go_wp2_with fail
     go_roundw
     case rel=>exact⟨j+1,by omega,by go_num,H4.out,HO4.out⟩
     case measure=>simp[intOf];omega
    ·obtain rfl:j=k-1:=by omega
     have hall:R.take (k-1)=R:=ΩnI (by rw[HRL.out];exact Ωnv _)
     rw[hall] at HB
     clear hall hpl
     go_wp2_with fail
     refine(Tryz.Builder_String_any w.heap.size w.heap.size _ wr HB.out HO.out.size).mono ?_
     rintro e w5 ⟨rfl,hbel⟩
     have HO5:=Θ (HO.out.below' hbel (Ωnv _))
     clear hbel
     go_wp2_with fail
     go_ret
     exact Ωq.mk (by rw[ΩoF,Ωfd,←ER.out]) HO5.out
end
section
open Go.RowKit Go.Shelf
theorem ΩlY:(Tryz.prog.info? 9).map (fun i=>(i.zero,i.size,i.bytes))=some (some (.string ⟨#[]⟩),1,16):=by kernel_rfl
theorem Ωfa:∀ns:List Int,ΩdJ ns=Ωfd (ns.map Lib.itoa)
 |[]=>rfl
 |[n]=>by simp[ΩdJ,Ωfd]
 |n::m::l=>by
  have ih:=Ωfa (m::l)
  simp only[ΩdJ,ih,Ωfd,ΩoF,ΩnW,Ωn9]
theorem join_quo(a b c d e:List UInt8):Ωfd [a,b,c,d,e]=a++32::(b++32::(c++32::(d++32::e))):=by
 simp[Ωfd]
theorem join_two(a b:List UInt8):Ωfd [a,b]=a++32::b:=by simp[Ωfd]
def ΩjI(w:World)(g:Nat)(ns:List Int):Prop:=∀(j:Nat) (x:Int),ns[j]? =some x→w.cell? ⟨g,j,none⟩=some (.int .i64 x)
theorem ΩgF{w:World}{g:Nat}{t:TypeId}{ns:List Int}(h:Blk w g t (ns.map (fun x=>Value.int .i64 x)).toArray):ΩjI w g ns:=fun j x hx=>by
 rw[h.cell,ΩnC,Ωn0,hx];rfl
theorem Ωh2{w:World}{g:Nat}{t:TypeId}{xs:List ByteArray}(h:Blk w g t (xs.map (fun x=>Value.string x)).toArray):ΩhT w g 0 xs:=fun j x hx=>by
 rw[ΩnR,h.cell,ΩnC,Ωn0,hx];rfl
theorem Ωfj(x0:ByteArray)(r:List ByteArray)(bk o c n:Nat)(w:World)(hx:ΩhT w bk o (x0::r))(hn:n=r.length+1)(h2:1≤r.length)(hN:r.length≤1000)(hcap:n≤c)(hc:c≤9223372036854775807)(hlen:Ωap ((x0::r).map (·.data.toList))≤35184372088832):
  Calls Tryz.prog 107 #[.slice (some ⟨bk,o,none⟩) n c] w (Ωq (Ωfd ((x0::r).map (·.data.toList))) w):=by
 have HJ:=Θ (sjoin_any x0 r bk o c n w hx hn h2 hN hcap hc hlen)
 clear hx hn hlen
 go_enter Tryz.func107,Tryz.ntmps107
 go_wp2_with fail
 refine HJ.out.mono ?_
 rintro e w1 ⟨t,rfl,ht,ho⟩
 have HT:=Θ ht
 have HO:=Θ ho
 clear ht ho
 go_wp2_with fail
 go_ret
 exact Ωq.mk HT.out HO.out
theorem ΩgW(s:ByteArray)(hs:s.size≤17592186044416)(w:World)(ht:Tab w):Calls Tryz.prog 151 #[.string s] w (Ωq (quoL s.data.toList) w):=by
 have hi:=ΩdC (s.size:Int) (by omega) (by omega) w ht
 have hl:=ΩV (n:=(s.size:Int)) (by omega) (by omega)
 have HI:=Θ hi
 clear hi
 go_enter Tryz.func151,Tryz.ntmps151
 go_wp2_with fail
 refine HI.out.mono ?_
 rintro e w1 ⟨t,rfl,htl,ho⟩
 have hts:t.size≤21:=by rw[Ωc,htl];exact hl
 have h1:t.size+1≤9223372036854775807:=by omega
 have h2:t.size+1+s.size≤9223372036854775807:=by omega
 have HT:=Θ htl
 have HO:=Θ ho
 clear htl ho hl
 go_wp2_with fail
 go_ret
 exact Ωq.mk (by rw[ΩnP,ΩnP,ΩnQ,ΩnQ,HT.out,Ωc];simp[quoL]) HO.out
theorem Ωd9:∀ns:List Int,(∀n∈ns,In n)→Ωap (ns.map Lib.itoa)≤21*ns.length
 |[],_=>by simp[Ωap]
 |n::l,h=>by
  have ih:=Ωd9 l (fun x hx=>h x (by simp[hx]))
  have h1:=ΩV (h n (by simp)).1 (h n (by simp)).2
  rw[ΩoF,ΩaQ,ΩnD]
  omega
theorem Ωfx(ns:List Int)(g c m:Nat)(w:World)(hi:ΩjI w g ns)(hin:∀n∈ns,In n)(hm:m=ns.length)(h2:2≤m)(hN:m≤100)(hcap:m≤c)(hc:c≤9223372036854775807)(ht:Tab w):
  Calls Tryz.prog 108 #[.slice (some ⟨g,0,none⟩) m c] w (Ωq (ΩdJ ns) w):=by
 obtain⟨i0,hi0,hz0,hz1,hz2⟩:=info_parts ΩlY
 have HI:=Θ hi
 have HIN:=Θ hin
 have HM:=Θ hm
 have HT:=Θ ht
 clear hi hin hm ht
 go_enter Tryz.func108,Tryz.ntmps108
 go_wp2_with fail
 go_loopw [3,8] (fun v i wr=>∃(k:Nat) (ss:List ByteArray),i= .int .i64 k∧k≤m∧ss.map (·.data.toList)=(ns.take k).map Lib.itoa∧wr.ownsRow w.heap.size 9 1 v k (ss.map (fun x=>Value.string x))∧Only Ωa w wr) (fun _ i _=>m-(intOf i).toNat)
 case atStart=>exact⟨0,[],rfl,by omega,rfl,⟨rfl,.inl ⟨rfl,rfl⟩⟩,Only.refl _ _⟩
 case round=>
  obtain⟨k,ss,rfl,hk,hss,hown,ho⟩:=hrel
  have HOWN:=Θ hown
  have HO:=Θ ho
  have HSS:=Θ hss
  obtain⟨ao,cap,hv,hcc,hcm⟩:=Ωt hown
  subst hv
  have hwz:=ho.size
  clear hown ho hss
  by_cases hlt:k<m
  ·obtain⟨x,hx⟩:∃x,ns[k]? =some x:=⟨_,Ωnu (by rw[←HM.out];exact hlt)⟩
   have hc0:=HO.out.cell_some (HI.out k x hx) (fun e=>e)
   have hix:=HIN.out x (ΩnE hx)
   have hit:=ΩdC x hix.1 hix.2 wr (HT.out.none HO.out)
   have hnx:(ns.take (k+1)).map Lib.itoa=(ns.take k).map Lib.itoa++[Lib.itoa x]:=by
    rw[ΩnO,hx,ΩnS,Ωow];rfl
   have ik:(k:Int)<(m:Int):=by omega
   have HIT:=Θ hit
   have HNX:=Θ hnx
   clear hx hix hit hnx
   go_wp2_with fail
   refine HIT.out.mono ?_
   rintro e w1 ⟨t,rfl,ht,ho1⟩
   have hw1:=ho1.size
   have HO1:=Θ (HO.out.trans ho1)
   have HOW1:=Θ (Ωe HOWN.out ho1 (fun _ _ e=>e))
   have HT1:=Θ ht
   clear ho1 ht
   go_wp2_with (at_builtin;refine wpList_append_own _ rfl _ _ 28 rfl w.heap.size 9 i0 (.string ⟨#[]⟩) 1 16 Tryz.underlying28 hi0 hz0 hz1 hz2 rfl (by decide) _ _ _ rfl (HOW1.out.alloc _) ⟨w1.heap.size,0,none⟩ 1 1 [.string t] rfl rfl (fun j u hu=>by match j,hu with|0,hu=>simp at hu;subst hu;simp[Addr.add]) (fun u hu=>by simp at hu;subst hu;rfl) (by unfold maxLen;omega) (by omega) (by simp;omega) ?_;intro v' w2 hown' hgrow _;have HOW2:=Θ hown';have HO2:Hid (Only Ωa w w2):=Θ ((HO1.out.alloc _).grown hgrow (fun b e=> .inr (HOW1.out.lt b e).1));clear hown' hgrow)
   go_roundw
   case rel=>exact⟨k+1,ss++[t],by go_num,by omega,by rw[Ωow,HSS.out,HNX.out,List.map_singleton,HT1.out],by rw[Ωow];exact HOW2.out,HO2.out⟩
   case measure=>simp[intOf];omega
  ·obtain rfl:k=m:=by omega
   have hall:ns.take k=ns:=ΩnI (by rw[←HM.out];exact Ωnv _)
   have ik:¬(k:Int)<(k:Int):=by omega
   rw[hall] at HSS
   have hsl:ss.length=k:=by have h:=congrArg List.length HSS.out;rw[ΩnN,ΩnN,←HM.out] at h;exact h
   obtain⟨gg,cg,hvv,hg1,hg2,hg3,hg4⟩:=Ωcd HOWN.out (by omega)
   obtain⟨rfl,_,rfl⟩:ao=some ⟨gg,0,none⟩∧k=k∧cap=cg:=by simpa using hvv
   obtain⟨x0,r,rfl⟩:∃x0 r,ss=x0::r:=by
    cases ss with
    |nil=>simp at hsl;omega
    |cons x0 r=>exact⟨x0,r,rfl⟩
   have hst:ΩhT wr gg 0 (x0::r):=by
    rcases HOWN.out.2 with⟨hv,_⟩|⟨g',cap',cur,hv,_,hh,_,_,_,htk⟩
    ·simp at hv
    ·simp only[Value.slice.injEq,Option.some.injEq,Addr.mk.injEq,and_true,true_and] at hv
     obtain⟨rfl,rfl⟩:=hv
     intro j x hx
     have hj:j<k:=by rw[←hsl];exact(Ωnx.1 hx).1
     have h1:(cur.toList.take (k*1))[j]? =some (.string x):=by rw[htk,Ωn0,hx];rfl
     rw[ΩoC,ΩnV (by omega)] at h1
     rw[ΩnR]
     have h2:=Blk.cell (t:=9) hh j
     rw[h2]
     simpa using h1
   have hlen:Ωap ((x0::r).map (·.data.toList))≤35184372088832:=by
    rw[HSS.out]
    have:=Ωd9 ns HIN.out
    rw[←HM.out] at this
    omega
   have hrl:r.length=k-1:=by simp at hsl;omega
   have hw:=Ωfj x0 r gg 0 cap k wr hst (by omega) (by omega) (by omega) (by omega) (by rw[Ωg] at hg4;exact hg4) hlen
   have HW:=Θ hw
   clear hw hst hlen hsl hvv hall
   go_wp2_with fail
   refine HW.out.mono ?_
   rintro e w3 ⟨t,rfl,ht,ho3⟩
   have HT3:=Θ ht
   have HO3:=Θ (HO.out.trans ho3)
   clear ht ho3
   go_wp2_with fail
   go_ret
   exact Ωq.mk (by rw[HT3.out,HSS.out,Ωfa]) HO3.out
end
section
open Go.RowKit Go.Shelf
def EvAt(w:World)(B:Nat)(e:Ev):Prop:=Blk w B tEv (evC e).toArray
theorem ΩW{w:World}{B:Nat}{e:Ev}(h:EvAt w B e)(i:Nat):w.cell? ⟨B,i,none⟩=(evC e)[i]? :=by
 rw[Blk.cell h i];simp
theorem ΩfZ{w:World}{B:Nat}{e:Ev}(h:EvAt w B e):w.rangeAt B 12 (e.prev.map bv):=fun j v hj=>by
 rw[ΩW h]
 unfold evC
 rw[ΩnM (by simp),Ωn1 (by simp;have:=(Ωnx.1 hj).1;simpa using this)]
 simpa using hj
theorem ΩdQ{w:World}{B:Nat}{e:Ev}(h:EvAt w B e)(hp:e.prev.length=32):w.cell? ⟨B,44,none⟩=some (.int .i64 e.r)∧w.cell? ⟨B,45,none⟩=some (.int .i64 e.s):=by
 rw[ΩW h,ΩW h]
 unfold evC
 constructor
 ·rw[ΩnM (by simp),ΩnM (by simp[hp])];simp[hp]
 ·rw[ΩnM (by simp),ΩnM (by simp[hp])];simp[hp]
structure TxS(w:World)(B:Nat)(e:Ev)(W:World):Prop where
 at_:EvAt W B e
 only:Only Ωa w W
 tab:Tab W
theorem ΩhZ{w W W' :World}{B:Nat}{e:Ev}(h:TxS w B e W∧W.rangeAt B 12 (e.prev.map bv))(ho:Only Ωa W W'):TxS w B e W'∧W'.rangeAt B 12 (e.prev.map bv):=
 ⟨⟨h.1.at_.only ho (fun e=>e),h.1.only.trans ho,h.1.tab.none ho⟩,ΩfZ (h.1.at_.only ho (fun e=>e))⟩
theorem txs_alloc{w W:World}{B:Nat}{e:Ev}(h:TxS w B e W∧W.rangeAt B 12 (e.prev.map bv))(o:Obj):TxS w B e (W.alloc o)∧(W.alloc o).rangeAt B 12 (e.prev.map bv):=ΩhZ h ((Only.refl _ _).alloc o)
theorem txs_drew{w W:World}{B:Nat}{e:Ev}(h:TxS w B e W∧W.rangeAt B 12 (e.prev.map bv)):TxS w B e W.drew∧W.drew.rangeAt B 12 (e.prev.map bv):=ΩhZ h (Only.refl _ _).drew
def ΩeN:ByteArray:=⟨#[101,118,101,110,116]⟩
theorem Ev.Ok.nums_in{e:Ev}(he:e.Ok):∀n∈e.nums,In n:=by
 intro x hx
 simp only[Ev.nums,Ωn3,Ωol,or_false] at hx
 rcases hx with rfl|rfl|rfl|rfl|rfl|rfl|rfl|rfl|rfl|rfl<;>first|exact he.seq|exact he.kind|exact he.who|exact he.time|exact he.bidder|exact he.lot|exact he.n|exact he.other|exact he.sx|exact he.sy
theorem ΩaD(ns:List Int)(h:∀n∈ns,In n):(ΩdJ ns).length≤22*ns.length:=by
 rw[Ωfa]
 cases ns with
 |nil=>simp[Ωfd]
 |cons n l=>
  have h1:=Ωd9 (n::l) h
  rw[ΩoF,joinW_len,←ΩoF,ΩnN,ΩnD] at *
  omega
theorem Ωan(s:List UInt8)(h:s.length≤9223372036854775807):(quoL s).length≤s.length+22:=by
 unfold quoL
 have:=ΩV (n:=(s.length:Int)) (by omega) (by omega)
 rw[ΩnA,ΩnD]
 omega
theorem Ωjs(e:Ev)(he:e.Ok)(hn:e.name.size≤8796093022208)(hx:e.text.size≤8796093022208)(w:World)(ht:Tab w):Calls Tryz.prog 104 #[.agg (evC e).toArray] w (Ωq (Ω6 e) w):=by
 obtain⟨B,eB⟩:∃B,B=w.heap.size:=⟨_,rfl⟩
 obtain⟨X,eX⟩:∃X,X=w.alloc (.cells (evC e).toArray tEv):=⟨_,rfl⟩
 have hat:EvAt X B e:=by rw[eX,eB];exact Blk.new w _ _
 have hox:Only Ωa w X:=by rw[eX];exact(Only.refl _ _).alloc _
 have hS:TxS w B e X.drew∧X.drew.rangeAt B 12 (e.prev.map bv):=txs_drew ⟨⟨hat,hox,ht.none hox⟩,ΩfZ hat⟩
 have c0:∀W,TxS w B e W→W.cell? ⟨B,0,none⟩=some (.int .i64 e.seq):=fun W h=>ΩW h.at_ 0
 have c1:∀W,TxS w B e W→W.cell? ⟨B,1,none⟩=some (.int .i64 e.kind):=fun W h=>ΩW h.at_ 1
 have c2:∀W,TxS w B e W→W.cell? ⟨B,2,none⟩=some (.int .i64 e.who):=fun W h=>ΩW h.at_ 2
 have c3:∀W,TxS w B e W→W.cell? ⟨B,3,none⟩=some (.int .i64 e.time):=fun W h=>ΩW h.at_ 3
 have c4:∀W,TxS w B e W→W.cell? ⟨B,4,none⟩=some (.int .i64 e.bidder):=fun W h=>ΩW h.at_ 4
 have c5:∀W,TxS w B e W→W.cell? ⟨B,5,none⟩=some (.int .i64 e.lot):=fun W h=>ΩW h.at_ 5
 have c6:∀W,TxS w B e W→W.cell? ⟨B,6,none⟩=some (.int .i64 e.n):=fun W h=>ΩW h.at_ 6
 have c7:∀W,TxS w B e W→W.cell? ⟨B,7,none⟩=some (.int .i64 e.other):=fun W h=>ΩW h.at_ 7
 have c8:∀W,TxS w B e W→W.cell? ⟨B,8,none⟩=some (.string e.name):=fun W h=>ΩW h.at_ 8
 have c9:∀W,TxS w B e W→W.cell? ⟨B,9,none⟩=some (.string e.text):=fun W h=>ΩW h.at_ 9
 have c10:∀W,TxS w B e W→W.cell? ⟨B,10,none⟩=some (.int .i64 e.sx):=fun W h=>ΩW h.at_ 10
 have c11:∀W,TxS w B e W→W.cell? ⟨B,11,none⟩=some (.int .i64 e.sy):=fun W h=>ΩW h.at_ 11
 have hu:=Tryz.underlying35
 have hi:(Tryz.prog.info? 35).map (·.size)=some (e.prev.map bv).length :=by rw[ΩnN,he.prev];kernel_rfl
 have hnum:∀g W,ΩjI W g e.nums→Tab W→Calls Tryz.prog 108 #[.slice (some ⟨g,0,none⟩) 10 10] W (Ωq (ΩdJ e.nums) W):=fun g W h hT=>Ωfx e.nums g 10 10 W h he.nums_in rfl (by omega) (by omega) (by omega) (by omega) hT
 have hdig:∀W,Calls Tryz.prog 150 #[.agg (e.prev.map bv).toArray] W (Ωq (hexL e.prev) W):=fun W=>Ωjw e.prev he.prev W
 have hq1:∀W,Tab W→Calls Tryz.prog 151 #[.string e.name] W (Ωq (quoL e.name.data.toList) W):=fun W hT=>ΩgW e.name (by omega) W hT
 have hq2:∀W,Tab W→Calls Tryz.prog 151 #[.string e.text] W (Ωq (quoL e.text.data.toList) W):=fun W hT=>ΩgW e.text (by omega) W hT
 have hw:∀(g:Nat) (W:World) (t1 t2 t3 t4:ByteArray),ΩhT W g 0 [ΩeN,t1,t2,t3,t4]→t1.data.toList=ΩdJ e.nums→t2.data.toList=hexL e.prev→t3.data.toList=quoL e.name.data.toList→t4.data.toList=quoL e.text.data.toList→Calls Tryz.prog 107 #[.slice (some ⟨g,0,none⟩) 5 5] W (Ωq (Ω6 e) W):=by
  intro g W t1 t2 t3 t4 h h1 h2 h3 h4
  have hl:Ωap ([ΩeN,t1,t2,t3,t4].map (·.data.toList))≤35184372088832:=by
   have l1:=ΩaD e.nums he.nums_in
   have l2:=ΩY e.prev
   have l3:=Ωan e.name.data.toList (by rw[←Ωc];omega)
   have l4:=Ωan e.text.data.toList (by rw[←Ωc];omega)
   rw[←Ωc] at l3 l4
   rw[he.prev] at l2
   have l5:e.nums.length=10:=rfl
   have l0:ΩeN.data.toList.length=5:=rfl
   simp only[ΩoF,List.map_nil,ΩaQ,h1,h2,h3,h4]
   have l6:Ωap []=0:=rfl
   omega
  refine(Ωfj ΩeN [t1,t2,t3,t4] g 0 5 5 W h rfl (by simp) (by simp) (by omega) (by omega) hl).mono ?_
  rintro e' W' ⟨t,rfl,ht,ho⟩
  refine⟨t,rfl,?_,ho⟩
  rw[ht]
  simp only[ΩoF,List.map_nil,h1,h2,h3,h4]
  rw[join_quo]
  rfl
 have HTAB:Hid (∀W,TxS w B e W∧W.rangeAt B 12 (e.prev.map bv)→Tab W):=Θ (fun W h=>h.1.tab)
 have HKEEP:Hid (∀W W',TxS w B e W∧W.rangeAt B 12 (e.prev.map bv)→Only Ωa W W'→TxS w B e W'∧W'.rangeAt B 12 (e.prev.map bv)):=Θ (fun W W' h ho=>ΩhZ h ho)
 have HALLOC:Hid (∀W o,TxS w B e W∧W.rangeAt B 12 (e.prev.map bv)→TxS w B e (W.alloc o)∧(W.alloc o).rangeAt B 12 (e.prev.map bv)):=Θ (fun W o h=>txs_alloc h o)
 have HS:=Θ hS
 have HNUM:=Θ hnum
 have HDIG:=Θ hdig
 have HQ1:=Θ hq1
 have HQ2:=Θ hq2
 have HW:=Θ hw
 have EX:=Θ eX
 have EB:=Θ eB
 clear hat hox hS hnum hdig hq1 hq2 hw eX eB he hn hx ht
 go_enter Tryz.func104,Tryz.ntmps104
 go_wp2_with fail
 rw[←EX.out,←EB.out]
 clear EX EB
 have hS:=HS.out
 go_region_held3 (fun w' =>TxS w B e w'∧w'.rangeAt B 12 (e.prev.map bv)) (first|assumption|exact HALLOC.out _ _ (by assumption))
  (first
   |(go_at_call 108;refine(HNUM.out _ _ (by first|exact ΩgF (Blk.new _ _ _).drew |exact ΩgF (Blk.new _ _ _)) (HTAB.out _ (by assumption))).mono ?_;rintro e1 w1 ⟨t1,rfl,ht1,ho1⟩;have hS1:=HKEEP.out _ _ (by assumption) ho1;have HT1:=Θ ht1;clear ht1 ho1)
   |(go_at_call 150;refine(HDIG.out _).mono ?_;rintro e2 w2 ⟨t2,rfl,ht2,ho2⟩;have hS2:=HKEEP.out _ _ (by assumption) ho2;have HT2:=Θ ht2;clear ht2 ho2)
   |(go_at_call 151;(with_reducible refine(HQ1.out _ (HTAB.out _ (by assumption))).mono ?_);rintro e3 w3 ⟨t3,rfl,ht3,ho3⟩;have hS3:=HKEEP.out _ _ (by assumption) ho3;have HT3:=Θ ht3;clear ht3 ho3)
   |(go_at_call 151;(with_reducible refine(HQ2.out _ (HTAB.out _ (by assumption))).mono ?_);rintro e4 w4 ⟨t4,rfl,ht4,ho4⟩;have hS4:=HKEEP.out _ _ (by assumption) ho4;have HT4:=Θ ht4;clear ht4 ho4)
   |(go_at_call 107;refine(HW.out _ _ t1 t2 t3 t4 (by first|exact Ωh2 (Blk.new _ _ _)|exact Ωh2 (Blk.new _ _ _).drew) HT1.out HT2.out HT3.out HT4.out).mono ?_;rintro e5 w5 ⟨t5,rfl,ht5,ho5⟩;have hS5:=HKEEP.out _ _ (by assumption) ho5;have HT5:=Θ ht5;clear ht5 ho5))
 all_goals
  go_wp2_with fail
  go_ret
  exact Ωq.mk HT5.out hS5.1.only
end
section
open Go.RowKit Go.Shelf
theorem ev_all{w:World}{B:Nat}{e:Ev}(h:EvAt w B e):w.rangeAt B 0 (evC e):=fun j v hj=>by rw[ΩnR,ΩW h];exact hj
def Ωcx(v:Value):Sem Value:=Instr.loadAt 79 v
theorem Ω2(v:Value):Instr.loadAt 79 v=Ωcx v:=rfl
attribute [local go_sem ↓ high] Ω2
theorem Ωdk{W:World}{B:Nat}{e:Ev}(h:EvAt W B e)(hp:e.prev.length=32):(Ωcx (.pointer (some ⟨B,0,none⟩))).run Tryz.prog W= .ok (.agg (evC e).toArray) W:=
 ΩoG W B 0 79 (evC e) _ (ev_all h) Tryz.underlying79 rfl (by rw[Ωaa hp];kernel_rfl)
theorem eencode_any(e:Ev)(he:e.Ok)(hn:e.name.size≤8796093022208)(hx:e.text.size≤8796093022208)(w:World)(ht:Tab w):Calls Tryz.prog 63 #[.agg (evC e).toArray] w (Ωq (ΩaJ e) w):=by
 obtain⟨B,eB⟩:∃B,B=w.heap.size:=⟨_,rfl⟩
 obtain⟨X,eX⟩:∃X,X=w.alloc (.cells (evC e).toArray tEv):=⟨_,rfl⟩
 have hat:EvAt X B e:=by rw[eX,eB];exact Blk.new w _ _
 have hox:Only Ωa w X:=by rw[eX];exact(Only.refl _ _).alloc _
 have hS:TxS w B e X.drew:=⟨hat.drew,hox.drew,ht.none hox.drew⟩
 have c44:∀W,TxS w B e W→W.cell? ⟨B,44,none⟩=some (.int .i64 e.r):=fun W h=>(ΩdQ h.at_ he.prev).1
 have c45:∀W,TxS w B e W→W.cell? ⟨B,45,none⟩=some (.int .i64 e.s):=fun W h=>(ΩdQ h.at_ he.prev).2
 have cld:∀W,TxS w B e W→(Ωcx (.pointer (some ⟨B,0,none⟩))).run Tryz.prog W= .ok (.agg (evC e).toArray) W:=fun W h=>Ωdk h.at_ he.prev
 have hin:∀n∈[e.r,e.s],In n:=by
  intro x hx
  simp only[Ωn3,Ωol,or_false] at hx
  rcases hx with rfl|rfl
  ·exact he.r
  ·exact he.s
 have hnum:∀g W,ΩjI W g [e.r,e.s]→Tab W→Calls Tryz.prog 108 #[.slice (some ⟨g,0,none⟩) 2 2] W (Ωq (ΩdJ [e.r,e.s]) W):=fun g W h hT=>Ωfx [e.r,e.s] g 2 2 W h hin rfl (by omega) (by omega) (by omega) (by omega) hT
 have htx:∀W,Tab W→Calls Tryz.prog 104 #[.agg (evC e).toArray] W (Ωq (Ω6 e) W):=fun W hT=>Ωjs e he hn hx W hT
 have htl:(Ω6 e).length≤17592186044416+400:=by
  have l1:=ΩaD e.nums he.nums_in
  have l2:=ΩY e.prev
  have l3:=Ωan e.name.data.toList (by rw[←Ωc];omega)
  have l4:=Ωan e.text.data.toList (by rw[←Ωc];omega)
  rw[←Ωc] at l3 l4
  rw[he.prev] at l2
  have l5:e.nums.length=10:=rfl
  unfold Ω6
  simp only[ΩnA,ΩnD,Ωn8]
  omega
 have hw:∀(g:Nat) (W:World) (t1 t2:ByteArray),ΩhT W g 0 [t1,t2]→t1.data.toList=ΩdJ [e.r,e.s]→t2.data.toList=Ω6 e→Calls Tryz.prog 107 #[.slice (some ⟨g,0,none⟩) 2 2] W (Ωq (ΩaJ e) W):=by
  intro g W t1 t2 h h1 h2
  have hl:Ωap ([t1,t2].map (·.data.toList))≤35184372088832:=by
   have l1:=ΩaD [e.r,e.s] hin
   simp only[ΩoF,List.map_nil,ΩaQ,h1,h2]
   have l6:Ωap []=0:=rfl
   simp only[ΩnD,Ωn8] at l1
   omega
  refine(Ωfj t1 [t2] g 0 2 2 W h rfl (by simp) (by simp) (by omega) (by omega) hl).mono ?_
  rintro e' W' ⟨t,rfl,ht,ho⟩
  refine⟨t,rfl,?_,ho⟩
  rw[ht]
  simp only[ΩoF,List.map_nil,h1,h2]
  rw[join_two]
  rfl
 have HS:=Θ hS
 have HNUM:=Θ hnum
 have HTX:=Θ htx
 have HW:=Θ hw
 have EX:=Θ eX
 have EB:=Θ eB
 have HTAB:Hid (∀W,TxS w B e W→Tab W):=Θ (fun W h=>h.tab)
 have HKEEP:Hid (∀W W',TxS w B e W→Only Ωa W W'→TxS w B e W'):=Θ (fun W W' h ho=>⟨h.at_.only ho (fun e=>e),h.only.trans ho,h.tab.none ho⟩)
 have HALLOC:Hid (∀W o,TxS w B e W→TxS w B e (W.alloc o)):=Θ (fun W o h=>HKEEP.out W _ h ((Only.refl _ _).alloc o))
 clear hat hox hS hnum htx hw eX eB he hn hx ht hin htl
 go_enter Tryz.func63,Tryz.ntmps63
 go_wp2_with fail
 rw[←EX.out,←EB.out]
 clear EX EB
 have hS:=HS.out
 go_region_held3 (fun w' =>TxS w B e w') (first|assumption|exact HALLOC.out _ _ (by assumption))
  (first
   |(go_at_call 108;refine(HNUM.out _ _ (by first|exact ΩgF (Blk.new _ _ _).drew |exact ΩgF (Blk.new _ _ _)) (HTAB.out _ (by assumption))).mono ?_;rintro e1 w1 ⟨t1,rfl,ht1,ho1⟩;have hS1:=HKEEP.out _ _ (by assumption) ho1;have HT1:=Θ ht1;clear ht1 ho1)
   |(go_at_call 104;refine(HTX.out _ (HTAB.out _ (by assumption))).mono ?_;rintro e2 w2 ⟨t2,rfl,ht2,ho2⟩;have hS2:=HKEEP.out _ _ (by assumption) ho2;have HT2:=Θ ht2;clear ht2 ho2)
   |(go_at_call 107;refine(HW.out _ _ t1 t2 (by first|exact Ωh2 (Blk.new _ _ _)|exact Ωh2 (Blk.new _ _ _).drew) HT1.out HT2.out).mono ?_;rintro e5 w5 ⟨t5,rfl,ht5,ho5⟩;have hS5:=HKEEP.out _ _ (by assumption) ho5;have HT5:=Θ ht5;clear ht5 ho5))
 all_goals
  go_wp2_with fail
  go_ret
  exact Ωq.mk HT5.out hS5.only
end
section
open Go.RowKit Go.Shelf
attribute [local go_sem ↓ high] Ω2
theorem evCode_len{e:Ev}(he:e.Ok)(hn:e.name.size≤8796093022208)(hx:e.text.size≤8796093022208):(ΩaJ e).length≤17592186044416+500:=by
 have l1:=ΩaD e.nums he.nums_in
 have l2:=ΩY e.prev
 have l3:=Ωan e.name.data.toList (by rw[←Ωc];omega)
 have l4:=Ωan e.text.data.toList (by rw[←Ωc];omega)
 have l0:=ΩaD [e.r,e.s] (by
  intro x hx
  simp only[Ωn3,Ωol,or_false] at hx
  rcases hx with rfl|rfl
  ·exact he.r
  ·exact he.s)
 rw[←Ωc] at l3 l4
 rw[he.prev] at l2
 have l5:e.nums.length=10:=rfl
 simp only[ΩnD,Ωn8] at l0
 unfold ΩaJ Ω6
 simp only[ΩnA,ΩnD,Ωn8]
 omega
theorem hashE_len(e:Ev):(ΩdL e).length =32:=ΩaX _
end
section
open Go.RowKit Go.Shelf
def Ωam:Ev:=⟨0,0,0,0,0,0,0,0,⟨#[]⟩,⟨#[]⟩,0,0,zeros32,0,0⟩
end
section
open Go.RowKit Go.Shelf
def ΩgU(p v:Value):Sem Unit:=Instr.storeAt 79 p v
theorem Ωbd(p v:Value):Instr.storeAt 79 p v=ΩgU p v:=rfl
attribute [local go_sem ↓ high] Ωbd Ω2
theorem Ωiv{W:World}{b:Nat}{cs:List Value}(h:Blk W b tEv cs.toArray)(hl:cs.length=46){e:Ev}(hp:e.prev.length=32):(ΩgU (.pointer (some ⟨b,0,none⟩)) (.agg (evC e).toArray)).run Tryz.prog W= .ok () (W.setCells b 0 (evC e)):=by
 have h1:=run_storeAt_mid (P:=Tryz.prog) W b 0 79 (evC e).toArray (h.there 0 _ (by simp[Ωaa hp,hl])) (by rw[ΩnJ,Ωaa hp];kernel_rfl) (all_oneCell_toArray (fun v hv=>by
  unfold evC at hv
  simp only[ΩoH,Ωn3,Ωol,or_false,Ωos] at hv
  rcases hv with(rfl|rfl|rfl|rfl|rfl|rfl|rfl|rfl|rfl|rfl|rfl|rfl)|⟨x,_,rfl⟩|rfl|rfl<;>rfl))
 exact h1
def Ωmw:Array Value:= #[.int .i64 0,.int .i64 0,.int .i64 0,.int .i64 0,.int .i64 0,.int .i64 0,.int .i64 0,.int .i64 0,.string ⟨#[]⟩,.string ⟨#[]⟩,.int .i64 0,.int .i64 0,.int .u8 0,.int .u8 0,.int .u8 0,.int .u8 0,.int .u8 0,.int .u8 0,.int .u8 0,.int .u8 0,.int .u8 0,.int .u8 0,.int .u8 0,.int .u8 0,.int .u8 0,.int .u8 0,.int .u8 0,.int .u8 0,.int .u8 0,.int .u8 0,.int .u8 0,.int .u8 0,.int .u8 0,.int .u8 0,.int .u8 0,.int .u8 0,.int .u8 0,.int .u8 0,.int .u8 0,.int .u8 0,.int .u8 0,.int .u8 0,.int .u8 0,.int .u8 0,.int .i64 0,.int .i64 0]
theorem results_two{fn:Func}{p q:Tmp}{t u:TypeId}(h:fn.results= #[.cell p t,.cell q u])(tmps:Array Value)(P:Program)(w:World){a b:Addr}{va vb:Value}(hp:tmps.getD p undef= .pointer (some a))(hq:tmps.getD q undef= .pointer (some b))(h1:(loadVar t a).run P w= .ok va w)(h2:(loadVar u b).run P w= .ok vb w):(results fn tmps).run P w= .ok (.tuple #[va,vb]) w:=by
 simp only[results,h]
 rw[Array.getD_eq_getD_getElem?] at hp hq
 simp[Sem.run_bind,Result.andThen,hp,hq,asAddr,h1,h2]
theorem setCells_own{w:World}{b:Nat}{t:TypeId}{cs:List Value}(h:Blk w b t cs.toArray){ds:List Value}(hl:ds.length=cs.length):Blk (w.setCells b 0 ds) b t ds.toArray:=h.filled ds hl
end
section
open Go.RowKit Go.Shelf
def EvSl(w:World)(v:Value)(L:List Ev):Prop:=
 ∃A cap,v= .slice A L.length cap∧L.length≤cap∧cap≤9223372036854775807∧∀(i:Nat) (e:Ev),L[i]? =some e→∃g o,A=some ⟨g,o,none⟩∧g<w.heap.size∧w.rangeAt g (o+i*46) (evC e)
theorem Ωcq{w w' :World}{g o:Nat}{cs:List Value}(h:w.rangeAt g o cs)(ho:Only Ωa w w'):w'.rangeAt g o cs:=fun j v hj=>ho.cell_some (h j v hj) (fun e=>e)
theorem EvSl.only{w w' :World}{v:Value}{L:List Ev}(h:EvSl w v L)(ho:Only Ωa w w'):EvSl w' v L:=by
 obtain⟨A,cap,hv,h1,h2,h3⟩:=h
 refine⟨A,cap,hv,h1,h2,fun i e he=> ?_⟩
 obtain⟨g,o,hA,hg,hr⟩:=h3 i e he
 exact⟨g,o,hA,ΩnT hg ho.size,Ωcq hr ho⟩
def Ωm5(v:Value):Sem Value:=Instr.loadAt 35 v
theorem ΩkN(v:Value):Instr.loadAt 35 v=Ωm5 v:=rfl
def ΩmK(p v:Value):Sem Unit:=Instr.storeAt 35 p v
theorem Ωjn(p v:Value):Instr.storeAt 35 p v=ΩmK p v:=rfl
attribute [local go_sem ↓ high] Ωbd Ω2 ΩkN Ωjn
theorem h_load{W:World}{g o:Nat}{l:List UInt8}(h:W.rangeAt g o (l.map bv))(hl:l.length=32):(Ωm5 (.pointer (some ⟨g,o,none⟩))).run Tryz.prog W= .ok (.agg (l.map bv).toArray) W:=
 ΩoG W g o 35 (l.map bv) _ h Tryz.underlying35 rfl (by rw[ΩnN,hl];kernel_rfl)
theorem h_store{W:World}{g:Nat}{l m:List UInt8}(h:Blk W g 35 (l.map bv).toArray)(hl:l.length=32)(hm:m.length=32):(ΩmK (.pointer (some ⟨g,0,none⟩)) (.agg (m.map bv).toArray)).run Tryz.prog W= .ok () (W.setCells g 0 (m.map bv)):=
 run_storeAt_mid (P:=Tryz.prog) W g 0 35 (m.map bv).toArray (h.there 0 _ (by simp[hl,hm])) (by rw[ΩnJ,ΩnN,hm];kernel_rfl) (all_oneCell_toArray (Ωck _))
theorem ΩaY{W:World}{g o:Nat}{e:Ev}(h:W.rangeAt g o (evC e))(hp:e.prev.length=32):(Ωcx (.pointer (some ⟨g,o,none⟩))).run Tryz.prog W= .ok (.agg (evC e).toArray) W:=
 ΩoG W g o 79 (evC e) _ h Tryz.underlying79 rfl (by rw[Ωaa hp];kernel_rfl)
theorem neq_hash(xs ys:List UInt8)(hx:xs.length=32)(hy:ys.length=32)(w:World):(binOp .neq 35 (.agg (xs.map bv).toArray) (.agg (ys.map bv).toArray)).run Tryz.prog w= .ok (.bool (!(xs==ys))) w:=by
 have h:(Op.equalIn 10000 35 (.agg (xs.map bv).toArray) (.agg (ys.map bv).toArray)).run Tryz.prog w= .ok (xs==ys) w:=run_equalIn_bytes w 9998 35 5 32 Tryz.underlying35 Tryz.underlying5 ΩjM xs ys hx hy
 rw[run_neq_struct,h]
 rfl
end
end Go.Proofs.YtgalfohobgjelaaGreatDoor
