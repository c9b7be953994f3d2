/- What is proved here:several parts. a list of hashes in which something was changed,by the reference. Conditions:hashes have 32 bytes,there are few;the numbers are ints. · plain facts of the client laws' check:its persons,its votes,what they certify,roots that differ. No conditions. · right paths and right growths are accepted. Condition:there are few leaves. · what the client laws share:their persons and votes are well,worlds are read,three heads are put down. Conditions:the world's numbers are bytes. · plain facts for the laws on the order of votes,on overlaps,liars and honest officers. No conditions. · plain facts for the client laws:the officers of their setups,votes of all of them,heads that blame nobody,two heads that are both certified. No conditions. · what the client laws share:their events are well,short and verified;slices of leaves;bytes of slices. Conditions:the world's numbers are bytes. · calls by numbers (P31) in plain Lean,and the cells of a call. No conditions. -/
import Derived.Test.YtgalfohobgjelaaGreatDoorFr16
import Derived.Test.YtgalfohobgjelaaGreatDoorFr18
import Derived.Test.YtgalfohobgjelaaGreatDoorFr20
import Derived.Test.YtgalfohobgjelaaGreatDoorFr22
import Derived.Test.YtgalfohobgjelaaGreatDoorFr23
import Derived.Test.YtgalfohobgjelaaGreatDoorFr27
import Derived.Test.YtgalfohobgjelaaGreatDoorFr29
import Derived.Test.YtgalfohobgjelaaGreatDoorFr30
import Derived.BigRegion
import Derived.Deep.DeepCutAuto
namespace Go.Proofs.YtgalfohobgjelaaGreatDoor
open Go.RowKit Go.Shelf
attribute [local go_sem ↓ high] haLoad_eq haStore_eq haBd_eq haBs1_eq aph_eq
theorem haBd_one (b:Int) (W:World):(haBd #[(0,.int .u8 (b % 256))]).run Tryz.prog W= .ok (hv (hash1 b)) W:=by
 have e:(hash1 b).map bv= .int .u8 (b % 256)::List.replicate 31 (.int .u8 0):=by
  unfold hash1
  simp only [List.map_cons,List.map_replicate]
  rw [bv_small (by omega) (by omega)]
  rfl
 unfold hv
 rw [e]
 exact run_build (P:=Tryz.prog) W 35 _ _ (by kernel_rfl)
abbrev tA2:TypeId:=68
structure BnS (w:World) (F:Nat) (a b:Int) (oA:Option Addr) (oc:Nat) (n:Nat) (Q:List Hs) (W:World):Prop where
 arg:Blk W F tA2 #[.int .i64 a,.int .i64 b]
 own:HaOwn W w.heap.size (.slice oA n oc) n Q
 only:Only NoneOf w W
theorem BnS.keep {w:World} {F:Nat} {a b:Int} {oA:Option Addr} {oc n:Nat} {Q:List Hs} {W W':World} (h:BnS w F a b oA oc n Q W) (ho:Only NoneOf W W'):BnS w F a b oA oc n Q W':=
 ⟨h.arg.only ho (fun e=>e),own_only h.own ho (fun _ _ e=>e),h.only.trans ho⟩
theorem xor8_all:∀n:Fin 256,bits .xor .u8 (n.val:Int) 1=((UInt8.ofNat n.val ^^^ 1).toNat:Int):=by decide+kernel
theorem xor8 (y:UInt8):bits .xor .u8 (y.toNat:Int) 1=((y ^^^ 1).toNat:Int):=by
 have h:=xor8_all ⟨y.toNat,y.toNat_lt⟩
 simpa using h
theorem HaOwn.first {W:World} {base g cap n:Nat} {Q:List Hs} (h:HaOwn W base (.slice (some ⟨g,0,none⟩) Q.length cap) Q.length Q) (hok:HsOk Q) (hn:n≤Q.length):HaSl W (.slice (some ⟨g,0,none⟩) n cap) (Q.take n):=(h.sl hok).take hn
theorem HaOwn.rest {W:World} {base g cap m:Nat} {Q:List Hs} (h:HaOwn W base (.slice (some ⟨g,0,none⟩) Q.length cap) Q.length Q) (hok:HsOk Q) (hm:m≤Q.length):HaSl W (.slice (some ⟨g,m * 32,none⟩) (Q.length - m) (cap - m)) (Q.drop m):=by
 obtain⟨A,cap',e,h1,h2,h3⟩:=h.sl hok
 cases e
 refine⟨_,cap - m,by rw [List.length_drop],by rw [List.length_drop];omega,by omega,fun i p hp=> ?_⟩
 rw [List.getElem?_drop] at hp
 obtain⟨g',o',e,h4,h5⟩:=h3 (m+i) p hp
 cases e
 refine⟨g,m * 32,rfl,h4,?_⟩
 have e2:m * 32+i * 32=0+ (m+i) * 32:=by omega
 rw [e2]
 exact h5
theorem new_one (Y:World) (h:Hs):HaSl (Y.alloc (.cells (h.map bv).toArray 35)) (.slice (some ⟨Y.heap.size,0,none⟩) 1 1) [h]:=by
 refine⟨_,1,rfl,Nat.le_refl _,by omega,fun i p hp=> ?_⟩
 have hi:i=0:=by
  have:=(List.getElem?_eq_some_iff.1 hp).1
  simp only [List.length_singleton] at this
  omega
 subst hi
 simp only [List.getElem?_cons_zero,Option.some.injEq] at hp
 subst hp
 refine⟨Y.heap.size,0,rfl,(Blk.new Y _ _).lt,fun j x hj=> ?_⟩
 have hc:=(Blk.new Y 35 (h.map bv).toArray).cell j
 have e9:0+0 * 32+j=j:=by omega
 rw [e9,hc]
 have hj2:(h.map bv)[j]? =some x:=hj
 simpa using hj2
set_option maxRecDepth 100000 in
set_option maxHeartbeats 4000000 in
theorem bent_any (Q:List Hs) (hok:HsOk Q) (hQ:Q.length≤1000) (v:Value) (a b:Int) (ha:In a) (hb:In b) (w:World) (hs:HaSl w v Q):
  Calls Tryz.prog 52 #[v,.agg #[.int .i64 a,.int .i64 b]] w fun e w'=> ∃rv,e= .returned rv∧HaOwn w' w.heap.size rv (bentL Q a b).length (bentL Q a b)∧Only NoneOf w w':=by
 obtain⟨F,eF⟩:∃F,F=w.heap.size:=⟨_,rfl⟩
 have h0:Blk (w.alloc (.cells #[.int .i64 a,.int .i64 b] tA2)) F tA2 #[.int .i64 a,.int .i64 b]∧HaSl (w.alloc (.cells #[.int .i64 a,.int .i64 b] tA2)) v Q∧Only NoneOf w (w.alloc (.cells #[.int .i64 a,.int .i64 b] tA2)):=
  ⟨by rw [eF];exact Blk.new w _ _,hs.only ((Only.refl _ _).alloc _),(Only.refl _ _).alloc _⟩
 have H0:=Lib.hid h0
 have EF:=Lib.hid eF
 have HOK:=Lib.hid hok
 have HA:=Lib.hid (And.intro ha hb)
 obtain⟨a1,a2⟩:=ha
 obtain⟨b1,b2⟩:=hb
 clear h0 eF hok hs
 go_enter Tryz.func52,Tryz.ntmps52
 go_upto_region 1 with(fail)
 rw [←EF.out]
 refine wp_gen (fun Z=>Blk Z F tA2 #[.int .i64 a,.int .i64 b]∧HaSl Z v Q∧Only NoneOf w Z) H0.out ?_
 clear H0
 rintro Z ⟨hF,hS,hO⟩
 have hown0:HaOwn (Z.alloc (.cells #[] 35)) Z.heap.size (.slice (some ⟨Z.heap.size,0,none⟩) 0 0) 0 []:=
  ⟨rfl,.inr ⟨Z.heap.size,0, #[],rfl,Nat.le_refl _,Blk.new Z _ _,Nat.le_refl _,by rw [maxLen_val];omega,rfl,rfl⟩⟩
 obtain⟨oA,oc,W5,hr5,ho5,hg5,hat5⟩:=run_append_has (Z.alloc (.cells #[] 35)) Z.heap.size _ _ [] Q HOK.out hown0 (hS.only ((Only.refl NoneOf _).alloc _)) (by simp only [List.length_nil];omega) (by rw [World.size_alloc];omega) 59
 rw [List.nil_append] at hr5 ho5 hat5
 have hO5:Only NoneOf Z W5:=((Only.refl NoneOf Z).alloc _).grown hg5 (fun j e=>by cases e;exact .inr (Nat.le_refl _))
 have hB5:BnS w F a b oA oc Q.length Q W5:=⟨hF.only hO5 (fun e=>e),own_lower ho5 hO.size,hO.trans hO5⟩
 have HB:=Lib.hid hB5
 clear hF hS hO hown0 ho5 hg5 hat5 hO5 hB5
 by_cases hq0:Q= []
 ·subst hq0
  go_upto_region 2 with(fail)
  clear hr5
  refine wp_gen (BnS w F a b oA oc 0 []) HB.out ?_
  clear HB
  intro Y hY
  have c0:Y.cell? ⟨F,0,none⟩=some (.int .i64 a):=hY.arg.cell 0
  have c1:Y.cell? ⟨F,1,none⟩=some (.int .i64 b):=hY.arg.cell 1
  have HY:=Lib.hid hY
  clear hY
  by_cases h2:a % 2=0
  ·have k2:a.tmod 2=0:=by rw [Int.tmod_eq_emod];split<;>omega
   have hbd:=haBd_one b
   have hb1:=haBs1_run (hash1 b) (hash1_len b)
   have hnew:=new_one Y (hash1 b)
   obtain⟨rA,rc,W6,hr6,ho6,hg6,hat6⟩:=run_append_has (Y.alloc (.cells ((hash1 b).map bv).toArray 35)) w.heap.size _ _ [] [hash1 b] (fun h hh=>by rw [List.mem_singleton.1 hh];rfl) (own_only HY.out.own ((Only.refl NoneOf _).alloc _) (fun _ _ e=>e)) hnew (by simp) (by rw [World.size_alloc];have:=HY.out.only.size;omega) 59
   rw [List.nil_append] at hr6 ho6
   have HF:Hid (HaOwn W6 w.heap.size (.slice rA (bentL [] a b).length rc) (bentL [] a b).length (bentL [] a b)∧Only NoneOf w W6):=Lib.hid (by
    rw [bentL_nil,if_pos h2]
    exact⟨ho6,(HY.out.only.alloc _).grown hg6 (fun j e=> .inr (own_ge HY.out.own e).1)⟩)
   have HLN:Hid ((bentL [] a b).length=1):=Lib.hid (by rw [bentL_nil,if_pos h2];rfl)
   clear hnew ho6 hg6 hat6 h2
   go_wp2_with fail
   go_ret
   have h9:=HF.out
   rw [HLN.out] at h9
   rw [HLN.out]
   exact⟨_,rfl,h9.1,h9.2⟩
  ·have k2:(a.tmod 2==0)=false:=by
    rw [beq_eq_false_iff_ne,Int.tmod_eq_emod]
    split<;>omega
   have HLN:Hid ((bentL [] a b)= []):=Lib.hid (by rw [bentL_nil,if_neg h2])
   clear h2
   go_wp2_with fail
   go_ret
   rw [HLN.out]
   exact⟨_,rfl,HY.out.own,HY.out.only⟩
 ·have hl:0<Q.length:=List.length_pos_iff.2 hq0
  obtain⟨n,hn⟩:∃n:Nat,b % (Q.length:Int)=(n:Int):=⟨(b % (Q.length:Int)).toNat,by have:=Int.emod_nonneg b (show(Q.length:Int)≠0 by omega);omega⟩
  have hlt:n<Q.length:=by have:=Int.emod_lt_of_pos b (show(0:Int) < (Q.length:Int) by omega);omega
  obtain⟨x,hx⟩:∃x,Q[n]? =some x:=⟨_,List.getElem?_eq_getElem hlt⟩
  obtain⟨rn,kn1,kn2,kn3,kn4⟩:=mod_up b (Q.length:Int) (by omega)
  rw [hn] at kn4
  obtain⟨r5,k51,k52,k53,k54⟩:=mod_up a 5 (by omega)
  obtain⟨s5,es5⟩:∃s:Int,s=a % 5:=⟨_,rfl⟩
  rw [←es5] at k54
  have hs5:s5=0∨s5=1∨s5=2∨s5=3∨s5=4:=by omega
  have d0:((Q.length:Int)==0)=false:=by rw [beq_eq_false_iff_ne];omega
  have e0:¬(Q.length:Int)=0:=by omega
  obtain⟨g,oc',e9,_,_,hoc,_⟩:=own_form HB.out.own hl
  cases e9
  have inq:(n:Int) < (Q.length:Int):=by omega
  have inq0:(0:Int)≤(n:Int):=by omega
  go_upto_region 2 with(fail)
  clear hr5
  refine wp_gen (BnS w F a b (some ⟨g,0,none⟩) oc Q.length Q) HB.out ?_
  clear HB
  intro Y hY
  have c0:Y.cell? ⟨F,0,none⟩=some (.int .i64 a):=hY.arg.cell 0
  have c1:Y.cell? ⟨F,1,none⟩=some (.int .i64 b):=hY.arg.cell 1
  have HY:=Lib.hid hY
  have HX:=Lib.hid hx
  have HN:=Lib.hid hn
  have ES:=Lib.hid es5
  have HNE:=Lib.hid hq0
  have hxl:x.length=32:=HOK.out x (List.mem_of_getElem? hx)
  clear hY hx hn es5 hq0
  rcases hs5 with rfl|rfl|rfl|rfl|rfl
  ·obtain⟨r32,k1,k2,k3,k4⟩:=mod_up b 32 (by omega)
   obtain⟨j,ej⟩:∃j:Nat,b % 32=(j:Int):=⟨(b % 32).toNat,by omega⟩
   have hj:j<32:=by omega
   rw [ej] at k4
   obtain⟨y,hy⟩:∃y,x[j]? =some y:=⟨_,List.getElem?_eq_getElem (by omega)⟩
   have hcy:Y.cell? ⟨g,n * 32+j,none⟩=some (.int .u8 (y.toNat:Int)):=HY.out.own.range HOK.out HX.out j _ (by rw [List.getElem?_map,hy];rfl)
   have hxr:=xor8 y
   have ij:(j:Int) <32:=by omega
   have ij0:(0:Int)≤(j:Int):=by omega
   have ev:(Value.int .u8 ((y.toNat ^^^ 1:Nat):Int))=bv (y ^^^ 1):=by
    unfold bv
    rw [UInt8.toNat_xor]
    rfl
   have hfin:HaOwn ((Y.setCell ⟨g,n * 32+j,none⟩ (.int .u8 ((y.toNat ^^^ 1:Nat):Int))).drew) w.heap.size (.slice (some ⟨g,0,none⟩) (bentL Q a b).length oc) (bentL Q a b).length (bentL Q a b)∧Only NoneOf w ((Y.setCell ⟨g,n * 32+j,none⟩ (.int .u8 ((y.toNat ^^^ 1:Nat):Int))).drew):=by
    rw [ev]
    have e:bentL Q a b=Q.set n (x.set j (y ^^^ 1)):=by
     rw [bentL_0 HN.out HX.out (by have:=ES.out;omega),ej,Int.toNat_natCast]
     unfold flipH
     rw [hy]
     rfl
    have h1:=HY.out
    rw [e,List.length_set]
    exact⟨own_drew (h1.own.set1 HOK.out HX.out hj _),(h1.only.setCell (p:=⟨g,n * 32+j,none⟩) (.inr (own_ge h1.own rfl).1) _).drew⟩
   have fz:Y.frozen? ⟨g,n * 32+j,none⟩=false:=by
    rcases HY.out.own.2 with⟨h9,_⟩|⟨g',cap',cur,e,_,hh,_⟩
    ·cases h9
    ·cases e
     exact Blk.frozen (t:=35) hh _
   have HLN:Hid ((bentL Q a b).length=Q.length):=Lib.hid (by rw [bentL_0 HN.out HX.out (by have:=ES.out;omega),List.length_set])
   have HF:=Lib.hid hfin
   clear hfin ej hy ev
   go_upto_region 9 with(fail)
   go_region
   go_wp2_with fail
   go_ret
   have h9:=HF.out
   rw [HLN.out] at h9
   rw [HLN.out]
   exact⟨_,rfl,h9.1,h9.2⟩
  ·have hnc:(n:Int)≤(oc:Int):=by omega
   have hn1:(n:Int) +1≤(Q.length:Int):=by omega
   have ho1:HaOwn (Y.alloc (.cells #[] 35)).drew Y.heap.size (.slice (some ⟨Y.heap.size,0,none⟩) 0 0) 0 []:=
    ⟨rfl,.inr ⟨Y.heap.size,0, #[],rfl,Nat.le_refl _,Blk.new Y _ _,Nat.le_refl _,by rw [maxLen_val];omega,rfl,rfl⟩⟩
   have hsl:HaOwn (Y.alloc (.cells #[] 35)).drew w.heap.size (.slice (some ⟨g,0,none⟩) Q.length oc) Q.length Q:=own_only HY.out.own ((Only.refl NoneOf Y).alloc _).drew (fun _ _ e=>e)
   obtain⟨pA,pc,W1,hr1,hp1,hg1,hat1⟩:=run_append_has (Y.alloc (.cells #[] 35)).drew Y.heap.size _ _ [] (Q.take n) (fun h hh=>HOK.out h (List.mem_of_mem_take hh)) ho1 (hsl.first HOK.out (by omega)) (by rw [List.length_take];simp;omega) (((Only.refl NoneOf Y).alloc _).drew.size) 59
   rw [List.nil_append,List.length_take,Nat.min_eq_left (by omega)] at hr1 hp1
   have hO1:Only NoneOf Y W1:=((Only.refl NoneOf Y).alloc _).drew.grown hg1 (fun j e=>by cases e;exact .inr (Nat.le_refl _))
   obtain⟨Ax,hAx⟩:∃Ax,(if oc=n+1 then(some ⟨g,0,none⟩:Option Addr) else some ⟨g,(n+1) * 32,none⟩)=Ax:=⟨_,rfl⟩
   have hsr:HaSl W1 (.slice Ax (Q.length - (n+1)) (oc - (n+1))) (Q.drop (n+1)):=by
    by_cases he:oc=n+1
    ·refine⟨Ax,_,by rw [List.length_drop],by rw [List.length_drop];omega,by omega,fun i p hp=> ?_⟩
     have:=(List.getElem?_eq_some_iff.1 hp).1
     rw [List.length_drop] at this
     omega
    ·rw [if_neg he] at hAx
     rw [←hAx]
     exact(HY.out.own.rest HOK.out (m:=n+1) (by omega)).only hO1
   obtain⟨rA,rc,W2,hr2,hp2,hg2,hat2⟩:=run_append_has W1 Y.heap.size (.slice pA n pc) _ (Q.take n) (Q.drop (n+1)) (fun h hh=>HOK.out h (List.mem_of_mem_drop hh)) (by rw [List.length_take,Nat.min_eq_left (by omega)];exact hp1) hsr (by rw [List.length_take,List.length_drop];omega) hO1.size 59
   have e1:bentL Q a b=Q.take n++Q.drop (n+1):=bentL_1 HN.out HX.out (by have:=ES.out;omega)
   rw [←e1] at hr2 hp2
   have HF:Hid (HaOwn W2 w.heap.size (.slice rA (bentL Q a b).length rc) (bentL Q a b).length (bentL Q a b)∧Only NoneOf w W2):=Lib.hid ⟨own_lower hp2 HY.out.only.size,HY.out.only.trans (hO1.grown hg2 (fun j e=> .inr (own_ge hp1 e).1))⟩
   obtain⟨ll,ell⟩:∃l,l=(bentL Q a b).length:=⟨_,rfl⟩
   rw [←ell] at hr2
   have HLL:=Lib.hid ell
   clear ho1 hsl hp1 hg1 hat1 hO1 hsr hp2 hg2 hat2 e1 ell
   go_upto_region 11 with(fail)
   go_region
   go_wp2_with fail
   go_ret
   have h9:=HF.out
   rw [←HLL.out] at h9
   rw [←HLL.out]
   exact⟨_,rfl,h9.1,h9.2⟩
  ·have hld:=ha_load (HY.out.own.range HOK.out HX.out) hxl
   have hb1:=haBs1_run x hxl
   obtain⟨rA,rc,W6,hr6,ho6,hg6,hat6⟩:=run_append_has (Y.alloc (.cells (x.map bv).toArray 35)) w.heap.size _ _ Q [x] (fun h hh=>by rw [List.mem_singleton.1 hh];exact hxl) (own_only HY.out.own ((Only.refl NoneOf _).alloc _) (fun _ _ e=>e)) (new_one Y x) (by simp only [List.length_singleton];omega) ((HY.out.only.alloc _).size) 59
   have e1:bentL Q a b=Q++ [x]:=bentL_2 HN.out HX.out (by have:=ES.out;omega)
   rw [←e1] at hr6 ho6
   have HF:Hid (HaOwn W6 w.heap.size (.slice rA (bentL Q a b).length rc) (bentL Q a b).length (bentL Q a b)∧Only NoneOf w W6):=Lib.hid ⟨ho6,(HY.out.only.alloc _).grown hg6 (fun j e=> .inr (own_ge HY.out.own e).1)⟩
   obtain⟨ll,ell⟩:∃l,l=(bentL Q a b).length:=⟨_,rfl⟩
   rw [←ell] at hr6
   have HLL:=Lib.hid ell
   clear ho6 hg6 hat6 e1 ell
   go_wp2_with fail
   go_ret
   have h9:=HF.out
   rw [←HLL.out] at h9
   rw [←HLL.out]
   exact⟨_,rfl,h9.1,h9.2⟩
  ·obtain⟨m,em⟩:∃m:Nat,m=(n+1) % Q.length:=⟨_,rfl⟩
   have emi:((n:Int) +1) % (Q.length:Int)=(m:Int):=by rw [em,Int.natCast_emod];rfl
   have hml:m<Q.length:=by rw [em];exact Nat.mod_lt _ hl
   obtain⟨y,hy⟩:∃y,Q[m]? =some y:=⟨_,List.getElem?_eq_getElem hml⟩
   have hyl:y.length=32:=HOK.out y (List.mem_of_getElem? hy)
   have e1:bentL Q a b=(Q.set n y).set m x:=by
    rw [em] at hy
    rw [em]
    exact bentL_3 HN.out HX.out (by have:=ES.out;omega) hy
   have imq:(m:Int) < (Q.length:Int):=by omega
   have imq0:(0:Int)≤(m:Int):=by omega
   have hld:=ha_load (HY.out.own.range HOK.out HX.out) hxl
   have hstn:=fresh_store Y x hxl
   obtain⟨D,eD⟩:∃D,D=Y.heap.size:=⟨_,rfl⟩
   have hZ0:HaAt ((Y.alloc (.cells zeroLit 35)).setCells Y.heap.size 0 (x.map bv)) D x∧BnS w F a b (some ⟨g,0,none⟩) oc Q.length Q ((Y.alloc (.cells zeroLit 35)).setCells Y.heap.size 0 (x.map bv)):=
    ⟨by rw [eD];exact(fresh_at Y).put rfl hxl,HY.out.keep (only_setCells ((Only.refl _ _).alloc _) Y.heap.size 0 (.inr (Nat.le_refl _)) _)⟩
   rw [←eD] at hZ0
   have HZ0:=Lib.hid hZ0
   have ED:=Lib.hid eD
   have HYY:=Lib.hid (And.intro hy (And.intro hyl e1))
   clear hZ0 eD hy hyl e1 em
   go_upto_region 17 with(fail)
   rw [←ED.out]
   refine wp_gen (fun Z=>HaAt Z D x∧BnS w F a b (some ⟨g,0,none⟩) oc Q.length Q Z) HZ0.out ?_
   clear HZ0 hld hstn c0 c1
   rintro V ⟨hD,hV⟩
   have hne:g≠D:=by
    have h1:=(own_ge HY.out.own (g:=g) rfl).2
    have h2:=ED.out
    omega
   have hld:=ha_load (hV.own.range HOK.out HYY.out.1) HYY.out.2.1
   have hst:=ha_store_own (i:=n) hV.own hlt HYY.out.2.1
   have hV2:HaOwn (V.setCells g (n * 32) (y.map bv)) w.heap.size (.slice (some ⟨g,0,none⟩) Q.length oc) Q.length (Q.set n y):=hV.own.put HOK.out hlt HYY.out.2.1
   have hD2:HaAt (V.setCells g (n * 32) (y.map bv)) D x:=Blk.farCells (Ne.symm hne) _ _ hD
   have hO2:Only NoneOf w (V.setCells g (n * 32) (y.map bv)):=only_setCells hV.only g (n * 32) (.inr (own_ge hV.own rfl).1) _
   have HV:=Lib.hid (And.intro hV2 (And.intro hD2 hO2))
   clear hD hV hV2 hD2 hO2 HY
   go_upto_region 18 with(fail)
   refine wp_gen (fun Z=>HaOwn Z w.heap.size (.slice (some ⟨g,0,none⟩) Q.length oc) Q.length (Q.set n y)∧HaAt Z D x∧Only NoneOf w Z) HV.out ?_
   clear HV hld hst
   rintro U ⟨hU,hD,hO⟩
   have hq1:HsOk (Q.set n y):=has_set HOK.out HYY.out.2.1 n
   have hl1:(Q.set n y).length=Q.length:=List.length_set
   have hU1:HaOwn U w.heap.size (.slice (some ⟨g,0,none⟩) (Q.set n y).length oc) (Q.set n y).length (Q.set n y):=by rw [hl1];exact hU
   have hld:=ha_load hD.range hxl
   have hst:=ha_store_own (i:=m) hU1 (by rw [hl1];exact hml) hxl
   have hU2:HaOwn (U.setCells g (m * 32) (x.map bv)) w.heap.size (.slice (some ⟨g,0,none⟩) Q.length oc) Q.length ((Q.set n y).set m x):=by
    have h:=hU1.put hq1 (by rw [hl1];exact hml) hxl (i:=m)
    rw [hl1] at h
    exact h
   have HF:=Lib.hid (And.intro hU2 (only_setCells hO g (m * 32) (.inr (own_ge hU (g:=g) rfl).1) (x.map bv)))
   clear hU hD hO hq1 hU1 hU2 hl1
   go_wp2_with fail
   go_ret
   rw [HYY.out.2.2,List.length_set,List.length_set]
   exact⟨_,rfl,HF.out.1,HF.out.2⟩
  ·go_wp2_with fail
   go_ret
   rw [bentL_4 HNE.out (by have:=ES.out;omega)]
   exact⟨_,rfl,HY.out.own,HY.out.only⟩
end Go.Proofs.YtgalfohobgjelaaGreatDoor
namespace Go.Proofs.YtgalfohobgjelaaGreatDoor
def wd3:Wd:=⟨3, [],0⟩
theorem wd3_ok:wd3.Ok:=⟨by decide,by decide⟩
theorem setW3:setW wd3=setB 4++ [bidder 60,bidder 61]:=rfl
theorem offs_setW3:offs (setW wd3)= [offAt 1,offAt 2,offAt 3,offAt 4]:=by
 rw [setW3]
 simp [offs,offGo,setB,clerk,offAt,bidder,List.range_succ]
theorem voteW0 (h:Hd) (k:Nat) (hk:bitW 0 k=false):voteW 0 h k=vAt h k:=by
 unfold voteW vAt
 rw [hk]
 simp
theorem bit00 (k:Nat):bitW 0 k=false:=by unfold bitW;simp
theorem votes14 (h:Hd):votesW wd3 h 14 0= [vAt h 1,vAt h 2,vAt h 3]:=by
 have h4:wd3.n=4:=rfl
 unfold votesW
 rw [h4]
 simp only [votesN]
 rw [show bitW 14 1=true from by decide,show bitW 14 2=true from by decide,show bitW 14 3=true from by decide,show bitW 14 4=false from by decide]
 simp [voteW0 _ _ (bit00 _)]
theorem votes28 (h:Hd):votesW wd3 h 28 0= [vAt h 2,vAt h 3,vAt h 4]:=by
 have h4:wd3.n=4:=rfl
 unfold votesW
 rw [h4]
 simp only [votesN]
 rw [show bitW 28 1=false from by decide,show bitW 28 2=true from by decide,show bitW 28 3=true from by decide,show bitW 28 4=true from by decide]
 simp [voteW0 _ _ (bit00 _)]
theorem cert14 (h:Hd):certB (setW wd3) h [vAt h 1,vAt h 2,vAt h 3]=true:=by
 unfold certB votesFor
 rw [offs_setW3]
 have hd:∀j,eqHd (vAt h j).head h=true:=fun j=>eqHd_true.2 rfl
 simp [hd,cnts_at,need]
theorem cert28 (h:Hd):certB (setW wd3) h [vAt h 2,vAt h 3,vAt h 4]=true:=by
 unfold certB votesFor
 rw [offs_setW3]
 have hd:∀j,eqHd (vAt h j).head h=true:=fun j=>eqHd_true.2 rfl
 simp [hd,cnts_at,need]
theorem best_nil (P:List Pers) {o:Option Hd} (h:BestL P [] o):o=none:=by
 unfold BestL at h
 cases o with
 |none=>rfl
 |some b=>exact absurd h.1 (by simp)
theorem best_one {P:List Pers} {L:List Vt} {h:Hd} (hL:∀v∈L,v.head=h) (hne:L≠ []) (hc:certB P h L=true) {o:Option Hd} (ho:BestL P L o):o=some h:=by
 have hd:∀x,x∈L.map (·.head)→x=h:=fun x hx=>by
  obtain⟨v,hv,rfl⟩:=List.mem_map.1 hx
  exact hL v hv
 have hm:h∈L.map (·.head):=by
  cases L with
  |nil=>exact absurd rfl hne
  |cons v l=>exact List.mem_map.2 ⟨v,by simp,hL v (by simp)⟩
 cases o with
 |none=>
  have h9:certB P h L=false:=ho h hm
  rw [hc] at h9;cases h9
 |some b=>
  rw [hd b ho.1]
theorem best14 (h:Hd) {o:Option Hd} (ho:BestL (setW wd3) (votesW wd3 h 14 0) o):o=some h:=by
 rw [votes14] at ho
 exact best_one (fun v hv=>by simp at hv;rcases hv with rfl|rfl|rfl<;>rfl) (by simp) (cert14 h) ho
theorem best28 (h:Hd) {o:Option Hd} (ho:BestL (setW wd3) (votesW wd3 h 28 0) o):o=some h:=by
 rw [votes28] at ho
 exact best_one (fun v hv=>by simp at hv;rcases hv with rfl|rfl|rfl<;>rfl) (by simp) (cert28 h) ho
end Go.Proofs.YtgalfohobgjelaaGreatDoor
namespace Go.Proofs.YtgalfohobgjelaaGreatDoor
theorem ckL_zero (n:Nat) (r:Hs):ckL 0 n (rootL []) r []=true:=by
 unfold ckL
 simp
theorem ckL_right (l:List (List UInt8)) (m:Nat) (hl:l.length≤1000000) (h1:1≤m) (h2:m<l.length):ckL m l.length (rootL (l.take m)) (rootL l) (growL l m)=true:=by
 obtain⟨g1,g2⟩:=grow_right l.length l m true (rootL (l.take m)) (Nat.le_refl _) hl h1 (by omega) (fun _=>rfl)
 have hg:growL l m=(growF l.length l m true).reverse:=by unfold growL;rw [if_neg (by omega)]
 unfold ckL
 rw [if_neg (by omega)]
 unfold ckB
 rw [hg,List.length_reverse,if_pos g1,List.reverse_reverse,g2]
 simp
theorem ckL_grow (l:List (List UInt8)) (m:Nat) (hl:l.length≤1000000) (h2:m<l.length):ckL m l.length (rootL (l.take m)) (rootL l) (growL l m)=true:=by
 by_cases h0:m=0
 ·subst h0
  have hg:growL l 0= []:=by unfold growL;rw [if_pos (.inl rfl)]
  rw [hg,List.take_zero]
  exact ckL_zero _ _
 ·exact ckL_right l m hl (by omega) h2
end Go.Proofs.YtgalfohobgjelaaGreatDoor
namespace Go.Proofs.YtgalfohobgjelaaGreatDoor
open Go.RowKit Go.Shelf
theorem setW_mem {d:Wd} {p:Pers} (h:p∈setW d):p∈setB d.n∨p=bidder 60∨p=bidder 61:=by
 unfold setW at h
 rcases List.mem_append.1 h with h|h
 ·exact .inl h
 ·simp only [List.mem_cons,List.not_mem_nil,or_false] at h
  exact .inr h
theorem wdn_le (d:Wd):d.n≤7:=by unfold Wd.n;omega
theorem setW_ok (d:Wd):PersOk (setW d):=fun p hp=>by
 rcases setW_mem hp with h|rfl|rfl
 ·exact setB_ok d.n (by have:=wdn_le d;omega) p h
 ·exact⟨⟨by decide,by decide⟩,⟨by decide,by decide⟩,gp_in _⟩
 ·exact⟨⟨by decide,by decide⟩,⟨by decide,by decide⟩,gp_in _⟩
theorem setW_pub (d:Wd):∀p∈setW d,In p.pub:=fun p hp=> (setW_ok d p hp).pub
theorem setW_len (d:Wd):(setW d).length≤1000:=by
 unfold setW
 rw [List.length_append,setB_len]
 have:=wdn_le d
 simp only [List.length_cons,List.length_nil]
 omega
theorem votesN_head (yes odd:Nat) (h:Hd):∀n,∀v∈votesN yes odd h n,v.head=h
 |0,v,hv=>by simp [votesN] at hv
 |n+1,v,hv=>by
  simp only [votesN,List.mem_append] at hv
  rcases hv with hv|hv
  ·exact votesN_head yes odd h n v hv
  ·split at hv
   ·simp only [List.mem_singleton] at hv
    subst hv
    rfl
   ·simp at hv
theorem votesW_head {d:Wd} {h:Hd} {yes odd:Nat} {v:Vt} (hv:v∈votesW d h yes odd):v.head=h:=votesN_head _ _ _ _ v hv
theorem votesW_ok (d:Wd) {h:Hd} (ok:h.Ok) (yes odd:Nat):VtsOk (votesW d h yes odd):=votesN_ok yes odd h ok d.n (by have:=wdn_le d;omega)
theorem votesW_small (d:Wd) {h:Hd} (hs:SmallH h) (yes odd:Nat):SmallV (votesW d h yes odd):=fun v hv=>by rw [votesW_head hv];exact hs
theorem hdOf_small {L:List ByteArray} (h:L.length≤1000):SmallH (hdOf L):=⟨L.length,rfl,h⟩
theorem hd0_small:SmallH hd0:=⟨0,rfl,by omega⟩
theorem best_same {P:List Pers} {L:List Vt} {h:Hd} (hL:∀v∈L,v.head=h) {o:Option Hd} (ho:BestL P L o):(o=none∧(L= []∨certB P h L=false))∨(o=some h∧certB P h L=true):=by
 have hd:∀x,x∈L.map (·.head)→x=h:=fun x hx=>by
  obtain⟨v,hv,rfl⟩:=List.mem_map.1 hx
  exact hL v hv
 cases o with
 |none=>
  refine .inl ⟨rfl,?_⟩
  cases L with
  |nil=>exact .inl rfl
  |cons v l=>exact .inr (ho h (List.mem_map.2 ⟨v,List.mem_cons_self .., hL v (List.mem_cons_self ..)⟩))
 |some b=>
  have e:b=h:=hd b ho.1
  subst e
  exact .inr ⟨rfl,ho.2.1⟩
theorem hdNext_small {P:List Pers} {L:List Vt} {o:Option Hd} {old h:Hd} {Q:List Hs} (hs:SmallV L) (hh:SmallH h) (ho:BestL P L o):SmallH (hdNext o old Q h):=by
 unfold hdNext
 split
 ·exact best_small hs ho
 ·exact hh
def wdLoad (v:Value):Sem Value:=Instr.loadAt 24 v
theorem wdLoad_eq (v:Value):Instr.loadAt 24 v=wdLoad v:=rfl
theorem wd_load {W:World} {g:Nat} {d:Wd} {kA:Option Addr} {kc:Nat} (h:Blk W g tWd (wdC d kA kc)):(wdLoad (.pointer (some ⟨g,0,none⟩))).run Tryz.prog W= .ok (.agg (wdC d kA kc)) W:=
 run_loadAt_mid W g 0 24 [.int .u8 (d.off:Int),.slice kA d.kinds.length kc,.int .u8 (d.fork:Int)] _ (blk_range h) Tryz.underlying24 rfl (by kernel_rfl)
theorem three_heads (W:World) {a b c:Hd} (la:a.root.length=32) (lb:b.root.length=32) (lc:c.root.length=32) (N M K:Nat) (hN:N=W.heap.size) (hM:M=N+1) (hK:K=M+1):
  ∃W3,W3=((W.alloc (.cells hd0C tHd)).alloc (.cells hd0C tHd)).alloc (.cells hd0C tHd)∧
   (hdStore (.pointer (some ⟨N,0,none⟩)) (.agg (hdC a).toArray)).run Tryz.prog W3= .ok () (W3.setCells N 0 (hdC a))∧
   (hdStore (.pointer (some ⟨M,0,none⟩)) (.agg (hdC b).toArray)).run Tryz.prog (W3.setCells N 0 (hdC a))= .ok () ((W3.setCells N 0 (hdC a)).setCells M 0 (hdC b))∧
   (hdStore (.pointer (some ⟨K,0,none⟩)) (.agg (hdC c).toArray)).run Tryz.prog ((W3.setCells N 0 (hdC a)).setCells M 0 (hdC b))= .ok () (((W3.setCells N 0 (hdC a)).setCells M 0 (hdC b)).setCells K 0 (hdC c))∧
   HdAt (((W3.setCells N 0 (hdC a)).setCells M 0 (hdC b)).setCells K 0 (hdC c)) N a∧
   HdAt (((W3.setCells N 0 (hdC a)).setCells M 0 (hdC b)).setCells K 0 (hdC c)) M b∧
   HdAt (((W3.setCells N 0 (hdC a)).setCells M 0 (hdC b)).setCells K 0 (hdC c)) K c∧
   Only NoneOf W (((W3.setCells N 0 (hdC a)).setCells M 0 (hdC b)).setCells K 0 (hdC c)):=by
 obtain⟨W3,e3⟩:∃W3,W3=((W.alloc (.cells hd0C tHd)).alloc (.cells hd0C tHd)).alloc (.cells hd0C tHd):=⟨_,rfl⟩
 have b1:Blk W3 N tHd hd0C:=by rw [e3,hN];exact((Blk.new W _ _).alloc _).alloc _
 have b2:Blk W3 M tHd hd0C:=by
  have h:=(Blk.new (W.alloc (.cells hd0C tHd)) tHd hd0C).alloc (.cells hd0C tHd)
  rw [World.size_alloc] at h
  rw [e3,hM,hN];exact h
 have b3:Blk W3 K tHd hd0C:=by
  have h:=Blk.new ((W.alloc (.cells hd0C tHd)).alloc (.cells hd0C tHd)) tHd hd0C
  rw [World.size_alloc,World.size_alloc] at h
  rw [e3,hK,hM,hN];exact h
 have n1:M≠N:=by omega
 have n2:K≠N:=by omega
 have n3:K≠M:=by omega
 have b2':Blk (W3.setCells N 0 (hdC a)) M tHd hd0C:=Blk.farCells n1 _ 0 b2
 have b3':Blk ((W3.setCells N 0 (hdC a)).setCells M 0 (hdC b)) K tHd hd0C:=Blk.farCells n3 _ 0 (Blk.farCells n2 _ 0 b3)
 have f1:HdAt (W3.setCells N 0 (hdC a)) N a:=filled_whole b1 (by rw [hdC_len la];rfl)
 have f2:HdAt ((W3.setCells N 0 (hdC a)).setCells M 0 (hdC b)) M b:=filled_whole b2' (by rw [hdC_len lb];rfl)
 have f3:HdAt (((W3.setCells N 0 (hdC a)).setCells M 0 (hdC b)).setCells K 0 (hdC c)) K c:=filled_whole b3' (by rw [hdC_len lc];rfl)
 refine⟨W3,e3,hd_store b1 rfl la,hd_store b2' rfl lb,hd_store b3' rfl lc,Blk.farCells (Ne.symm n2) _ 0 (Blk.farCells (Ne.symm n1) _ 0 f1),Blk.farCells (Ne.symm n3) _ 0 f2,f3,?_⟩
 rw [e3]
 exact only_setCells (only_setCells (only_setCells ((((Only.refl _ _).alloc _).alloc _).alloc _) N 0 (.inr (by omega)) _) M 0 (.inr (by omega)) _) K 0 (.inr (by omega)) _
end Go.Proofs.YtgalfohobgjelaaGreatDoor
namespace Go.Proofs.YtgalfohobgjelaaGreatDoor
theorem offGo_all:∀(l:List Pers) (seen:List Int),(∀p∈l,p.role=2∧p.id ∉ seen)→l.Pairwise (fun p q=>p.id≠q.id)→offGo seen l=l
 | [],_,_,_=>rfl
 |p::l,seen,h,hp=>by
  obtain⟨h1,h2⟩:=List.pairwise_cons.1 hp
  have h0:=h p (by simp)
  unfold offGo
  rw [if_pos ⟨h0.2,h0.1⟩,offGo_all l _ (fun q hq=> ⟨(h q (by simp [hq])).1,by
   rw [List.mem_cons,not_or]
   exact⟨fun e=>h1 q hq e.symm,(h q (by simp [hq])).2⟩⟩) h2]
theorem offs_setB (m:Nat) (hm:m<50):offs (setB m)=(List.range m).map (fun j=>offAt (j+1)):=by
 unfold offs setB
 rw [offGo,if_neg (fun h=>by have h2:(1:Int)=2:=h.2;omega)]
 refine offGo_all _ _ (fun p hp=> ?_) ?_
 ·obtain⟨j,hj,rfl⟩:=List.mem_map.1 hp
  have:=List.mem_range.1 hj
  refine⟨rfl,?_⟩
  rw [List.mem_cons,not_or]
  exact⟨fun e=>by have h2:((j+1:Nat):Int)=50:=e;omega,List.not_mem_nil⟩
 ·rw [List.pairwise_map]
  exact List.pairwise_lt_range.imp (fun {a b} h e=>by have h2:((a+1:Nat):Int)=((b+1:Nat):Int):=e;omega)
end Go.Proofs.YtgalfohobgjelaaGreatDoor
namespace Go.Proofs.YtgalfohobgjelaaGreatDoor
theorem offGo_skip:∀(l m:List Pers) (seen:List Int),(∀p∈m,p.role≠2)→offGo seen (l++m)=offGo seen l
 | [], [],_,_=>rfl
 | [],p::m,seen,h=>by
   rw [List.nil_append]
   unfold offGo
   rw [if_neg (fun h2=>h p (List.mem_cons_self ..) h2.2)]
   have:=offGo_skip [] m (p.id::seen) (fun q hq=>h q (List.mem_cons_of_mem _ hq))
   rw [List.nil_append] at this
   rw [this]
   rfl
 |p::l,m,seen,h=>by
  rw [List.cons_append]
  unfold offGo
  rw [offGo_skip l m _ h]
theorem offs_setW (d:Wd):offs (setW d)=(List.range d.n).map (fun j=>offAt (j+1)):=by
 rw [←offs_setB d.n (by have:=wdn_le d;omega)]
 unfold offs setW
 exact offGo_skip _ _ _ (fun p hp=>by
  simp only [List.mem_cons,List.not_mem_nil,or_false] at hp
  rcases hp with rfl|rfl<;> (intro e;cases e))
theorem offsW_at {d:Wd} {p:Pers} (hp:p∈offs (setW d)):∃k,1≤k∧k≤d.n∧p=offAt k:=by
 rw [offs_setW] at hp
 obtain⟨j,hj,rfl⟩:=List.mem_map.1 hp
 have:=List.mem_range.1 hj
 exact⟨j+1,by omega,by omega,rfl⟩
theorem votesN_mem (yes:Nat) (h:Hd):∀(n:Nat) (v:Vt),v∈votesN yes 0 h n ↔ ∃k,1≤k∧k≤n∧bitW yes k=true∧v=vAt h k
 |0,v=>by
  constructor
  ·intro hv;simp [votesN] at hv
  ·rintro⟨k,h1,h2,_⟩;omega
 |n+1,v=>by
  simp only [votesN,List.mem_append]
  rw [votesN_mem yes h n v]
  constructor
  ·rintro(⟨k,h1,h2,h3,h4⟩|hv)
   ·exact⟨k,h1,by omega,h3,h4⟩
   ·split at hv
    ·rename_i hb
     simp only [List.mem_singleton] at hv
     exact⟨n+1,by omega,Nat.le_refl _,hb,by rw [hv,voteW0 _ _ (bit00 _)]⟩
    ·simp at hv
  ·rintro⟨k,h1,h2,h3,h4⟩
   by_cases e:k=n+1
   ·subst e
    refine .inr ?_
    rw [if_pos h3,h4,voteW0 _ _ (bit00 _)]
    exact List.mem_singleton.2 rfl
   ·exact .inl ⟨k,h1,by omega,h3,h4⟩
theorem agT_sizes {a b:Hd} (h:a.size≠b.size):agT a b=true:=by
 unfold agT
 rw [agB_cases]
 simp [h]
theorem agT_roots {a b:Hd} (h:a.size=b.size) (hn:a≠b):agT a b=false:=by
 unfold agT
 rw [agB_cases]
 have:eqHd a b=false:=by
  cases he:eqHd a b with
  |false=>rfl
  |true=>exact absurd (eqHd_true.1 he) hn
 simp [h,this]
theorem agT_self (a:Hd):agT a a=true:=by
 unfold agT
 rw [agB_cases]
 simp [eqHd_true.2 rfl]
theorem agT_false {a b:Hd} (h:agT a b=false):a.size=b.size∧a≠b:=by
 constructor
 ·by_cases e:a.size=b.size
  ·exact e
  ·rw [agT_sizes e] at h;cases h
 ·rintro rfl
  rw [agT_self] at h;cases h
theorem takeV_mem (M L:List Vt) (v:Vt):v∈takeV M L ↔ v∈M∨v∈L:=by
 rw [takeV_fold]
 induction L generalizing M with
 |nil=>simp
 |cons x l ih=>
  rw [List.foldl_cons,ih]
  unfold take1
  by_cases hb:hasB M x=true
  ·rw [if_pos hb]
   have:=hasB_true.1 hb
   constructor
   ·rintro(h|h)
    ·exact .inl h
    ·exact .inr (List.mem_cons_of_mem _ h)
   ·rintro(h|h)
    ·exact .inl h
    ·rcases List.mem_cons.1 h with rfl|h
     ·exact .inl this
     ·exact .inr h
  ·rw [if_neg hb]
   simp only [List.mem_append,List.mem_cons,List.not_mem_nil,or_false]
   constructor
   ·rintro((h|h)|h)
    ·exact .inl h
    ·exact .inr (.inl h)
    ·exact .inr (.inr h)
   ·rintro(h|h|h)
    ·exact .inl (.inl h)
    ·exact .inl (.inr h)
    ·exact .inr h
end Go.Proofs.YtgalfohobgjelaaGreatDoor
namespace Go.Proofs.YtgalfohobgjelaaGreatDoor
open Go.RowKit Go.Shelf
theorem evAt_ok (d:Wd) (second:Bool) (k:Nat) (hk:k≤2000) (last:Hs) (hl:last.length=32) (x:Nat):(evAt d second k last x).Ok:=signE_ok (evRaw_ok d second k hk last hl x) _
theorem evAt_short (d:Wd) (second:Bool) (k:Nat) (last:Hs) (x:Nat):(evAt d second k last x).name.size≤100∧(evAt d second k last x).text.size≤100:=signE_short _ _ (evRaw_short d second k last x)
theorem evsGo_get (d:Wd) (second:Bool):∀(l:List UInt8) (k:Nat) (last:Hs),last.length=32→∀(i:Nat) (e:Ev),(evsGo d second k last l)[i]? =some e→∃(prev:Hs) (x:UInt8),prev.length=32∧l[i]? =some x∧e=evAt d second (k+i) prev x.toNat
 | [],_,_,_,i,e,h=>by simp [evsGo] at h
 |x::l,k,last,hl,0,e,h=>by
  simp only [evsGo,List.getElem?_cons_zero,Option.some.injEq] at h
  exact⟨last,x,hl,rfl,h.symm⟩
 |x::l,k,last,hl,i+1,e,h=>by
  simp only [evsGo,List.getElem?_cons_succ] at h
  obtain⟨prev,y,h1,h2,h3⟩:=evsGo_get d second l (k+1) _ (shaL_len _) i e h
  exact⟨prev,y,h1,by rw [List.getElem?_cons_succ];exact h2,by rw [h3,show k+ (i+1)=k+1+i by omega]⟩
theorem evsW_len (d:Wd) (second:Bool):(evsW d second).length=min 12 d.kinds.length:=by
 unfold evsW
 rw [evsGo_len,List.length_take]
theorem evsW_le (d:Wd) (second:Bool):(evsW d second).length≤12:=by rw [evsW_len];omega
theorem evsW_get {d:Wd} {second:Bool} {i:Nat} {e:Ev} (h:(evsW d second)[i]? =some e):∃(prev:Hs) (x:UInt8),prev.length=32∧d.kinds[i]? =some x∧i<12∧e=evAt d second i prev x.toNat:=by
 unfold evsW at h
 obtain⟨prev,x,h1,h2,h3⟩:=evsGo_get d second _ 0 zeroH rfl i e h
 have hi:i<12:=by
  have:=(List.getElem?_eq_some_iff.1 h2).1
  rw [List.length_take] at this
  omega
 refine⟨prev,x,h1,?_,hi,by rw [h3,Nat.zero_add]⟩
 rw [List.getElem?_take,if_pos hi] at h2
 exact h2
theorem evsW_ok {d:Wd} {second:Bool} {e:Ev} (h:e∈evsW d second):e.Ok∧e.name.size≤100∧e.text.size≤100:=by
 obtain⟨i,hi⟩:=List.mem_iff_getElem?.1 h
 obtain⟨prev,x,h1,_,h12,rfl⟩:=evsW_get hi
 exact⟨evAt_ok d second i (by omega) prev h1 _,evAt_short d second i prev _⟩
noncomputable def lvW (d:Wd) (second:Bool):List ByteArray:=leavesE (evsW d second)
theorem lvW_len (d:Wd) (second:Bool):(lvW d second).length=(evsW d second).length:=leavesE_len _
theorem lvW_le (d:Wd) (second:Bool):(lvW d second).length≤12:=by rw [lvW_len];exact evsW_le d second
theorem lvW_short (d:Wd) (second:Bool):ShortTs (lvW d second):=fun s hs=>by
 obtain⟨e,he,rfl⟩:=List.mem_map.1 hs
 have h:=evsW_ok he
 have h2:=evCode_short h.1 (by omega) (by omega)
 show(evCode e).toArray.size≤_
 rw [List.size_toArray]
 exact h2
theorem short_take {L:List ByteArray} (h:ShortTs L) (n:Nat):ShortTs (L.take n):=fun s hs=>h s (List.mem_of_mem_take hs)
theorem StSl.first {W:World} {A:Option Addr} {n cap k:Nat} {L:List ByteArray} (h:StSl W (.slice A n cap) L) (hk:k≤L.length):StSl W (.slice A k cap) (L.take k):=by
 obtain⟨A',cap',e,h1,h2,h3⟩:=h
 cases e
 refine⟨A,cap,by rw [List.length_take,Nat.min_eq_left hk],by rw [List.length_take];omega,h2,fun i s hs=>h3 i s ?_⟩
 rw [List.getElem?_take] at hs
 split at hs
 ·exact hs
 ·cases hs
theorem growL_len (l:List (List UInt8)) (m:Nat):(growL l m).length≤l.length:=by
 unfold growL
 split
 ·exact Nat.zero_le _
 ·rw [List.length_reverse]
  exact growF_len _ _ _ _
end Go.Proofs.YtgalfohobgjelaaGreatDoor
namespace Go.Proofs.YtgalfohobgjelaaGreatDoor
open Go.RowKit Go.Shelf
structure Ac where
 what:Int
 n:Int
 size:Int
 from_:Int
 second:Bool
 bits:Nat
 wrong:Nat
 b0:Int
 b1:Int
structure Ac.Ok (a:Ac):Prop where
 what:In a.what
 n:In a.n
 size:In a.size
 from_:In a.from_
 bits:a.bits<65536
 wrong:a.wrong<65536
 b0:In a.b0
 b1:In a.b1
abbrev acC (a:Ac):Array Value:= #[.int .i64 a.what,.int .i64 a.n,.int .i64 a.size,.int .i64 a.from_,.bool a.second,.int .u16 (a.bits:Int),.int .u16 (a.wrong:Int),.int .i64 a.b0,.int .i64 a.b1]
abbrev tAc:TypeId:=70
abbrev tCl:TypeId:=81
def bd0:Bd:=⟨0,⟨#[]⟩, [],⟨#[]⟩, []⟩
def clA (wh:Int) (b:Bd) (A:Option Addr) (k:Nat):List Value:= [.int .i64 wh,.int .i64 b.bidder,.string b.qt,.slice A b.qc.length k,.string b.pt,.slice none b.pc.length 0]
def clL (wh:Int) (b:Bd) (A:Option Addr) (k:Nat) (e:Ev) (gv rv:Value):List Value:=clA wh b A k++ (evC e++ [gv,rv])
def clLoad (v:Value):Sem Value:=Instr.loadAt 81 v
theorem clLoad_eq (v:Value):Instr.loadAt 81 v=clLoad v:=rfl
def clStore (p v:Value):Sem Unit:=Instr.storeAt 81 p v
theorem clStore_eq (p v:Value):Instr.storeAt 81 p v=clStore p v:=rfl
def clNew:Sem Value:=Instr.alloc 81 true (.tuple #[])
theorem clNew_eq:Instr.alloc 81 true (.tuple #[])=clNew:=rfl
def cl0:List Value:=clL 0 bd0 none 0 blank0 (.slice none 0 0) (.slice none 0 0)
theorem clNew_run (W:World):clNew.run Tryz.prog W= .ok (.pointer (some ⟨W.heap.size,0,none⟩)) (W.alloc (.cells cl0.toArray tCl)):=by kernel_rfl
section
variable {w W:World} {g:Nat} {wh:Int} {b:Bd} {A:Option Addr} {k:Nat} {e:Ev} {gv rv:Value}
theorem clL_len (h:e.prev.length=32):(clL wh b A k e gv rv).length=54:=by simp [clL,clA,evC_len h]
theorem cl0_len:cl0.length=54:=clL_len rfl
abbrev ClB (W:World) (g:Nat) (wh:Int) (b:Bd) (A:Option Addr) (k:Nat) (e:Ev) (gv rv:Value):Prop:=Blk W g tCl (clL wh b A k e gv rv).toArray
theorem cl_at {i:Nat} {v:Value} (h:ClB W g wh b A k e gv rv) (hi:(clL wh b A k e gv rv)[i]? =some v):W.cell? ⟨g,i,none⟩=some v:=by rw [h.cell];simpa using hi
theorem cl_what (h:ClB W g wh b A k e gv rv):W.cell? ⟨g,0,none⟩=some (.int .i64 wh):=cl_at h rfl
theorem cl_text (h:ClB W g wh b A k e gv rv):W.cell? ⟨g,15,none⟩=some (.string e.text):=cl_at h rfl
theorem cl_tail (he:e.prev.length=32) (j:Nat):(clL wh b A k e gv rv)[52+j]? = [gv,rv][j]? :=by
 unfold clL
 rw [List.getElem?_append_right (by show 6≤_;omega),show(clA wh b A k).length=6 from rfl,List.getElem?_append_right (by rw [evC_len he];omega),evC_len he]
 congr 1;omega
theorem cl_proof (h:ClB W g wh b A k e gv rv) (he:e.prev.length=32):W.cell? ⟨g,52,none⟩=some gv:=cl_at h (cl_tail he 0)
theorem cl_votes (h:ClB W g wh b A k e gv rv) (he:e.prev.length=32):W.cell? ⟨g,53,none⟩=some rv:=cl_at h (cl_tail he 1)
theorem cl_put {i:Nat} {v:Value} {wh':Int} {b':Bd} {A':Option Addr} {k':Nat} {e':Ev} {gv' rv':Value} (h:ClB W g wh b A k e gv rv) (hs:(clL wh b A k e gv rv).set i v=clL wh' b' A' k' e' gv' rv'):ClB (W.setCell ⟨g,i,none⟩ v) g wh' b' A' k' e' gv' rv':=by
 have h1:=Blk.set_ h i v
 rw [show((clL wh b A k e gv rv).toArray).setIfInBounds i v=(clL wh' b' A' k' e' gv' rv').toArray by rw [List.setIfInBounds_toArray,hs]] at h1
 exact h1
theorem cl_put_proof (h:ClB W g wh b A k e gv rv) (he:e.prev.length=32) (x:Value):ClB (W.setCell ⟨g,52,none⟩ x) g wh b A k e x rv:=by
 refine cl_put h ?_
 unfold clL
 rw [List.set_append_right _ _ (by show 6≤_;omega),show(clA wh b A k).length=6 from rfl,List.set_append_right _ _ (by rw [evC_len he];omega),evC_len he]
 rfl
theorem cl_put_text (h:ClB W g wh b A k e gv rv) (t:ByteArray):ClB (W.setCell ⟨g,15,none⟩ (.string t)) g wh b A k { e with text:=t} gv rv:=cl_put h rfl
theorem cl_put_ev (h:ClB W g wh b A k e gv rv) (he:e.prev.length=32) {e':Ev} (he':e'.prev.length=32):ClB (W.setCells g 6 (evC e')) g wh b A k e' gv rv:=by
 have h1:=Blk.setCells (evC e') 6 h
 have e9:setMany (clL wh b A k e gv rv) 6 (evC e')=clL wh b A k e' gv rv:=by
  rw [setMany_eq _ _ _ (by rw [clL_len he,evC_len he'];omega),evC_len he']
  unfold clL
  have e1:(clA wh b A k++ (evC e++ [gv,rv])).take 6=clA wh b A k:=by rw [List.take_append_of_le_length (by exact Nat.le_refl 6)];rfl
  have e2:(clA wh b A k++ (evC e++ [gv,rv])).drop (6+46)= [gv,rv]:=by
   rw [←List.drop_drop,show(clA wh b A k++ (evC e++ [gv,rv])).drop 6=evC e++ [gv,rv] from rfl,List.drop_append,evC_len he,List.drop_of_length_le (by rw [evC_len he];exact Nat.le_refl _)]
   rfl
  rw [e1,e2,List.append_assoc]
 rw [e9] at h1
 exact h1
theorem cl_ev (h:ClB W g wh b A k e gv rv):W.rangeAt g 6 (evC e):=fun j v hj=>by
 have hj2:=(List.getElem?_eq_some_iff.1 hj).1
 refine cl_at h ?_
 unfold clL
 rw [List.getElem?_append_right (by show 6≤_;omega),show(clA wh b A k).length=6 from rfl,Nat.add_sub_cancel_left,List.getElem?_append_left hj2]
 exact hj
theorem cl_load (h:ClB W g wh b A k e gv rv) (he:e.prev.length=32):(clLoad (.pointer (some ⟨g,0,none⟩))).run Tryz.prog W= .ok (.agg (clL wh b A k e gv rv).toArray) W:=
 run_loadAt_mid W g 0 81 (clL wh b A k e gv rv) _ (blk_range h) Tryz.underlying81 rfl (by rw [clL_len he];kernel_rfl)
theorem cl_one (hg:gv.oneCell'=true) (hr:rv.oneCell'=true):∀v∈clL wh b A k e gv rv,v.oneCell'=true:=fun v hv=>by
 unfold clL clA at hv
 simp only [List.mem_append,List.mem_cons,List.not_mem_nil,or_false] at hv
 rcases hv with(rfl|rfl|rfl|rfl|rfl|rfl)|hv|rfl|rfl
 ·rfl
 ·rfl
 ·rfl
 ·rfl
 ·rfl
 ·rfl
 ·exact evC_ones e v hv
 ·exact hg
 ·exact hr
theorem cl_store {cs:List Value} (h:Blk W g tCl cs.toArray) (hl:cs.length=54) (he:e.prev.length=32) (hg:gv.oneCell'=true) (hr:rv.oneCell'=true):(clStore (.pointer (some ⟨g,0,none⟩)) (.agg (clL wh b A k e gv rv).toArray)).run Tryz.prog W= .ok () (W.setCells g 0 (clL wh b A k e gv rv)):=
 run_storeAt_mid (P:=Tryz.prog) W g 0 81 (clL wh b A k e gv rv).toArray (h.there 0 _ (by simp [clL_len he,hl])) (by rw [List.size_toArray,clL_len he];kernel_rfl) (all_oneCell_toArray (cl_one hg hr))
theorem cl_stored {cs:List Value} (h:Blk W g tCl cs.toArray) (hl:cs.length=54) (he:e.prev.length=32):ClB (W.setCells g 0 (clL wh b A k e gv rv)) g wh b A k e gv rv:=h.filled _ (by rw [clL_len he,hl])
theorem cl_store_ev (h:ClB W g wh b A k e gv rv) (he:e.prev.length=32) {e':Ev} (he':e'.prev.length=32):(evStore (.pointer (some ⟨g,6,none⟩)) (.agg (evC e').toArray)).run Tryz.prog W= .ok () (W.setCells g 6 (evC e')):=
 run_storeAt_mid (P:=Tryz.prog) W g 6 79 (evC e').toArray (h.there 6 _ (by simp [clL_len he,evC_len he'])) (by rw [List.size_toArray,evC_len he'];kernel_rfl) (all_oneCell_toArray (evC_ones e'))
end
structure Cl where
 what:Int
 bid:Bd
 ev:Ev
 proof:List Hs
 votes:List Vt
noncomputable def proofW (d:Wd) (a:Ac):List Hs:=
 let sz:=(a.size % (((lvW d a.second).length:Int) +1)).toNat
 if a.what % 6<4 then growL (txs ((lvW d a.second).take sz)) (a.from_ % ((sz:Int) +1)).toNat
 else if(lvW d a.second).length=0 then []
 else
  let n:=(a.n % ((lvW d a.second).length:Int)).toNat
  if n<sz then(pathF sz (txs ((lvW d a.second).take sz)) n).reverse else []
noncomputable def eventW (d:Wd) (a:Ac):Ev:=
 if a.what % 6<4∨(lvW d a.second).length=0 then blank0
 else
  let e:=(evsW d a.second)[(a.n % ((lvW d a.second).length:Int)).toNat]?.getD blank0
  if a.n.tmod 7=6 then { e with text:=e.text++ ⟨#[32]⟩} else e
noncomputable def makeW (d:Wd) (a:Ac):Cl where
 what:=a.what % 6
 bid:=bidW a.n
 ev:=eventW d a
 proof:=if 0≤a.b0 then bentL (proofW d a) a.b0 a.b1 else proofW d a
 votes:=votesW d (hdOf ((lvW d a.second).take (a.size % (((lvW d a.second).length:Int) +1)).toNat)) a.bits a.wrong
end Go.Proofs.YtgalfohobgjelaaGreatDoor
