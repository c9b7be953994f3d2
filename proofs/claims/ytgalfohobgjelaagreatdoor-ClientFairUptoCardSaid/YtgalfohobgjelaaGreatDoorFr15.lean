/- What is proved here:several parts. several parts. the order of roots,by the program and by the reference. Conditions:a root has 32 bytes. · what the greatest head of some heads is:plain laws. No conditions. · the greatest certified head,by the program. Conditions:the numbers are ints,roots have 32 bytes,there are few votes and persons;the table of powers of ten reads as its initialiser lays it. · a client in memory:its cells,what belongs to it,how it is told apart from other things. Conditions:roots have 32 bytes. -/
import Derived.Test.YtgalfohobgjelaaGreatDoorFr09
import Derived.Test.YtgalfohobgjelaaGreatDoorFr13
import Derived.Test.YtgalfohobgjelaaGreatDoorFr14
import Derived.Deep.DeepCutAuto
import Derived.Deep.RegionHeld3
import Derived.BigQuiet
namespace Go.Proofs.YtgalfohobgjelaaGreatDoor
open Go.RowKit Go.Shelf
def ordB (x y:UInt8):Int:=if x.toNat<y.toNat then -1 else if y.toNat<x.toNat then 1 else 0
def ordL:List UInt8→List UInt8→Int
 | [], []=>0
 | [],_::_=> -1
 |_::_, []=>1
 |x::a,y::b=>if ordB x y=0 then ordL a b else ordB x y
def lessL (a b:List UInt8):Bool:=decide (ordL a b<0)
theorem ordB_zero {x y:UInt8}:ordB x y=0 ↔ x=y:=by
 unfold ordB
 constructor
 ·intro h
  split at h
  ·omega
  ·split at h
   ·omega
   ·exact UInt8.toNat_inj.1 (by omega)
 ·rintro rfl
  simp
theorem ordB_in (x y:UInt8):ordB x y= -1∨ordB x y=0∨ordB x y=1:=by
 unfold ordB
 split
 ·exact .inl rfl
 ·split
  ·exact .inr (.inr rfl)
  ·exact .inr (.inl rfl)
theorem ordL_in:∀a b:List UInt8,ordL a b= -1∨ordL a b=0∨ordL a b=1
 | [], []=> .inr (.inl rfl)
 | [],_::_=> .inl rfl
 |_::_, []=> .inr (.inr rfl)
 |x::a,y::b=>by
  unfold ordL
  split
  ·exact ordL_in a b
  ·exact ordB_in x y
theorem ordL_self:∀a:List UInt8,ordL a a=0
 | []=>rfl
 |x::a=>by
  unfold ordL
  rw [if_pos (ordB_zero.2 rfl)]
  exact ordL_self a
theorem ordL_zero:∀a b:List UInt8,ordL a b=0→a=b
 | [], [],_=>rfl
 | [],_::_,h=>absurd h (by unfold ordL;omega)
 |_::_, [],h=>absurd h (by unfold ordL;omega)
 |x::a,y::b,h=>by
  unfold ordL at h
  split at h
  ·rename_i hz
   rw [ordB_zero.1 hz,ordL_zero a b h]
  ·rename_i hz
   exact absurd h hz
theorem ordB_neg (x y:UInt8):ordB y x= - ordB x y:=by
 unfold ordB
 split<;>split<;> (try split) <;>omega
theorem ordL_neg:∀a b:List UInt8,ordL b a= - ordL a b
 | [], []=>rfl
 | [],_::_=>rfl
 |_::_, []=>rfl
 |x::a,y::b=>by
  unfold ordL
  rw [ordB_neg x y,ordL_neg a b]
  by_cases h:ordB x y=0
  ·rw [if_pos h,if_pos (by omega)]
  ·rw [if_neg h,if_neg (by omega)]
theorem lessL_self (a:List UInt8):lessL a a=false:=by unfold lessL;rw [ordL_self];rfl
theorem lessL_total {a b:List UInt8} (h:a≠b):lessL b a= !lessL a b:=by
 unfold lessL
 rw [ordL_neg a b]
 have h0:ordL a b≠0:=fun e=>h (ordL_zero a b e)
 rcases ordL_in a b with e|e|e
 ·rw [e];rfl
 ·exact absurd e h0
 ·rw [e];rfl
theorem ordL_trans:∀a b c:List UInt8,ordL a b<0→ordL b c<0→ordL a c<0
 | [], [],_,h,_=>absurd h (by unfold ordL;omega)
 | [],_::_, [],_,h=>absurd h (by unfold ordL;omega)
 | [],_::_,_::_,_,_=>by unfold ordL;omega
 |_::_, [],_,h,_=>absurd h (by unfold ordL;omega)
 |_::_,_::_, [],_,h=>absurd h (by unfold ordL;omega)
 |x::a,y::b,z::c,h,h'=>by
  unfold ordL at h h'⊢
  have tr:=ordL_trans a b c
  unfold ordB at h h'⊢
  have:=x.toNat_lt;have:=y.toNat_lt;have:=z.toNat_lt
  repeat' split at h
  all_goals repeat' split at h'
  all_goals repeat' split
  all_goals first|omega|(exact tr h h')
theorem lessL_trans {a b c:List UInt8} (h:lessL a b=true) (h':lessL b c=true):lessL a c=true:=by
 unfold lessL at *
 exact decide_eq_true (ordL_trans a b c (of_decide_eq_true h) (of_decide_eq_true h'))
theorem nan_any (x:UInt8) (w:World):Calls Tryz.prog 201 #[bv x] w fun e w'=>e= .returned (.bool false)∧w'=w:=by
 unfold bv
 have hx:=x.toNat_lt
 go_enter Tryz.func201,Tryz.ntmps201
 go_wp2_with fail
 go_ret
 exact⟨rfl,rfl⟩
theorem cmp_any (x y:UInt8) (w:World):Calls Tryz.prog 184 #[bv x,bv y] w fun e w'=>e= .returned (.int .i64 (ordB x y))∧w'=w:=by
 have nx:=nan_any x
 have ny:=nan_any y
 obtain⟨c,hc⟩:∃c,c=ordB x y:=⟨_,rfl⟩
 rw [←hc]
 unfold ordB at hc
 unfold bv at *
 have hx:=x.toNat_lt
 have hy:=y.toNat_lt
 have NX:=Lib.hid nx
 have NY:=Lib.hid ny
 have HC:=Lib.hid hc
 clear nx ny hc
 go_enter Tryz.func184,Tryz.ntmps184
 go_wp2_with fail
 refine(NX.out _).mono ?_
 rintro e1 w1 ⟨rfl,rfl⟩
 go_wp2_with fail
 refine(NY.out _).mono ?_
 rintro e2 w2 ⟨rfl,rfl⟩
 go_wp2_with fail
 all_goals
  go_ret
  refine⟨ret_int ?_,rfl⟩
  rw [HC.out]
  (repeat' split) <;>first|rfl|omega
set_option maxHeartbeats 1000000 in
theorem compare_any (h l:List UInt8) (hh:h.length=32) (hl:l.length=32) (A B c d:Nat) (w:World) (ha:w.rangeAt A 0 (h.map bv)) (hb:w.rangeAt B 0 (l.map bv)):
  Calls Tryz.prog 164 #[.slice (some ⟨A,0,none⟩) 32 c,.slice (some ⟨B,0,none⟩) 32 d] w fun e w'=>e= .returned (.int .i64 (ordL h l))∧w'=w:=by
 have hc:=cmp_any
 have HH:=Lib.hid hh
 have HL:=Lib.hid hl
 have HA:=Lib.hid ha
 have HB:=Lib.hid hb
 have HC:=Lib.hid hc
 clear hh hl ha hb hc
 go_enter Tryz.func164,Tryz.ntmps164
 go_wp2_with fail
 go_loopw [4,5,6,7,8,11] (fun _ _ _ _ _ i wr=> ∃k:Nat,i= .int .i64 k∧k≤32∧ordL h l=ordL (h.drop k) (l.drop k)∧wr=w) (fun _ _ _ _ _ i _=>32 - (intOf i).toNat)
 case atStart=>exact⟨0,rfl,by omega,rfl,rfl⟩
 case round=>
  obtain⟨k,rfl,hk,hcm,rfl⟩:=hrel
  by_cases hlt:k<32
  ·obtain⟨x,hx⟩:∃x,h[k]? =some x:=⟨_,List.getElem?_eq_getElem (by have:=HH.out;omega)⟩
   obtain⟨y,hy⟩:∃y,l[k]? =some y:=⟨_,List.getElem?_eq_getElem (by have:=HL.out;omega)⟩
   have ca:wr.cell? ⟨A,k,none⟩=some (.int .u8 (x.toNat:Int)):=by
    have:=HA.out k (bv x) (by rw [List.getElem?_map,hx];rfl)
    rwa [Nat.zero_add] at this
   have cb:wr.cell? ⟨B,k,none⟩=some (.int .u8 (y.toNat:Int)):=by
    have:=HB.out k (bv y) (by rw [List.getElem?_map,hy];rfl)
    rwa [Nat.zero_add] at this
   have hd1:h.drop k=x::h.drop (k+1):=by
    have hq:k<h.length:=by have:=HH.out;omega
    rw [List.drop_eq_getElem_cons hq];rw [List.getElem?_eq_getElem hq] at hx;rw [Option.some.inj hx]
   have hd2:l.drop k=y::l.drop (k+1):=by
    have hq:k<l.length:=by have:=HL.out;omega
    rw [List.drop_eq_getElem_cons hq];rw [List.getElem?_eq_getElem hq] at hy;rw [Option.some.inj hy]
   rw [hd1,hd2,ordL] at hcm
   have hct:=HC.out x y wr
   unfold bv at hct
   have hx256:=x.toNat_lt
   have hy256:=y.toNat_lt
   have ik:(k:Int) <32:=by omega
   have ik2:¬(32:Int)≤(k:Int):=by omega
   have ik0:(0:Int)≤(k:Int):=by omega
   obtain⟨c0,hc0⟩:∃c0,c0=ordB x y:=⟨_,rfl⟩
   have hin:=ordB_in x y
   rw [←hc0] at hct hcm hin
   have HCT:=Lib.hid hct
   have HCM:=Lib.hid hcm
   have HIN:=Lib.hid hin
   clear hct hcm hin hd1 hd2 hx hy hc0
   go_wp2_with fail
   refine HCT.out.mono ?_
   rintro e1 w1 ⟨rfl,rfl⟩
   have hin:=HIN.out
   by_cases hz:c0=0
   ·subst hz
    clear hin HIN HCT
    go_wp2_with fail
    go_roundw
    case rel=>exact⟨k+1,by go_num,by omega,by rw [HCM.out];simp,by first|rfl|trivial⟩
    case measure=>simp [intOf];omega
   ·have hb0:decide (c0=0)=false:=decide_eq_false hz
    have hi0: -9223372036854775808≤c0∧c0≤9223372036854775807:=by omega
    clear hin
    go_wp2_with fail
    go_ret
    exact⟨ret_int (by rw [HCM.out,if_neg hz]),rfl⟩
  ·obtain rfl:k=32:=by omega
   have ik:¬((32:Nat):Int) <32:=by omega
   have h1:h.drop 32= []:=List.drop_of_length_le (by rw [HH.out];exact Nat.le_refl _)
   have h2:l.drop 32= []:=List.drop_of_length_le (by rw [HL.out];exact Nat.le_refl _)
   rw [h1,h2,ordL] at hcm
   have HCM:=Lib.hid hcm
   clear hcm
   go_wp2_with fail
   go_ret
   exact⟨ret_int (by rw [HCM.out]),rfl⟩
def rtLoad (v:Value):Sem Value:=Instr.loadAt 35 v
theorem rtLoad_eq (v:Value):Instr.loadAt 35 v=rtLoad v:=rfl
theorem rt_load {W:World} {g o:Nat} {l:List UInt8} (h:W.rangeAt g o (l.map bv)) (hl:l.length=32):(rtLoad (.pointer (some ⟨g,o,none⟩))).run Tryz.prog W= .ok (.agg (l.map bv).toArray) W:=
 run_loadAt_mid W g o 35 (l.map bv) _ h Tryz.underlying35 rfl (by rw [List.length_map,hl];kernel_rfl)
theorem neq_root (xs ys:List UInt8) (hx:xs.length=32) (hy:ys.length=32) (w:World):(binOp .neq 35 (.agg (xs.map bv).toArray) (.agg (ys.map bv).toArray)).run Tryz.prog w= .ok (.bool (!(xs==ys))) w:=by
 have h:(Op.equalIn 10000 35 (.agg (xs.map bv).toArray) (.agg (ys.map bv).toArray)).run Tryz.prog w= .ok (xs==ys) w:=run_equalIn_bytes w 9998 35 5 32 Tryz.underlying35 Tryz.underlying5 sizeU8 xs ys hx hy
 rw [run_neq_struct,h]
 rfl
attribute [local go_sem ↓ high] rtLoad_eq
set_option maxRecDepth 100000 in
set_option maxHeartbeats 4000000 in
theorem less_any (h l:List UInt8) (hh:h.length=32) (hl:l.length=32) (w:World):Calls Tryz.prog 125 #[hv h,hv l] w fun e w'=>e= .returned (.bool (lessL h l))∧Only NoneOf w w':=by
 unfold hv
 have hb0:Blk (w.alloc (.cells (h.map bv).toArray 35)) w.heap.size 35 (h.map bv).toArray:=Blk.new w _ _
 have ho0:Only NoneOf w (w.alloc (.cells (h.map bv).toArray 35)):=(Only.refl _ _).alloc _
 have hb1:Blk ((w.alloc (.cells (h.map bv).toArray 35)).alloc (.cells (l.map bv).toArray 35)) (w.heap.size+1) 35 (l.map bv).toArray:=by
  have h9:Blk ((w.alloc (.cells (h.map bv).toArray 35)).alloc (.cells (l.map bv).toArray 35)) (w.alloc (.cells (h.map bv).toArray 35)).heap.size 35 (l.map bv).toArray:=Blk.new _ _ _
  rwa [show(w.alloc (.cells (h.map bv).toArray 35)).heap.size=w.heap.size+1 from by simp] at h9
 have hb2:Blk ((w.alloc (.cells (h.map bv).toArray 35)).alloc (.cells (l.map bv).toArray 35)) w.heap.size 35 (h.map bv).toArray:=Blk.only hb0 ((Only.refl NoneOf _).alloc _) (fun e=>e)
 have ho1:Only NoneOf w ((w.alloc (.cells (h.map bv).toArray 35)).alloc (.cells (l.map bv).toArray 35)):=ho0.alloc _
 obtain⟨A,eA⟩:∃A,A=w.heap.size:=⟨_,rfl⟩
 obtain⟨B,eB⟩:∃B,B=w.heap.size+1:=⟨_,rfl⟩
 rw [←eB] at hb1
 rw [←eA] at hb2
 have HB1:=Lib.hid hb1
 have HB2:=Lib.hid hb2
 have HO1:=Lib.hid ho1
 have HH:=Lib.hid hh
 have HL:=Lib.hid hl
 have EA:=Lib.hid eA
 have EB:=Lib.hid eB
 clear hb0 hb1 hb2 ho0 ho1 hh hl eA eB
 go_enter Tryz.func125,Tryz.ntmps125
 go_upto_region 1 with(fail)
 rw [←EB.out,←EA.out]
 refine wp_gen (fun Z=>Blk Z A 35 (h.map bv).toArray∧Blk Z B 35 (l.map bv).toArray∧Only NoneOf w Z) ⟨HB2.out,HB1.out,HO1.out⟩ ?_
 rintro Z ⟨za,zb,zo⟩
 have la:∀q,(rtLoad (.pointer (some ⟨A,0,none⟩))).run Tryz.prog (Z.drewN q)= .ok (.agg (h.map bv).toArray) (Z.drewN q):=fun q=>rt_load (blk_range (za.drewN q)) HH.out
 have lb:∀q,(rtLoad (.pointer (some ⟨B,0,none⟩))).run Tryz.prog (Z.drewN q)= .ok (.agg (l.map bv).toArray) (Z.drewN q):=fun q=>rt_load (blk_range (zb.drewN q)) HL.out
 have hcp:∀q,Calls Tryz.prog 164 #[.slice (some ⟨A,0,none⟩) 32 32,.slice (some ⟨B,0,none⟩) 32 32] (Z.drewN q) fun e w'=>e= .returned (.int .i64 (ordL h l))∧w'=Z.drewN q:=fun q=>compare_any h l HH.out HL.out A B 32 32 _ (blk_range (za.drewN q)) (blk_range (zb.drewN q))
 have nq:∀W,(binOp .neq 35 (.agg (h.map bv).toArray) (.agg (l.map bv).toArray)).run Tryz.prog W= .ok (.bool (!(h==l))) W:=fun W=>neq_root h l HH.out HL.out _
 have hfin:=lessL_self h
 obtain⟨c,hc⟩:∃c,c=ordL h l:=⟨_,rfl⟩
 have hin:=ordL_in h l
 have hles:lessL h l=decide (c<0):=by rw [hc];rfl
 rw [←hc] at hcp hin
 have HCP:=Lib.hid hcp
 have HZO:=Lib.hid zo
 have HLES:=Lib.hid hles
 clear hcp zo HB1 HB2 HO1 hles hc
 cases hβ:(h==l) with
 |true=>
  have he:h=l:=eq_of_beq hβ
  rw [hβ,Bool.not_true] at nq
  clear HCP HLES hin hβ
  subst he
  have HFIN:=Lib.hid hfin
  clear hfin
  go_quiet (fail)
  go_wp2_with fail
  go_ret
  exact⟨by rw [HFIN.out];rfl,HZO.out.drewN _⟩
 |false=>
  rw [hβ,Bool.not_false] at nq
  have hi0: -9223372036854775808≤c∧c≤9223372036854775807:=by omega
  have HF:=Lib.hid hβ
  clear hin hβ hfin
  go_quiet ((go_at_call 164;exact Calls.quiet_of_same (HCP.out _)))
  go_wp2_with fail
  go_ret
  exact⟨by rw [HLES.out];rfl,HZO.out.drewN _⟩
end Go.Proofs.YtgalfohobgjelaaGreatDoor
namespace Go.Proofs.YtgalfohobgjelaaGreatDoor
open Go.RowKit
def above (h b:Hd):Bool:=decide (b.size<h.size)||(decide (h.size=b.size) && lessL h.root b.root)
theorem above_total {a b:Hd} (h:a≠b):above a b=false→above b a=true:=by
 unfold above
 intro hf
 simp only [Bool.or_eq_false_iff,decide_eq_false_iff_not,Bool.and_eq_false_iff] at hf
 obtain⟨h1,h2⟩:=hf
 simp only [Bool.or_eq_true,decide_eq_true_eq,Bool.and_eq_true]
 by_cases hs:a.size=b.size
 ·refine .inr ⟨hs.symm,?_⟩
  have hr:a.root≠b.root:=fun e=>h (by obtain⟨a1,a2⟩:=a;obtain⟨b1,b2⟩:=b;simp only at hs e;rw [hs,e])
  rcases h2 with h2|h2
  ·exact(h2 hs).elim
  ·rw [lessL_total hr,h2];rfl
 ·exact .inl (by omega)
theorem above_trans {a b c:Hd} (h:above a b=true) (h':above b c=true):above a c=true:=by
 unfold above at *
 simp only [Bool.or_eq_true,decide_eq_true_eq,Bool.and_eq_true] at *
 rcases h with h|⟨h,g⟩
 ·rcases h' with h'|⟨h',_⟩
  ·exact .inl (by omega)
  ·exact .inl (by omega)
 ·rcases h' with h'|⟨h',g'⟩
  ·exact .inl (by omega)
  ·exact .inr ⟨by omega,lessL_trans g g'⟩
def BestOn (D:Hd→Prop) (C:Hd→Bool):Option Hd→Prop
 |none=> ∀h,D h→C h=false
 |some b=>D b∧C b=true∧∀h,D h→C h=true→h=b∨above b h=true
theorem BestOn.congr {D D':Hd→Prop} {C:Hd→Bool} {o:Option Hd} (h:BestOn D C o) (e:∀x,D x ↔ D' x):BestOn D' C o:=by
 have:D=D':=funext fun x=>propext (e x)
 rw [←this];exact h
theorem BestOn.wider {D D':Hd→Prop} {C:Hd→Bool} {o:Option Hd} (h:BestOn D C o) (hs:∀x,D x→D' x) (hn:∀x,D' x→¬D x→C x=false):BestOn D' C o:=by
 cases o with
 |none=>
  intro y hy
  by_cases hd:D y
  ·exact h y hd
  ·exact hn y hy hd
 |some b=>
  refine⟨hs b h.1,h.2.1,fun y hy hc=> ?_⟩
  by_cases hd:D y
  ·exact h.2.2 y hd hc
  ·rw [hn y hy hd] at hc;cases hc
theorem BestOn.skip {D:Hd→Prop} {C:Hd→Bool} {o:Option Hd} (h:BestOn D C o) {x:Hd} (hx:C x=false):BestOn (fun y=>D y∨y=x) C o:=by
 cases o with
 |none=>
  rintro y (hy|rfl)
  ·exact h y hy
  ·exact hx
 |some b=>
  refine⟨.inl h.1,h.2.1,?_⟩
  rintro y (hy|rfl) hc
  ·exact h.2.2 y hy hc
  ·rw [hx] at hc;cases hc
theorem BestOn.keep {D:Hd→Prop} {C:Hd→Bool} {b:Hd} (h:BestOn D C (some b)) {x:Hd} (hx:above x b=false):BestOn (fun y=>D y∨y=x) C (some b):=by
 refine⟨.inl h.1,h.2.1,?_⟩
 rintro y (hy|rfl) hc
 ·exact h.2.2 y hy hc
 ·by_cases e:y=b
  ·exact .inl e
  ·exact .inr (above_total e hx)
theorem BestOn.take {D:Hd→Prop} {C:Hd→Bool} {o:Option Hd} (h:BestOn D C o) {x:Hd} (hc:C x=true) (hx:∀b,o=some b→above x b=true):BestOn (fun y=>D y∨y=x) C (some x):=by
 refine⟨.inr rfl,hc,?_⟩
 rintro y (hy|rfl) hcy
 ·cases o with
  |none=>have:=h y hy;rw [hcy] at this;cases this
  |some b=>
   rcases h.2.2 y hy hcy with rfl|e
   ·exact .inr (hx _ rfl)
   ·exact .inr (above_trans (hx _ rfl) e)
 ·exact .inl rfl
def takes (o:Option Hd) (x:Hd):Bool:=match o with|none=>true|some b=>above x b
theorem BestOn.step {D:Hd→Prop} {C:Hd→Bool} {o:Option Hd} (h:BestOn D C o) {x:Hd} (hc:C x=true):BestOn (fun y=>D y∨y=x) C (if takes o x then some x else o):=by
 cases ht:takes o x with
 |true=>
  rw [if_pos rfl]
  exact h.take hc (fun b hb=>by subst hb;exact ht)
 |false=>
  rw [if_neg (by decide)]
  cases o with
  |none=>cases ht
  |some b=>exact h.keep ht
def hdOr (o:Option Hd):Hd:=o.getD hd0
end Go.Proofs.YtgalfohobgjelaaGreatDoor
namespace Go.Proofs.YtgalfohobgjelaaGreatDoor
open Go.RowKit Go.Shelf
attribute [local go_sem ↓ high] hdLoad_eq hdNew_eq hdStore_eq rootLoad_eq
theorem hd0C_eq:hd0C=(hdC hd0).toArray:=by kernel_rfl
theorem hd0_root:hd0.root.length=32:=by kernel_rfl
theorem read_hd {fn:Func} {p u:Tmp} {tmps:Array Value} {w:World} {g:Nat} {h:Hd} {b:Bool} (hf:fn.results= #[.cell p tHd,.tmp u]) (hp:tmps.getD p undef= .pointer (some ⟨g,0,none⟩)) (hu:tmps.getD u undef= .bool b) (hb:HdAt w g h) (hl:h.root.length=32):(results fn tmps).run Tryz.prog w= .ok (.tuple #[.agg (hdC h).toArray,.bool b]) w:=by
 have hl:=run_loadVar_mid (P:=Tryz.prog) w g 0 tHd (hdC h) _ (blk_range hb) Tryz.underlying37 rfl (by rw [hdC_len hl];kernel_rfl)
 rw [results_cell_tmp hf,hp,hu]
 simp only [asAddr]
 show(Result.andThen (Result.ok _ w) _)=_
 simp only [Result.andThen]
 rw [hl]
structure BeS (w:World) (B:Nat) (pv:Value) (W:World):Prop where
 s:Blk W B 50 #[pv,.int .i64 0,.slice none 0 0,.slice none 0 0,.int .i64 0,.int .i64 0]
 r:HdAt W (B+1) hd0
 b:HdAt W (B+1+1) hd0
 only:Only NoneOf w W
structure BeL (w:World) (B:Nat) (P:List Pers) (L:List Vt) (b r n:Nat) (f:Value→Option Value) (left:Value→Bool) (cnt:Nat) (o:Option Hd) (W:World):Prop where
 grp:RangeV W Tryz.prog 37 b r n f left cnt
 r:HdAt W (B+1) hd0
 b:HdAt W (B+1+1) (hdOr o)
 ok:(hdOr o).Ok
 best:BestOn (fun h=>f (hdV h)≠none∧left (hdV h)=false) (fun h=>certB P h L) o
 only:Only NoneOf w W
set_option maxRecDepth 100000 in
set_option maxHeartbeats 4000000 in
theorem qbest_any (P:List Pers) (hP:PersOk P) (hlen:P.length≤1000) (pv:Value) (L:List Vt) (hok:VtsOk L) (hL:L.length≤100000) (sv:Value) (w:World) (hp:PerSl w pv P) (hs:VtSl w sv L) (ht:Tab w):
  Calls Tryz.prog 78 #[setV pv,sv] w fun e w'=> ∃o,BestOn (fun h=>h∈L.map (·.head)) (fun h=>certB P h L) o∧e= .returned (.tuple #[.agg (hdC (hdOr o)).toArray,.bool o.isSome])∧Only NoneOf w w':=by
 have hb:∀W,Only NoneOf w W→Calls Tryz.prog 124 #[.agg #[pv,.int .i64 0,.slice none 0 0,.slice none 0 0,.int .i64 0,.int .i64 0],sv] W fun e w'=> ∃b n,e= .returned (.map (some b))∧n<maxLen∧MapV w' Tryz.prog 37 b n (cntF (votesFor (offs P) L) (L.map (·.head)))∧Only NoneOf W w':=fun W ho=>ballots_any P hP hlen pv L hok hL sv W (hp.only ho) (hs.only ho) (ht.none ho)
 have hq:∀W,Only NoneOf w W→Calls Tryz.prog 87 #[.agg #[pv,.int .i64 0,.slice none 0 0,.slice none 0 0,.int .i64 0,.int .i64 0]] W fun e w'=> ∃A cap,e= .returned (.slice A (offs P).length cap)∧Only NoneOf W w':=fun W ho=>
  (qofficers_any P hP hlen pv W (hp.only ho)).mono (by
   rintro e w' ⟨ov,rfl,⟨A,cap,rfl,_⟩,ho'⟩
   exact⟨A,cap,rfl,ho'⟩)
 have hol:(offs P).length≤1000:=Nat.le_trans (offs_len P) hlen
 have hdom:∀x v,cntF (votesFor (offs P) L) (L.map (·.head)) x=some v→∃h:Hd,x=hdV h∧v= .int .i64 (votesFor (offs P) L h:Int)∧h.Ok∧votesFor (offs P) L h≤1000∧certB P h L=decide (needI ((offs P).length:Int)≤(votesFor (offs P) L h:Int)):=fun x v hx=>by
  obtain⟨h,hm,e1,e2,_⟩:=cntF_some hx
  refine⟨h,e1,e2,?_,Nat.le_trans (votesFor_le _ _ _) hol,?_⟩
  ·obtain⟨u,hu,rfl⟩:=List.mem_map.1 hm
   exact(hok u hu).head
  ·unfold certB
   rw [needI_nat]
   simp
 have hend:∀h,h∈L.map (·.head)→cntF (votesFor (offs P) L) (L.map (·.head)) (hdV h)=none→certB P h L=false:=fun h hm hn=>by
  rw [cntF_hd hm] at hn
  have h0:votesFor (offs P) L h=0:=by
   by_cases h1:0<votesFor (offs P) L h
   ·rw [if_pos h1] at hn;cases hn
   ·omega
  unfold certB need
  rw [h0]
  simp
 have hin:∀h,cntF (votesFor (offs P) L) (L.map (·.head)) (hdV h)≠none→h∈L.map (·.head):=fun h hn=>by
  cases hf:cntF (votesFor (offs P) L) (L.map (·.head)) (hdV h) with
  |none=>exact(hn hf).elim
  |some v=>
   obtain⟨g,hm,e1,_⟩:=cntF_some hf
   rw [hdV_inj e1];exact hm
 obtain⟨f,ef⟩:∃f,f=cntF (votesFor (offs P) L) (L.map (·.head)):=⟨_,rfl⟩
 obtain⟨vf,evf⟩:∃vf,vf=votesFor (offs P) L:=⟨_,rfl⟩
 rw [←ef] at hb hdom hend hin
 rw [←evf] at hdom
 obtain⟨no,eno⟩:∃no,no=(offs P).length:=⟨_,rfl⟩
 rw [←eno] at hq hol hdom
 have hnd:∀W,Calls Tryz.prog 123 #[.int .i64 (no:Int)] W fun e w'=>e= .returned (.int .i64 (needI (no:Int)))∧w'=W:=fun W=>qneed_any (no:Int) ⟨by omega,by omega⟩ W
 obtain⟨ni,eni⟩:∃ni,ni=needI (no:Int):=⟨_,rfl⟩
 rw [←eni] at hnd hdom
 obtain⟨B,eB⟩:∃B,B=w.heap.size:=⟨_,rfl⟩
 obtain⟨X,eX⟩:∃X,X=((w.alloc (.cells #[pv,.int .i64 0,.slice none 0 0,.slice none 0 0,.int .i64 0,.int .i64 0] 50)).alloc (.cells hd0C 37)).alloc (.cells hd0C 37):=⟨_,rfl⟩
 have hS0:BeS w B pv X:=by
  have h2:=Blk.new (w.alloc (.cells #[pv,.int .i64 0,.slice none 0 0,.slice none 0 0,.int .i64 0,.int .i64 0] 50)) tHd hd0C
  have h3:=Blk.new ((w.alloc (.cells #[pv,.int .i64 0,.slice none 0 0,.slice none 0 0,.int .i64 0,.int .i64 0] 50)).alloc (.cells hd0C 37)) tHd hd0C
  rw [World.size_alloc,←eB] at h2
  rw [World.size_alloc,World.size_alloc,←eB] at h3
  rw [hd0C_eq] at h2 h3
  rw [hd0C_eq] at eX
  refine⟨by rw [eX,eB];exact((Blk.new w _ _).alloc _).alloc _,by rw [eX];exact h2.alloc _,by rw [eX];exact h3,by rw [eX];exact(((Only.refl _ _).alloc _).alloc _).alloc _⟩
 have HS0:=Lib.hid hS0
 have HBL:=Lib.hid hb
 have HOF:=Lib.hid hq
 have HND:=Lib.hid hnd
 have HDOM:=Lib.hid hdom
 have HEND:=Lib.hid hend
 have HIN:=Lib.hid hin
 have HKEEP:Hid (∀W W',BeS w B pv W→Only NoneOf W W'→BeS w B pv W'):=Lib.hid (fun W W' hW ho=> ⟨hW.s.only ho (fun e=>e),Blk.only hW.r ho (fun e=>e),Blk.only hW.b ho (fun e=>e),hW.only.trans ho⟩)
 have EX:=Lib.hid eX
 have EB:=Lib.hid eB
 clear hS0 hb hq hnd hdom hend hin eX eB eni eno ef evf hp hs ht hok hP hlen hL
 unfold setV
 have hnw:=hdNew_run
 go_enter Tryz.func78,Tryz.ntmps78
 go_upto_region 3 with(fail)
 rw [←EB.out,←EX.out]
 have hwB:w.heap.size≤B:=Nat.le_of_eq EB.out.symm
 clear hnw EX EB
 have s0:=HS0.out.s
 have c0:X.cell? ⟨B,0,none⟩=some pv:=s0.cell 0
 have c1:X.cell? ⟨B,1,none⟩=some (.int .i64 0):=s0.cell 1
 have c2:X.cell? ⟨B,2,none⟩=some (.slice none 0 0):=s0.cell 2
 have c3:X.cell? ⟨B,3,none⟩=some (.slice none 0 0):=s0.cell 3
 have c4:X.cell? ⟨B,4,none⟩=some (.int .i64 0):=s0.cell 4
 have c5:X.cell? ⟨B,5,none⟩=some (.int .i64 0):=s0.cell 5
 clear s0
 go_wp2_with fail
 refine(HOF.out _ HS0.out.only).mono ?_
 rintro e1 w1 ⟨A1,cap1,rfl,ho1⟩
 have HS1:=Lib.hid (HKEEP.out _ _ HS0.out ho1)
 clear ho1 c0 c1 c2 c3 c4 c5 HS0
 go_wp2_with fail
 refine(HND.out _).mono ?_
 rintro e2 w2 ⟨rfl,rfl⟩
 have s0:=HS1.out.s
 have c0:w2.cell? ⟨B,0,none⟩=some pv:=s0.cell 0
 have c1:w2.cell? ⟨B,1,none⟩=some (.int .i64 0):=s0.cell 1
 have c2:w2.cell? ⟨B,2,none⟩=some (.slice none 0 0):=s0.cell 2
 have c3:w2.cell? ⟨B,3,none⟩=some (.slice none 0 0):=s0.cell 3
 have c4:w2.cell? ⟨B,4,none⟩=some (.int .i64 0):=s0.cell 4
 have c5:w2.cell? ⟨B,5,none⟩=some (.int .i64 0):=s0.cell 5
 clear s0
 go_wp2_with fail
 refine(HBL.out _ HS1.out.only).mono ?_
 rintro e3 w3 ⟨b,n,rfl,hn,hm,ho3⟩
 have HS3:=Lib.hid (HKEEP.out _ _ HS1.out ho3)
 have HM:=Lib.hid hm
 clear ho3 c0 c1 c2 c3 c4 c5 HS1 hm
 go_wp2_with (at_range;refine wpList_rangeV _ rfl _ 176 rfl 37 3 hd_law Tryz.underlying176 b n f rfl HM.out ?_;intro w4 cnt0 hrg0 hO4 hsz4)
 obtain⟨r,er⟩:∃r,r=w3.heap.size:=⟨_,rfl⟩
 rw [←er] at hrg0⊢
 have hs4:=HKEEP.out _ _ HS3.out hO4
 have hwr:w.heap.size≤r:=by rw [er];exact HS3.out.only.size
 have HMNE:Hid (B+1+1≠b):=Lib.hid (cell_map_ne HM.out (show w3.cell? ⟨B+1+1,0,none⟩=some (.int .i64 hd0.size) from HS3.out.b.cell 0))
 have hB1:B+1<r∧B+1+1<r:=by rw [er];exact⟨HS3.out.r.lt,HS3.out.b.lt⟩
 have hbn:BestOn (fun h=>f (hdV h)≠none∧(fun x=> (f x).isSome) (hdV h)=false) (fun h=>certB P h L) none:=by
  rintro h ⟨h1,h2⟩
  cases hf:f (hdV h) with
  |none=>exact(h1 hf).elim
  |some v=>simp [hf] at h2
 have h0:BeL w B P L b r n f (fun x=> (f x).isSome) cnt0 none w4:=⟨hrg0,hs4.r,hs4.b,⟨⟨by decide,by decide⟩,rfl⟩,hbn,hs4.only⟩
 have H0:=Lib.hid h0
 clear h0 hbn hrg0 hO4 hsz4 hs4 er HS3 HM
 go_frame
 go_loopw [7] (fun fv wr=> ∃left cnt o,fv= .bool o.isSome∧BeL w B P L b r n f left cnt o wr) (fun _ wr=>wr.rangeLeft b r)
 case atStart=>exact⟨_,_,none,rfl,H0.out⟩
 case round=>
  obtain⟨left,cnt,o,rfl,hS⟩:=hrel
  have HS:=Lib.hid hS
  clear hS
  go_wp2_with (at_next;refine wpList_nextV _ rfl _ rfl 37 hd_law b r n f left cnt rfl HS.out.grp ?_ ?_)
  ·intro hc0 hl0
   have hfin:BestOn (fun h=>h∈L.map (·.head)) (fun h=>certB P h L) o:=HS.out.best.wider (fun x hx=>HIN.out x hx.1) (fun x hx hn=>HEND.out x hx (by
    apply Classical.byContradiction
    intro h1
    exact hn ⟨h1,hl0 _ h1⟩))
   have hld:=hd_load (blk_range HS.out.b) HS.out.ok.root
   have hst:=hd_store HS.out.r (by kernel_rfl) HS.out.ok.root
   have hb8:HdAt (wr.setCells (B+1) 0 (hdC (hdOr o))) (B+1) (hdOr o):=filled_whole HS.out.r (by rw [hdC_len HS.out.ok.root];rfl)
   have ho8:Only NoneOf w (wr.setCells (B+1) 0 (hdC (hdOr o))):=only_setCells HS.out.only (B+1) 0 (.inr (by omega)) _
   have HFIN:=Lib.hid hfin
   have HB8:=Lib.hid hb8
   have HO8:=Lib.hid ho8
   have HOK:=Lib.hid HS.out.ok.root
   clear hfin hb8 ho8 hl0 hc0
   go_wp2_with fail
   refine bodyPost_ret (v:= .tuple #[.agg (hdC (hdOr o)).toArray,.bool o.isSome]) (read_hd rfl rfl rfl HB8.out HOK.out) rfl ⟨o,HFIN.out,rfl,HO8.out⟩
  ·intro key v w5 cnt' hfk hlk hrg hlt hgr5 hsz5 hen
   obtain⟨h,rfl,rfl,ok,hle,hcb⟩:=HDOM.out key v hfk
   have hl:=ok.root
   have hS5:Only (fun j=>j=r) wr w5:=(Only.refl (fun j=>j=r) wr).grown hgr5 (fun j e=>by cases e;exact .inl rfl)
   obtain⟨N,eN⟩:∃N,N=w5.heap.size:=⟨_,rfl⟩
   have hb0:Blk (w5.alloc (.cells hd0C 37)) N tHd hd0C:=by rw [eN];exact Blk.new w5 _ _
   have hst:=hd_store hb0 rfl hl
   rw [eN] at hst
   have hnw:=hdNew_run
   have hb1:HdAt ((w5.alloc (.cells hd0C 37)).setCells N 0 (hdC h)) N h:=filled_whole hb0 (by rw [hdC_len hl];rfl)
   have hO7:Only NoneOf w5 ((w5.alloc (.cells hd0C 37)).setCells N 0 (hdC h)):=only_setCells ((Only.refl _ _).alloc _) N 0 (.inr (by omega)) _
   have zg:=hrg.only hO7 (fun e=>e) (fun e=>e)
   have zr:HdAt ((w5.alloc (.cells hd0C 37)).setCells N 0 (hdC h)) (B+1) hd0:=(Blk.only HS.out.r hS5 (fun e=>by have:=hB1.1;omega)).only hO7 (fun e=>e)
   have zb:HdAt ((w5.alloc (.cells hd0C 37)).setCells N 0 (hdC h)) (B+1+1) (hdOr o):=(Blk.only HS.out.b hS5 (fun e=>by have:=hB1.2;omega)).only hO7 (fun e=>e)
   have zo:Only NoneOf w ((w5.alloc (.cells hd0C 37)).setCells N 0 (hdC h)):=(HS.out.only.grown hgr5 (fun j e=>by cases e;exact .inr hwr)).trans hO7
   have hND:N≠B+1∧N≠B+1+1:=by have h1:=HS.out.b.lt;have h2:=hS5.size;omega
   have hNr:r≠N:=by have h1:=hrg.lt;omega
   have hbS:=HS.out.best
   have ZG:=Lib.hid zg
   have ZR:=Lib.hid zr
   have ZB:=Lib.hid zb
   have ZO:=Lib.hid zo
   have Z1:=Lib.hid hb1
   have EN:=Lib.hid eN
   have HBS:=Lib.hid hbS
   have HOK:=Lib.hid ok
   have HOO:=Lib.hid HS.out.ok
   have HCB:=Lib.hid hcb
   have HD:Hid (∀y,(f (hdV y)≠none∧left (hdV y)=false∨y=h) ↔ (f (hdV y)≠none∧(left (hdV y) && !eqv (hdV y) (hdV h))=false)):=Lib.hid (fun y=>by
    by_cases e:y=h
    ·subst e
     simp [hfk,eqv_self]
    ·have hne:eqv (hdV y) (hdV h)=false:=by
      cases hq:eqv (hdV y) (hdV h) with
      |false=>rfl
      |true=>exact(e (hdV_inj (eqv_true.1 hq))).elim
     simp [hne,e])
   have HMEAS:=Lib.hid (show wr.rangeLeft b r=cnt from HS.out.grp.left_eq)
   clear zg zr zb zo hb0 hb1 hO7 hS5 hgr5 hsz5 hrg hfk hlk ok hcb hbS eN
   unfold hdV at hen
   obtain⟨wo,rfl⟩:∃wo:World,wo=wr:=⟨_,rfl⟩
   go_upto_region 7 with(fail)
   rw [←EN.out]
   refine wp_gen (fun Z=>RangeV Z Tryz.prog 37 b r n f (fun x=>left x && !eqv x (hdV h)) cnt'∧HdAt Z (B+1) hd0∧HdAt Z (B+1+1) (hdOr o)∧HdAt Z N h∧Only NoneOf w Z) ⟨ZG.out,ZR.out,ZB.out,Z1.out,ZO.out⟩ ?_
   rintro Z ⟨zg,zr,zb,zn,zo⟩
   clear hen hst hnw ZG ZR ZB ZO Z1 HS
   by_cases hlow:(vf h:Int) <ni
   ·have hC:certB P h L=false:=by rw [HCB.out];exact decide_eq_false (by omega)
    have hnew:BeL w B P L b r n f (fun x=>left x && !eqv x (hdV h)) cnt' o Z:=⟨zg,zr,zb,HOO.out,(HBS.out.skip hC).congr HD.out,zo⟩
    have HNEW:=Lib.hid hnew
    clear hnew zg zr zb zn zo hC
    go_wp2_with fail
    go_roundw
    case rel=>exact⟨_,_,o,rfl,HNEW.out⟩
    case measure=>rw [HNEW.out.grp.left_eq,HMEAS.out];omega
   ·have hC:certB P h L=true:=by rw [HCB.out];exact decide_eq_true (by omega)
    have hstep:=(HBS.out.step (x:=h) hC).congr HD.out
    have hlow2:decide ((vf h:Int) <ni)=false:=decide_eq_false hlow
    have hput:∀W,Only NoneOf Z W→takes o h=true→BeL w B P L b r n f (fun x=>left x && !eqv x (hdV h)) cnt' (some h) (W.setCells (B+1+1) 0 (hdC h)):=fun W hZW ht=>by
     rw [ht,if_pos rfl] at hstep
     have hso:Only (fun j=>j=B+1+1) Z (W.setCells (B+1+1) 0 (hdC h)):=only_setCells (S:=fun j=>j=B+1+1) (hZW.mono (fun _ _ e=>e.elim)) (B+1+1) 0 (.inl rfl) _
     exact⟨zg.only hso (fun e=>by have:=HMNE.out;omega) (fun e=>by omega),Blk.only zr hso (fun e=>by omega),filled_whole (Blk.only zb hZW (fun e=>e)) (by rw [List.size_toArray,hdC_len HOO.out.root,hdC_len hl]),HOK.out,hstep,only_setCells (zo.trans hZW) (B+1+1) 0 (.inr (by omega)) _⟩
    have hkeep:∀W,Only NoneOf Z W→takes o h=false→BeL w B P L b r n f (fun x=>left x && !eqv x (hdV h)) cnt' o W:=fun W hZW ht=>by
     rw [ht,if_neg (by decide)] at hstep
     exact⟨zg.only hZW (fun e=>e) (fun e=>e),Blk.only zr hZW (fun e=>e),Blk.only zb hZW (fun e=>e),HOO.out,hstep,zo.trans hZW⟩
    have hld:∀W,Only NoneOf Z W→(hdLoad (.pointer (some ⟨N,0,none⟩))).run Tryz.prog W= .ok (.agg (hdC h).toArray) W:=fun W hZW=>hd_load (blk_range (Blk.only zn hZW (fun e=>e))) hl
    have hst:∀W,Only NoneOf Z W→(hdStore (.pointer (some ⟨B+1+1,0,none⟩)) (.agg (hdC h).toArray)).run Tryz.prog W= .ok () (W.setCells (B+1+1) 0 (hdC h)):=fun W hZW=>hd_store (Blk.only zb hZW (fun e=>e)) (by rw [List.size_toArray,hdC_len HOO.out.root]) hl
    have n0:Z.cell? ⟨N,0,none⟩=some (.int .i64 h.size):=zn.cell 0
    have b0:Z.cell? ⟨B+1+1,0,none⟩=some (.int .i64 (hdOr o).size):=zb.cell 0
    have rn:=root_load (range_root (blk_range zn)) hl
    have rb:=root_load (range_root (blk_range zb)) HOO.out.root
    rw [Nat.zero_add] at rn rb
    have hles:=less_any h.root (hdOr o).root hl HOO.out.root Z
    have HPUT:=Lib.hid hput
    have HKP:=Lib.hid hkeep
    have HLES:=Lib.hid hles
    have HLD:=Lib.hid hld
    have HST:=Lib.hid hst
    clear hput hkeep hles hld hst zg zr zb zn zo hstep hC hlow
    cases o with
    |none=>
     have hld:=HLD.out Z (Only.refl _ _)
     have hst:=HST.out Z (Only.refl _ _)
     have HNEW:=Lib.hid (HPUT.out Z (Only.refl _ _) rfl)
     go_wp2_with fail
     go_roundw
     case rel=>exact⟨_,_,some h,rfl,HNEW.out⟩
     case measure=>rw [HNEW.out.grp.left_eq,HMEAS.out];omega
    |some c=>
     have b1:Z.cell? ⟨B+1+1,0,none⟩=some (.int .i64 c.size):=b0
     have rb1:(rootLoad (.pointer (some ⟨B+1+1,1,none⟩))).run Tryz.prog Z= .ok (hv c.root) Z:=rb
     have hles:Calls Tryz.prog 125 #[hv h.root,hv c.root] Z fun e w'=>e= .returned (.bool (lessL h.root c.root))∧Only NoneOf Z w':=HLES.out
     clear b0 rb HLES
     rcases Int.lt_trichotomy c.size h.size with hlt2|heq|hgt
     ·have hld:=HLD.out Z (Only.refl _ _)
      have hst:=HST.out Z (Only.refl _ _)
      have HNEW:=Lib.hid (HPUT.out Z (Only.refl _ _) (by unfold takes above;simp [hlt2]))
      have d1:decide (c.size<h.size)=true:=decide_eq_true hlt2
      clear hles
      go_wp2_with fail
      go_roundw
      case rel=>exact⟨_,_,some h,rfl,HNEW.out⟩
      case measure=>rw [HNEW.out.grp.left_eq,HMEAS.out];omega
     ·have d1:decide (c.size<h.size)=false:=decide_eq_false (by omega)
      have d2:(h.size==c.size)=true:=by simp [heq]
      have htk:takes (some c) h=lessL h.root c.root:=by unfold takes above;simp [heq]
      obtain⟨β,hβ⟩:∃β,β=lessL h.root c.root:=⟨_,rfl⟩
      rw [←hβ] at hles htk
      have HTK:=Lib.hid htk
      have HLES:=Lib.hid hles
      clear heq hβ htk hles
      go_wp2_with fail
      refine HLES.out.mono ?_
      rintro e6 w6 ⟨rfl,ho6⟩
      cases β with
      |true=>
       have hld:=HLD.out w6 ho6
       have hst:=HST.out w6 ho6
       have HNEW:=Lib.hid (HPUT.out w6 ho6 HTK.out)
       clear ho6
       go_wp2_with fail
       go_roundw
       case rel=>exact⟨_,_,some h,rfl,HNEW.out⟩
       case measure=>rw [HNEW.out.grp.left_eq,HMEAS.out];omega
      |false=>
       have HNEW:=Lib.hid (HKP.out w6 ho6 HTK.out)
       clear ho6
       go_wp2_with fail
       go_roundw
       case rel=>exact⟨_,_,some c,rfl,HNEW.out⟩
       case measure=>rw [HNEW.out.grp.left_eq,HMEAS.out];omega
     ·have d1:decide (c.size<h.size)=false:=decide_eq_false (by omega)
      have d2:(h.size==c.size)=false:=by simp;omega
      have HNEW:=Lib.hid (HKP.out Z (Only.refl _ _) (by show(decide (c.size<h.size)||decide (h.size=c.size) && lessL h.root c.root)=false;rw [d1,decide_eq_false (show¬h.size=c.size by omega)];rfl))
      clear hles
      go_wp2_with fail
      go_roundw
      case rel=>exact⟨_,_,some c,rfl,HNEW.out⟩
      case measure=>rw [HNEW.out.grp.left_eq,HMEAS.out];omega
end Go.Proofs.YtgalfohobgjelaaGreatDoor
namespace Go.Proofs.YtgalfohobgjelaaGreatDoor
open Go.RowKit Go.Shelf
open Go.Maps (Keyed)
abbrev tCli:TypeId:=100
structure Cli where
 C:Nat
 id:Int
 pv:Value
 P:List Pers
 sent:Bool
 text:ByteArray
 head:Hd
 vv:Value
 votes:List Vt
 mv:Value
 seen:List Vt
 rc:Bool
def cliA (c:Cli):List Value:= [.int .i64 c.id,c.pv,.int .i64 0,.slice none 0 0,.slice none 0 0,.int .i64 0,.int .i64 0,.bool c.sent,.string c.text]
def cliC (c:Cli):List Value:=cliA c++ (hdC c.head++ [c.vv,c.mv,.bool c.rc])
theorem cliC_len {c:Cli} (hl:c.head.root.length=32):(cliC c).length=45:=by simp [cliC,cliA,hdC_len hl]
def mapBlk:Value→Option Nat
 | .map (some b)=>some b
 |_=>none
def SeenAt (w:World) (base:Nat) (mv:Value) (M:List Vt):Prop:=(mv= .map none∧M= [])∨∃b,mv= .map (some b)∧base≤b∧MapV w Tryz.prog tVt b M.length (seenV M)
structure CliAt (w:World) (base:Nat) (c:Cli):Prop where
 blk:Blk w c.C tCli (cliC c).toArray
 lo:base≤c.C
 hok:c.head.Ok
 pers:PerOwn w base c.pv c.P.length c.P
 votes:VtOwn w base c.vv c.votes.length c.votes
 ok:VtsOk c.votes
 seen:SeenAt w base c.mv c.seen
 sok:VtsOk c.seen
def Cli.foot (c:Cli) (k:Nat):Prop:=k=c.C∨c.pv.ownBlock=some k∨c.vv.ownBlock=some k∨mapBlk c.mv=some k
theorem SeenAt.only {S:Nat→Prop} {w w':World} {base:Nat} {mv:Value} {M:List Vt} (h:SeenAt w base mv M) (ho:Only S w w') (hS:∀k,mapBlk mv=some k→¬S k):SeenAt w' base mv M:=by
 rcases h with h|⟨b,rfl,hb,hm⟩
 ·exact .inl h
 ·exact .inr ⟨b,rfl,hb,hm.only ho (hS b rfl)⟩
theorem CliAt.keep {S:Nat→Prop} {w w':World} {base:Nat} {c:Cli} (h:CliAt w base c) (ho:Only S w w') (hS:∀k,c.foot k→¬S k):CliAt w' base c:=
 ⟨h.blk.only ho (hS _ (.inl rfl)),h.lo,h.hok,own_only h.pers ho (fun k hk=>hS k (.inr (.inl hk))),own_only h.votes ho (fun k hk=>hS k (.inr (.inr (.inl hk)))),h.ok,h.seen.only ho (fun k hk=>hS k (.inr (.inr (.inr hk)))),h.sok⟩
theorem CliAt.nn {w w':World} {base:Nat} {c:Cli} (h:CliAt w base c) (ho:Only NoneOf w w'):CliAt w' base c:=h.keep ho (fun _ _ e=>e)
theorem SeenAt.blk {w:World} {base:Nat} {mv:Value} {M:List Vt} (h:SeenAt w base mv M) {k:Nat} (hk:mapBlk mv=some k):base≤k∧k<w.heap.size∧MapV w Tryz.prog tVt k M.length (seenV M):=by
 rcases h with⟨rfl,_⟩|⟨b,rfl,hb,hm⟩
 ·simp [mapBlk] at hk
 ·have:b=k:=by simpa [mapBlk] using hk
  subst this
  exact⟨hb,hm.lt,hm⟩
theorem CliAt.foot_in {w:World} {base:Nat} {c:Cli} (h:CliAt w base c) {k:Nat} (hk:c.foot k):base≤k∧k<w.heap.size:=by
 rcases hk with rfl|hk|hk|hk
 ·exact⟨h.lo,Blk.lt h.blk⟩
 ·exact own_ge h.pers hk
 ·exact own_ge h.votes hk
 ·exact⟨(h.seen.blk hk).1,(h.seen.blk hk).2.1⟩
theorem CliAt.ne_pv {w:World} {base:Nat} {c:Cli} (h:CliAt w base c):c.pv.ownBlock≠some c.C:=own_blk_ne h.pers h.blk (by decide)
theorem CliAt.ne_vv {w:World} {base:Nat} {c:Cli} (h:CliAt w base c):c.vv.ownBlock≠some c.C:=own_blk_ne h.votes h.blk (by decide)
theorem map_blk_ne {w:World} {g b n:Nat} {t k:TypeId} {cs:Array Value} {f:Value→Option Value} {P:Program} (h:Blk w g t cs) (hm:MapV w P k b n f):g≠b:=by
 rintro rfl
 obtain⟨D,⟨es,clock,hb,_⟩,_⟩:=hm
 unfold Blk at h
 rw [h] at hb
 cases hb
theorem CliAt.ne_mv {w:World} {base:Nat} {c:Cli} (h:CliAt w base c):mapBlk c.mv≠some c.C:=fun e=>map_blk_ne h.blk (h.seen.blk e).2.2 rfl
theorem CliAt.pv_vv {w:World} {base:Nat} {c:Cli} (h:CliAt w base c) {k:Nat} (hk:c.pv.ownBlock=some k):c.vv.ownBlock≠some k:=own_own_ne h.pers h.votes (by decide) hk
theorem CliAt.pv_mv {w:World} {base:Nat} {c:Cli} (h:CliAt w base c) {k:Nat} (hk:c.pv.ownBlock=some k):mapBlk c.mv≠some k:=fun e=>own_map_ne h.pers (h.seen.blk e).2.2 hk
theorem CliAt.vv_mv {w:World} {base:Nat} {c:Cli} (h:CliAt w base c) {k:Nat} (hk:c.vv.ownBlock=some k):mapBlk c.mv≠some k:=fun e=>own_map_ne h.votes (h.seen.blk e).2.2 hk
theorem CliAt.off {w:World} {base g:Nat} {t:TypeId} {cs:Array Value} {c:Cli} (h:CliAt w base c) (hb:Blk w g t cs) (h1:tCli≠t) (h2:67≠t) (h3:43≠t):¬c.foot g:=fun hk=>by
 rcases hk with hk|hk|hk|hk
 ·exact Blk.ne_ h.blk hb h1 hk.symm
 ·exact own_blk_ne h.pers hb h2 hk
 ·exact own_blk_ne h.votes hb h3 hk
 ·exact map_blk_ne hb (h.seen.blk hk).2.2 rfl
section
variable {w:World} {c:Cli}
theorem cli_at {g:Nat} (h:Blk w g tCli (cliC c).toArray) {k:Nat} {v:Value} (hk:(cliC c)[k]? =some v):w.cell? ⟨g,k,none⟩=some v:=by
 rw [Blk.cell h];simpa using hk
theorem cliC_tail (hl:c.head.root.length=32) (j:Nat):(cliC c)[42+j]? = [c.vv,c.mv,.bool c.rc][j]? :=by
 unfold cliC
 rw [List.getElem?_append_right (by show 9≤_;omega),show(cliA c).length=9 from rfl,List.getElem?_append_right (by rw [hdC_len hl];omega),hdC_len hl]
 congr 1;omega
theorem cliC_head (j:Nat) (hj:j<9):(cliC c)[j]? =(cliA c)[j]? :=by
 unfold cliC
 rw [List.getElem?_append_left (by show j<9;omega)]
theorem cli_id {g:Nat} (h:Blk w g tCli (cliC c).toArray):w.cell? ⟨g,0,none⟩=some (.int .i64 c.id):=cli_at h (cliC_head 0 (by omega))
theorem cli_sent {g:Nat} (h:Blk w g tCli (cliC c).toArray):w.cell? ⟨g,7,none⟩=some (.bool c.sent):=cli_at h (cliC_head 7 (by omega))
theorem cli_text {g:Nat} (h:Blk w g tCli (cliC c).toArray):w.cell? ⟨g,8,none⟩=some (.string c.text):=cli_at h (cliC_head 8 (by omega))
theorem cli_setup {g:Nat} (h:Blk w g tCli (cliC c).toArray):w.rangeAt g 1 [c.pv,.int .i64 0,.slice none 0 0,.slice none 0 0,.int .i64 0,.int .i64 0]:=fun j v hj=>by
 have hj2:=(List.getElem?_eq_some_iff.1 hj).1
 simp only [List.length_cons,List.length_nil] at hj2
 refine cli_at h ((cliC_head (1+j) (by omega)).trans ?_)
 match j,hj2 with
 |0,_|1,_|2,_|3,_|4,_|5,_=>exact hj
theorem cli_size {g:Nat} (h:Blk w g tCli (cliC c).toArray):w.cell? ⟨g,9,none⟩=some (.int .i64 c.head.size):=by
 refine cli_at h ?_
 unfold cliC
 rw [List.getElem?_append_right (by show 9≤9;omega)]
 rfl
theorem cli_hd {g:Nat} (h:Blk w g tCli (cliC c).toArray):w.rangeAt g 9 (hdC c.head):=fun j v hj=>by
 have hj2:=(List.getElem?_eq_some_iff.1 hj).1
 refine cli_at h ?_
 unfold cliC
 rw [List.getElem?_append_right (by show 9≤9+j;omega),show(cliA c).length=9 from rfl,Nat.add_sub_cancel_left,List.getElem?_append_left hj2]
 exact hj
theorem cli_votes {g:Nat} (h:Blk w g tCli (cliC c).toArray) (hl:c.head.root.length=32):w.cell? ⟨g,42,none⟩=some c.vv:=cli_at h (cliC_tail hl 0)
theorem cli_seen {g:Nat} (h:Blk w g tCli (cliC c).toArray) (hl:c.head.root.length=32):w.cell? ⟨g,43,none⟩=some c.mv:=cli_at h (cliC_tail hl 1)
theorem cli_rc {g:Nat} (h:Blk w g tCli (cliC c).toArray) (hl:c.head.root.length=32):w.cell? ⟨g,44,none⟩=some (.bool c.rc):=cli_at h (cliC_tail hl 2)
theorem set_tail (hl:c.head.root.length=32) (j:Nat) (hj:j<3) (v:Value):(cliC c).set (42+j) v=cliA c++ (hdC c.head++ ([c.vv,c.mv,.bool c.rc].set j v)):=by
 unfold cliC
 rw [List.set_append_right _ _ (by show 9≤_;omega),show(cliA c).length=9 from rfl,List.set_append_right _ _ (by rw [hdC_len hl];omega),hdC_len hl]
 congr 3;omega
theorem set_head (j:Nat) (hj:j<9) (v:Value):(cliC c).set j v=(cliA c).set j v++ (hdC c.head++ [c.vv,c.mv,.bool c.rc]):=by
 unfold cliC
 rw [List.set_append_left _ _ (by show j<9;omega)]
theorem blk_put {g k:Nat} {cs ds:List Value} {v:Value} (h:Blk w g tCli cs.toArray) (e:cs.set k v=ds):Blk (w.setCell ⟨g,k,none⟩ v) g tCli ds.toArray:=by
 have h1:=Blk.set_ h k v
 rw [show(cs.toArray).setIfInBounds k v=ds.toArray by rw [List.setIfInBounds_toArray,e]] at h1
 exact h1
theorem cli_put_seen {g:Nat} (h:Blk w g tCli (cliC c).toArray) (hl:c.head.root.length=32) (v:Value) (M:List Vt):Blk (w.setCell ⟨g,43,none⟩ v) g tCli (cliC { c with mv:=v,seen:=M}).toArray:=blk_put h (set_tail hl 1 (by omega) v)
theorem cli_put_votes {g:Nat} (h:Blk w g tCli (cliC c).toArray) (hl:c.head.root.length=32) (v:Value) (M:List Vt):Blk (w.setCell ⟨g,42,none⟩ v) g tCli (cliC { c with vv:=v,votes:=M}).toArray:=blk_put h (set_tail hl 0 (by omega) v)
theorem cli_put_rc {g:Nat} (h:Blk w g tCli (cliC c).toArray) (hl:c.head.root.length=32) (b:Bool):Blk (w.setCell ⟨g,44,none⟩ (.bool b)) g tCli (cliC { c with rc:=b}).toArray:=blk_put h (set_tail hl 2 (by omega) _)
theorem cli_put_sent {g:Nat} (h:Blk w g tCli (cliC c).toArray) (b:Bool):Blk (w.setCell ⟨g,7,none⟩ (.bool b)) g tCli (cliC { c with sent:=b}).toArray:=blk_put h (set_head 7 (by omega) _)
theorem cli_put_text {g:Nat} (h:Blk w g tCli (cliC c).toArray) (t:ByteArray):Blk (w.setCell ⟨g,8,none⟩ (.string t)) g tCli (cliC { c with text:=t}).toArray:=blk_put h (set_head 8 (by omega) _)
theorem cli_put_head {g:Nat} (h:Blk w g tCli (cliC c).toArray) (hl:c.head.root.length=32) (x:Hd) (hx:x.root.length=32):Blk (w.setCells g 9 (hdC x)) g tCli (cliC { c with head:=x}).toArray:=by
 have h1:=Blk.setCells (hdC x) 9 h
 have e:setMany (cliC c) 9 (hdC x)=cliC { c with head:=x}:=by
  rw [setMany_eq _ _ _ (by rw [cliC_len hl,hdC_len hx];omega),hdC_len hx]
  unfold cliC
  have e1:(cliA c++ (hdC c.head++ [c.vv,c.mv,Value.bool c.rc])).take 9=cliA c:=by rw [List.take_append_of_le_length (by exact Nat.le_refl 9)];rfl
  have e2:(cliA c++ (hdC c.head++ [c.vv,c.mv,Value.bool c.rc])).drop (9+33)= [c.vv,c.mv,Value.bool c.rc]:=by
   rw [←List.drop_drop,show(cliA c++ (hdC c.head++ [c.vv,c.mv,Value.bool c.rc])).drop 9=hdC c.head++ [c.vv,c.mv,Value.bool c.rc] from rfl,List.drop_append,hdC_len hl,List.drop_of_length_le (by rw [hdC_len hl];exact Nat.le_refl _)]
   rfl
  rw [e1,e2,List.append_assoc]
  rfl
 rw [e] at h1
 exact h1
end
def CliStep (w w':World) (c c':Cli):Prop:=Only c.foot w w'∧∀k,c'.foot k→c.foot k∨w.heap.size≤k
theorem CliStep.refl (w:World) (c:Cli):CliStep w w c c:=⟨Only.refl _ _,fun _ h=> .inl h⟩
theorem CliStep.trans {w w' w'':World} {c c' c'':Cli} (h:CliStep w w' c c') (k:CliStep w' w'' c' c''):CliStep w w'' c c'':=
 ⟨h.1.trans' k.1 (fun i hi hf=>by rcases h.2 i hf with h1|h1;exact h1;omega),fun i hi=>by
  rcases k.2 i hi with h1|h1
  ·exact h.2 i h1
  ·exact .inr (Nat.le_trans h.1.size h1)⟩
theorem CliStep.nn {w w':World} {c:Cli} (h:Only NoneOf w w'):CliStep w w' c c:=⟨h.mono (fun _ _ e=>e.elim),fun _ h=> .inl h⟩
theorem CliStep.only {w0 w w':World} {base:Nat} {c c':Cli} (h:CliStep w w' c c') (hc:CliAt w base c) (h0:Only NoneOf w0 w) (hb:w0.heap.size≤base):Only NoneOf w0 w':=
 h0.trans' h.1 (fun i hi hf=>by have:=(hc.foot_in hf).1;omega)
theorem CliStep.put {w W:World} {c c':Cli} (h:CliStep w W c c') {R:Nat} (hR:w.heap.size≤R) (o:Nat) (vs:List Value):CliStep w (W.setCells R o vs) c c':=⟨only_setCells h.1 R o (.inr hR) vs,h.2⟩
end Go.Proofs.YtgalfohobgjelaaGreatDoor
