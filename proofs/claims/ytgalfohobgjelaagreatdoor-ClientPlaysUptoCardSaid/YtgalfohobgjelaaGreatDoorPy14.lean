/- What is proved here: a part of the proof that 'probitylaw31.ClientPlays' answers true. Conditions: each theorem's own. -/
import Derived.Test.YtgalfohobgjelaaGreatDoorPy13
set_option maxRecDepth 100000
set_option maxHeartbeats 8000000
namespace Go.Proofs.YtgalfohobgjelaaGreatDoor
section
open Go.RowKit Go.Shelf
def ordB(x y:UInt8):Int:=if x.toNat<y.toNat then-1 else if y.toNat<x.toNat then 1 else 0
def ordL:List UInt8→List UInt8→Int
 |[],[]=>0
 |[],_::_=> -1
 |_::_,[]=>1
 |x::a,y::b=>if ordB x y=0 then ordL a b else ordB x y
def ΩbI(a b:List UInt8):Bool:=decide (ordL a b<0)
theorem Ωez{x y:UInt8}:ordB x y=0↔x=y:=by
 unfold ordB
 constructor
 ·intro h
  split at h
  ·omega
  ·split at h
   ·omega
   ·exact UInt8.toNat_inj.1 (by omega)
 ·rintro rfl
  simp
theorem ΩlM(x y:UInt8):ordB x y= -1∨ordB x y=0∨ordB x y=1:=by
 unfold ordB
 split
 ·exact .inl rfl
 ·split
  ·exact .inr (.inr rfl)
  ·exact .inr (.inl rfl)
theorem ΩjS:∀a b:List UInt8,ordL a b= -1∨ordL a b=0∨ordL a b=1
 |[],[]=> .inr (.inl rfl)
 |[],_::_=> .inl rfl
 |_::_,[]=> .inr (.inr rfl)
 |x::a,y::b=>by
  unfold ordL
  split
  ·exact ΩjS a b
  ·exact ΩlM x y
theorem Ωi7:∀a:List UInt8,ordL a a=0
 |[]=>rfl
 |x::a=>by
  unfold ordL
  rw[ΩnV (Ωez.2 rfl)]
  exact Ωi7 a
theorem Ωi6:∀a b:List UInt8,ordL a b=0→a=b
 |[],[],_=>rfl
 |[],_::_,h=>absurd h (by unfold ordL;omega)
 |_::_,[],h=>absurd h (by unfold ordL;omega)
 |x::a,y::b,h=>by
  unfold ordL at h
  split at h
  ·rename_i hz
   rw[Ωez.1 hz,Ωi6 a b h]
  ·rename_i hz
   exact absurd h hz
theorem ordB_neg(x y:UInt8):ordB y x= -ordB x y:=by
 unfold ordB
 split<;>split<;>(try split)<;>omega
theorem ΩkC:∀a b:List UInt8,ordL b a= -ordL a b
 |[],[]=>rfl
 |[],_::_=>rfl
 |_::_,[]=>rfl
 |x::a,y::b=>by
  unfold ordL
  rw[ordB_neg x y,ΩkC a b]
  by_cases h:ordB x y=0
  ·rw[ΩnV h,ΩnV (by omega)]
  ·rw[ΩnU h,ΩnU (by omega)]
theorem lessL_self(a:List UInt8):ΩbI a a=false:=by unfold ΩbI;rw[Ωi7];rfl
theorem lessL_total{a b:List UInt8}(h:a≠b):ΩbI b a= !ΩbI a b:=by
 unfold ΩbI
 rw[ΩkC a b]
 have h0:ordL a b≠0:=fun e=>h (Ωi6 a b e)
 rcases ΩjS a b with e|e|e
 ·rw[e];rfl
 ·exact absurd e h0
 ·rw[e];rfl
theorem ΩhD:∀a b c:List UInt8,ordL a b<0→ordL b c<0→ordL a c<0
 |[],[],_,h,_=>absurd h (by unfold ordL;omega)
 |[],_::_,[],_,h=>absurd h (by unfold ordL;omega)
 |[],_::_,_::_,_,_=>by unfold ordL;omega
 |_::_,[],_,h,_=>absurd h (by unfold ordL;omega)
 |_::_,_::_,[],_,h=>absurd h (by unfold ordL;omega)
 |x::a,y::b,z::c,h,h' =>by
  unfold ordL at h h'⊢
  have tr:=ΩhD a b c
  unfold ordB at h h'⊢
  have:=x.toNat_lt;have:=y.toNat_lt;have:=z.toNat_lt
  repeat' split at h
  all_goals repeat' split at h'
  all_goals repeat' split
  all_goals first|omega|(exact tr h h')
theorem lessL_trans{a b c:List UInt8}(h:ΩbI a b=true)(h' :ΩbI b c=true):ΩbI a c=true:=by
 unfold ΩbI at *
 exact ΩnG (ΩhD a b c (Ωop h) (Ωop h'))
theorem ΩlO(x:UInt8)(w:World):Calls Tryz.prog 201 #[bv x] w fun e w' =>e= .returned (.bool false)∧w' =w:=by
 unfold bv
 have hx:=x.toNat_lt
 go_enter Tryz.func201,Tryz.ntmps201
 go_wp2_with fail
 go_ret
 exact⟨rfl,rfl⟩
theorem cmp_any(x y:UInt8)(w:World):Calls Tryz.prog 184 #[bv x,bv y] w fun e w' =>e= .returned (.int .i64 (ordB x y))∧w' =w:=by
 have nx:=ΩlO x
 have ny:=ΩlO y
 obtain⟨c,hc⟩:∃c,c=ordB x y:=⟨_,rfl⟩
 rw[←hc]
 unfold ordB at hc
 unfold bv at *
 have hx:=x.toNat_lt
 have hy:=y.toNat_lt
 have NX:=Θ nx
 have NY:=Θ ny
 have HC:=Θ hc
 clear nx ny hc
 go_enter Tryz.func184,Tryz.ntmps184
 go_wp2_with fail
 refine(NX.out _).mono ?_
 rintro e1 w1 ⟨rfl,rfl⟩
 go_wp2_with fail
 refine(NY.out _).mono ?_
 rintro e2 w2 ⟨rfl,rfl⟩
 go_wp2_with fail
 all_goals
  go_ret
  refine⟨ΩB ?_,rfl⟩
  rw[HC.out]
  (repeat' split)<;>first|rfl|omega
theorem compare_any(h l:List UInt8)(hh:h.length=32)(hl:l.length=32)(A B c d:Nat)(w:World)(ha:w.rangeAt A 0 (h.map bv))(hb:w.rangeAt B 0 (l.map bv)):
  Calls Tryz.prog 164 #[.slice (some ⟨A,0,none⟩) 32 c,.slice (some ⟨B,0,none⟩) 32 d] w fun e w' =>e= .returned (.int .i64 (ordL h l))∧w' =w:=by
 have hc:=cmp_any
 have HH:=Θ hh
 have HL:=Θ hl
 have HA:=Θ ha
 have HB:=Θ hb
 have HC:=Θ hc
 clear hh hl ha hb hc
 go_enter Tryz.func164,Tryz.ntmps164
 go_wp2_with fail
 go_loopw [4,5,6,7,8,11] (fun _ _ _ _ _ i wr=>∃k:Nat,i= .int .i64 k∧k≤32∧ordL h l=ordL (h.drop k) (l.drop k)∧wr=w) (fun _ _ _ _ _ i _=>32-(intOf i).toNat)
 case atStart=>exact⟨0,rfl,by omega,rfl,rfl⟩
 case round=>
  obtain⟨k,rfl,hk,hcm,rfl⟩:=hrel
  by_cases hlt:k<32
  ·obtain⟨x,hx⟩:∃x,h[k]? =some x:=⟨_,Ωnu (by have:=HH.out;omega)⟩
   obtain⟨y,hy⟩:∃y,l[k]? =some y:=⟨_,Ωnu (by have:=HL.out;omega)⟩
   have ca:wr.cell? ⟨A,k,none⟩=some (.int .u8 (x.toNat:Int)):=by
    have:=HA.out k (bv x) (by rw[Ωn0,hx];rfl)
    rwa [ΩnR] at this
   have cb:wr.cell? ⟨B,k,none⟩=some (.int .u8 (y.toNat:Int)):=by
    have:=HB.out k (bv y) (by rw[Ωn0,hy];rfl)
    rwa [ΩnR] at this
   have hd1:h.drop k=x::h.drop (k+1):=by
    have hq:k<h.length:=by have:=HH.out;omega
    rw[Ωn7 hq];rw[Ωnu hq] at hx;rw[Option.some.inj hx]
   have hd2:l.drop k=y::l.drop (k+1):=by
    have hq:k<l.length:=by have:=HL.out;omega
    rw[Ωn7 hq];rw[Ωnu hq] at hy;rw[Option.some.inj hy]
   rw[hd1,hd2,ordL] at hcm
   have hct:=HC.out x y wr
   unfold bv at hct
   have hx256:=x.toNat_lt
   have hy256:=y.toNat_lt
   have ik:(k:Int)<32:=by omega
   have ik2:¬(32:Int)≤(k:Int):=by omega
   have ik0:(0:Int)≤(k:Int):=by omega
   obtain⟨c0,hc0⟩:∃c0,c0=ordB x y:=⟨_,rfl⟩
   have hin:=ΩlM x y
   rw[←hc0] at hct hcm hin
   have HCT:=Θ hct
   have HCM:=Θ hcm
   have HIN:=Θ hin
   clear hct hcm hin hd1 hd2 hx hy hc0
   go_wp2_with fail
   refine HCT.out.mono ?_
   rintro e1 w1 ⟨rfl,rfl⟩
   have hin:=HIN.out
   by_cases hz:c0=0
   ·subst hz
    clear hin HIN HCT
    go_wp2_with fail
    go_roundw
    case rel=>exact⟨k+1,by go_num,by omega,by rw[HCM.out];simp,by first|rfl|trivial⟩
    case measure=>simp[intOf];omega
   ·have hb0:decide (c0=0)=false:=Ωny hz
    have hi0: -9223372036854775808≤c0∧c0≤9223372036854775807:=by omega
    clear hin
    go_wp2_with fail
    go_ret
    exact⟨ΩB (by rw[HCM.out,ΩnU hz]),rfl⟩
  ·obtain rfl:k=32:=by omega
   have ik:¬((32:Nat):Int)<32:=by omega
   have h1:h.drop 32=[]:=Ωoi (by rw[HH.out];exact Ωnv _)
   have h2:l.drop 32=[]:=Ωoi (by rw[HL.out];exact Ωnv _)
   rw[h1,h2,ordL] at hcm
   have HCM:=Θ hcm
   clear hcm
   go_wp2_with fail
   go_ret
   exact⟨ΩB (by rw[HCM.out]),rfl⟩
def Ωkr(v:Value):Sem Value:=Instr.loadAt 35 v
theorem rtLoad_eq(v:Value):Instr.loadAt 35 v=Ωkr v:=rfl
theorem ΩlI{W:World}{g o:Nat}{l:List UInt8}(h:W.rangeAt g o (l.map bv))(hl:l.length=32):(Ωkr (.pointer (some ⟨g,o,none⟩))).run Tryz.prog W= .ok (.agg (l.map bv).toArray) W:=
 ΩoG W g o 35 (l.map bv) _ h Tryz.underlying35 rfl (by rw[ΩnN,hl];kernel_rfl)
theorem neq_root(xs ys:List UInt8)(hx:xs.length=32)(hy:ys.length=32)(w:World):(binOp .neq 35 (.agg (xs.map bv).toArray) (.agg (ys.map bv).toArray)).run Tryz.prog w= .ok (.bool (!(xs==ys))) w:=by
 have h:(Op.equalIn 10000 35 (.agg (xs.map bv).toArray) (.agg (ys.map bv).toArray)).run Tryz.prog w= .ok (xs==ys) w:=run_equalIn_bytes w 9998 35 5 32 Tryz.underlying35 Tryz.underlying5 ΩmD xs ys hx hy
 rw[run_neq_struct,h]
 rfl
attribute [local go_sem ↓ high] rtLoad_eq
theorem less_any(h l:List UInt8)(hh:h.length=32)(hl:l.length=32)(w:World):Calls Tryz.prog 125 #[hv h,hv l] w fun e w' =>e= .returned (.bool (ΩbI h l))∧Only Ωa w w' :=by
 unfold hv
 have hb0:Blk (w.alloc (.cells (h.map bv).toArray 35)) w.heap.size 35 (h.map bv).toArray :=Blk.new w _ _
 have ho0:Only Ωa w (w.alloc (.cells (h.map bv).toArray 35)):=(Only.refl _ _).alloc _
 have hb1:Blk ((w.alloc (.cells (h.map bv).toArray 35)).alloc (.cells (l.map bv).toArray 35)) (w.heap.size+1) 35 (l.map bv).toArray :=by
  have h9:Blk ((w.alloc (.cells (h.map bv).toArray 35)).alloc (.cells (l.map bv).toArray 35)) (w.alloc (.cells (h.map bv).toArray 35)).heap.size 35 (l.map bv).toArray :=Blk.new _ _ _
  rwa [show(w.alloc (.cells (h.map bv).toArray 35)).heap.size =w.heap.size+1 from by simp] at h9
 have hb2:Blk ((w.alloc (.cells (h.map bv).toArray 35)).alloc (.cells (l.map bv).toArray 35)) w.heap.size 35 (h.map bv).toArray :=Blk.only hb0 ((Only.refl Ωa _).alloc _) (fun e=>e)
 have ho1:Only Ωa w ((w.alloc (.cells (h.map bv).toArray 35)).alloc (.cells (l.map bv).toArray 35)):=ho0.alloc _
 obtain⟨A,eA⟩:∃A,A=w.heap.size:=⟨_,rfl⟩
 obtain⟨B,eB⟩:∃B,B=w.heap.size+1:=⟨_,rfl⟩
 rw[←eB] at hb1
 rw[←eA] at hb2
 have HB1:=Θ hb1
 have HB2:=Θ hb2
 have HO1:=Θ ho1
 have HH:=Θ hh
 have HL:=Θ hl
 have EA:=Θ eA
 have EB:=Θ eB
 clear hb0 hb1 hb2 ho0 ho1 hh hl eA eB
 go_enter Tryz.func125,Tryz.ntmps125
 go_upto_region 1 with(fail)
 rw[←EB.out,←EA.out]
 refine Ωf (fun Z=>Blk Z A 35 (h.map bv).toArray∧Blk Z B 35 (l.map bv).toArray∧Only Ωa w Z) ⟨HB2.out,HB1.out,HO1.out⟩ ?_
 rintro Z ⟨za,zb,zo⟩
 have la:∀q,(Ωkr (.pointer (some ⟨A,0,none⟩))).run Tryz.prog (Z.drewN q)= .ok (.agg (h.map bv).toArray) (Z.drewN q):=fun q=>ΩlI (Ωd (za.drewN q)) HH.out
 have lb:∀q,(Ωkr (.pointer (some ⟨B,0,none⟩))).run Tryz.prog (Z.drewN q)= .ok (.agg (l.map bv).toArray) (Z.drewN q):=fun q=>ΩlI (Ωd (zb.drewN q)) HL.out
 have hcp:∀q,Calls Tryz.prog 164 #[.slice (some ⟨A,0,none⟩) 32 32,.slice (some ⟨B,0,none⟩) 32 32] (Z.drewN q) fun e w' =>e= .returned (.int .i64 (ordL h l))∧w' =Z.drewN q:=fun q=>compare_any h l HH.out HL.out A B 32 32 _ (Ωd (za.drewN q)) (Ωd (zb.drewN q))
 have nq:∀W,(binOp .neq 35 (.agg (h.map bv).toArray) (.agg (l.map bv).toArray)).run Tryz.prog W= .ok (.bool (!(h==l))) W:=fun W=>neq_root h l HH.out HL.out _
 have hfin:=lessL_self h
 obtain⟨c,hc⟩:∃c,c=ordL h l:=⟨_,rfl⟩
 have hin:=ΩjS h l
 have hles:ΩbI h l=decide (c<0):=by rw[hc];rfl
 rw[←hc] at hcp hin
 have HCP:=Θ hcp
 have HZO:=Θ zo
 have HLES:=Θ hles
 clear hcp zo HB1 HB2 HO1 hles hc
 cases hβ:(h==l) with
 |true=>
  have he:h=l:=eq_of_beq hβ
  rw[hβ,Bool.not_true] at nq
  clear HCP HLES hin hβ
  subst he
  have HFIN:=Θ hfin
  clear hfin
  go_quiet (fail)
  go_wp2_with fail
  go_ret
  exact⟨by rw[HFIN.out];rfl,HZO.out.drewN _⟩
 |false=>
  rw[hβ,Bool.not_false] at nq
  have hi0: -9223372036854775808≤c∧c≤9223372036854775807:=by omega
  have HF:=Θ hβ
  clear hin hβ hfin
  go_quiet ((go_at_call 164;exact Calls.quiet_of_same (HCP.out _)))
  go_wp2_with fail
  go_ret
  exact⟨by rw[HLES.out];rfl,HZO.out.drewN _⟩
theorem rless_any(h l:List UInt8)(hh:h.length=32)(hl:l.length=32)(w:World):Calls Tryz.prog 139 #[hv h,hv l] w fun e w' =>e= .returned (.bool (ΩbI h l))∧Only Ωa w w' :=by
 unfold hv
 have hb0:Blk (w.alloc (.cells (h.map bv).toArray 35)) w.heap.size 35 (h.map bv).toArray :=Blk.new w _ _
 have ho0:Only Ωa w (w.alloc (.cells (h.map bv).toArray 35)):=(Only.refl _ _).alloc _
 have hb1:Blk ((w.alloc (.cells (h.map bv).toArray 35)).alloc (.cells (l.map bv).toArray 35)) (w.heap.size+1) 35 (l.map bv).toArray :=by
  have h9:Blk ((w.alloc (.cells (h.map bv).toArray 35)).alloc (.cells (l.map bv).toArray 35)) (w.alloc (.cells (h.map bv).toArray 35)).heap.size 35 (l.map bv).toArray :=Blk.new _ _ _
  rwa [show(w.alloc (.cells (h.map bv).toArray 35)).heap.size =w.heap.size+1 from by simp] at h9
 have hb2:Blk ((w.alloc (.cells (h.map bv).toArray 35)).alloc (.cells (l.map bv).toArray 35)) w.heap.size 35 (h.map bv).toArray :=Blk.only hb0 ((Only.refl Ωa _).alloc _) (fun e=>e)
 have ho1:Only Ωa w ((w.alloc (.cells (h.map bv).toArray 35)).alloc (.cells (l.map bv).toArray 35)):=ho0.alloc _
 obtain⟨A,eA⟩:∃A,A=w.heap.size:=⟨_,rfl⟩
 obtain⟨B,eB⟩:∃B,B=w.heap.size+1:=⟨_,rfl⟩
 rw[←eB] at hb1
 rw[←eA] at hb2
 have HB1:=Θ hb1
 have HB2:=Θ hb2
 have HO1:=Θ ho1
 have HH:=Θ hh
 have HL:=Θ hl
 have EA:=Θ eA
 have EB:=Θ eB
 clear hb0 hb1 hb2 ho0 ho1 hh hl eA eB
 go_enter Tryz.func139,Tryz.ntmps139
 go_wp2_with fail
 rw[←EB.out,←EA.out]
 refine Ωf (fun Z=>Blk Z A 35 (h.map bv).toArray∧Blk Z B 35 (l.map bv).toArray∧Only Ωa w Z) ⟨HB2.out,HB1.out,HO1.out⟩ ?_
 rintro Z ⟨za,zb,zo⟩
 have HZA:=Θ za
 have HZB:=Θ zb
 have HZO:=Θ zo
 clear za zb zo HB1 HB2 HO1 EA EB
 go_loopw [4,5] (fun _ i wr=>∃k:Nat,i= .int .i64 k∧k≤32∧ordL h l=ordL (h.drop k) (l.drop k)∧Blk wr A 35 (h.map bv).toArray∧Blk wr B 35 (l.map bv).toArray∧Only Ωa w wr) (fun _ i _=>32-(intOf i).toNat)
 case atStart=>exact⟨0,rfl,by omega,rfl,HZA.out,HZB.out,HZO.out⟩
 case round=>
  obtain⟨k,rfl,hk,hcm,ba,bb,ho⟩:=hrel
  by_cases hlt:k<32
  ·obtain⟨x,hx⟩:∃x,h[k]? =some x:=⟨_,Ωnu (by have:=HH.out;omega)⟩
   obtain⟨y,hy⟩:∃y,l[k]? =some y:=⟨_,Ωnu (by have:=HL.out;omega)⟩
   have ca:wr.cell? ⟨A,k,none⟩=some (.int .u8 (x.toNat:Int)):=by rw[ba.cell,ΩnC,Ωn0,hx];rfl
   have cb:wr.cell? ⟨B,k,none⟩=some (.int .u8 (y.toNat:Int)):=by rw[bb.cell,ΩnC,Ωn0,hy];rfl
   have hd1:h.drop k=x::h.drop (k+1):=by
    have hq:k<h.length:=by have:=HH.out;omega
    rw[Ωn7 hq];rw[Ωnu hq] at hx;rw[Option.some.inj hx]
   have hd2:l.drop k=y::l.drop (k+1):=by
    have hq:k<l.length:=by have:=HL.out;omega
    rw[Ωn7 hq];rw[Ωnu hq] at hy;rw[Option.some.inj hy]
   rw[hd1,hd2,ordL] at hcm
   have hx256:=x.toNat_lt
   have hy256:=y.toNat_lt
   have ik:(k:Int)<32:=by omega
   have ik0:(0:Int)≤(k:Int):=by omega
   have BA:=Θ ba
   have BB:=Θ bb
   have HO:=Θ ho
   have HCM:=Θ hcm
   clear ba bb ho hcm hd1 hd2 hx hy
   by_cases hz:x=y
   ·subst hz
    have hcm:ordL h l=ordL (h.drop (k+1)) (l.drop (k+1)):=by rw[HCM.out,ΩnV (Ωez.2 rfl)]
    have HC2:=Θ hcm
    clear hcm
    go_wp2_with fail
    go_region
    go_wp2_with fail
    go_roundw
    case rel=>exact⟨k+1,by go_num,by omega,HC2.out,BA.out.drew,BB.out.drew,HO.out.drew⟩
    case measure=>simp[intOf];omega
   ·have hne:¬(x.toNat:Int)=(y.toNat:Int):=fun e=>hz (UInt8.toNat_inj.1 (by omega))
    have hcm:ΩbI h l=decide (x.toNat<y.toNat):=by
     unfold ΩbI
     rw[HCM.out,ΩnU (fun e=>hz (Ωez.1 e))]
     unfold ordB
     by_cases hq:x.toNat<y.toNat
     ·rw[ΩnV hq,ΩnG (by omega),ΩnG (by omega)]
     ·rw[ΩnU hq,Ωny (by split<;>omega),Ωny (by omega)]
    have HC2:=Θ hcm
    clear hcm hz
    go_wp2_with fail
    go_region
    go_wp2_with fail
    go_region
    go_wp2_with fail
    go_ret
    exact⟨by rw[HC2.out];rfl,HO.out.drew.drew⟩
  ·obtain rfl:k=32:=by omega
   have ik:¬((32:Nat):Int)<32:=by omega
   have h1:h.drop 32=[]:=Ωoi (by rw[HH.out];exact Ωnv _)
   have h2:l.drop 32=[]:=Ωoi (by rw[HL.out];exact Ωnv _)
   rw[h1,h2,ordL] at hcm
   have HCM:=Θ (show ΩbI h l=false by unfold ΩbI;rw[hcm];rfl)
   have HO:=Θ ho
   clear hcm ba bb ho
   go_wp2_with fail
   go_ret
   exact⟨by rw[HCM.out];rfl,HO.out⟩
end
section
open Go.RowKit
def Ωed(h b:Hd):Bool:=decide (b.size<h.size)||(decide (h.size=b.size)&&ΩbI h.root b.root)
theorem above_total{a b:Hd}(h:a≠b):Ωed a b=false→Ωed b a=true:=by
 unfold Ωed
 intro hf
 simp only[Bool.or_eq_false_iff,decide_eq_false_iff_not,Bool.and_eq_false_iff] at hf
 obtain⟨h1,h2⟩:=hf
 simp only[Bool.or_eq_true,decide_eq_true_eq,Ωoa]
 by_cases hs:a.size=b.size
 ·refine .inr ⟨hs.symm,?_⟩
  have hr:a.root≠b.root:=fun e=>h (by obtain⟨a1,a2⟩:=a;obtain⟨b1,b2⟩:=b;simp only at hs e;rw[hs,e])
  rcases h2 with h2|h2
  ·exact(h2 hs).elim
  ·rw[lessL_total hr,h2];rfl
 ·exact .inl (by omega)
theorem above_trans{a b c:Hd}(h:Ωed a b=true)(h' :Ωed b c=true):Ωed a c=true:=by
 unfold Ωed at *
 simp only[Bool.or_eq_true,decide_eq_true_eq,Ωoa] at *
 rcases h with h|⟨h,g⟩
 ·rcases h' with h' |⟨h',_⟩
  ·exact .inl (by omega)
  ·exact .inl (by omega)
 ·rcases h' with h' |⟨h',g'⟩
  ·exact .inl (by omega)
  ·exact .inr ⟨by omega,lessL_trans g g'⟩
def Ωai(D:Hd→Prop)(C:Hd→Bool):Option Hd→Prop
 |none=>∀h,D h→C h=false
 |some b=>D b∧C b=true∧∀h,D h→C h=true→h=b∨Ωed b h=true
theorem Ωai.congr{D D' :Hd→Prop}{C:Hd→Bool}{o:Option Hd}(h:Ωai D C o)(e:∀x,D x↔D' x):Ωai D' C o:=by
 have:D=D' :=funext fun x=>propext (e x)
 rw[←this];exact h
theorem Ωai.wider{D D' :Hd→Prop}{C:Hd→Bool}{o:Option Hd}(h:Ωai D C o)(hs:∀x,D x→D' x)(hn:∀x,D' x→¬D x→C x=false):Ωai D' C o:=by
 cases o with
 |none=>
  intro y hy
  by_cases hd:D y
  ·exact h y hd
  ·exact hn y hy hd
 |some b=>
  refine⟨hs b h.1,h.2.1,fun y hy hc=> ?_⟩
  by_cases hd:D y
  ·exact h.2.2 y hd hc
  ·rw[hn y hy hd] at hc;cases hc
theorem Ωai.skip{D:Hd→Prop}{C:Hd→Bool}{o:Option Hd}(h:Ωai D C o){x:Hd}(hx:C x=false):Ωai (fun y=>D y∨y=x) C o:=by
 cases o with
 |none=>
  rintro y (hy|rfl)
  ·exact h y hy
  ·exact hx
 |some b=>
  refine⟨.inl h.1,h.2.1,?_⟩
  rintro y (hy|rfl) hc
  ·exact h.2.2 y hy hc
  ·rw[hx] at hc;cases hc
theorem Ωai.keep{D:Hd→Prop}{C:Hd→Bool}{b:Hd}(h:Ωai D C (some b)){x:Hd}(hx:Ωed x b=false):Ωai (fun y=>D y∨y=x) C (some b):=by
 refine⟨.inl h.1,h.2.1,?_⟩
 rintro y (hy|rfl) hc
 ·exact h.2.2 y hy hc
 ·by_cases e:y=b
  ·exact .inl e
  ·exact .inr (above_total e hx)
theorem Ωai.take{D:Hd→Prop}{C:Hd→Bool}{o:Option Hd}(h:Ωai D C o){x:Hd}(hc:C x=true)(hx:∀b,o=some b→Ωed x b=true):Ωai (fun y=>D y∨y=x) C (some x):=by
 refine⟨.inr rfl,hc,?_⟩
 rintro y (hy|rfl) hcy
 ·cases o with
  |none=>have:=h y hy;rw[hcy] at this;cases this
  |some b=>
   rcases h.2.2 y hy hcy with rfl|e
   ·exact .inr (hx _ rfl)
   ·exact .inr (above_trans (hx _ rfl) e)
 ·exact .inl rfl
def Ωd0(o:Option Hd)(x:Hd):Bool:=match o with|none=>true|some b=>Ωed x b
theorem Ωai.step{D:Hd→Prop}{C:Hd→Bool}{o:Option Hd}(h:Ωai D C o){x:Hd}(hc:C x=true):Ωai (fun y=>D y∨y=x) C (if Ωd0 o x then some x else o):=by
 cases ht:Ωd0 o x with
 |true=>
  rw[ΩnV rfl]
  exact h.take hc (fun b hb=>by subst hb;exact ht)
 |false=>
  rw[ΩnU (by decide)]
  cases o with
  |none=>cases ht
  |some b=>exact h.keep ht
def hdOr(o:Option Hd):Hd:=o.getD hd0
end
section
open Go.RowKit Go.Shelf
attribute [local go_sem ↓ high] ΩG Ωaq ΩQ Ωd3
theorem Ωim:hd0C=(hdC hd0).toArray :=by kernel_rfl
theorem ΩkK:hd0.root.length=32:=by kernel_rfl
theorem ΩjQ{fn:Func}{p u:Tmp}{tmps:Array Value}{w:World}{g:Nat}{h:Hd}{b:Bool}(hf:fn.results= #[.cell p tHd,.tmp u])(hp:tmps.getD p undef= .pointer (some ⟨g,0,none⟩))(hu:tmps.getD u undef= .bool b)(hb:HdAt w g h)(hl:h.root.length=32):(results fn tmps).run Tryz.prog w= .ok (.tuple #[.agg (hdC h).toArray,.bool b]) w:=by
 have hl:=run_loadVar_mid (P:=Tryz.prog) w g 0 tHd (hdC h) _ (Ωd hb) Tryz.underlying37 rfl (by rw[Ωo hl];kernel_rfl)
 rw[results_cell_tmp hf,hp,hu]
 simp only[asAddr]
 show(Result.andThen (Result.ok _ w) _)=_
 simp only[Result.andThen]
 rw[hl]
structure BeS(w:World)(B:Nat)(pv:Value)(W:World):Prop where
 s:Blk W B 50 #[pv,.int .i64 0,.slice none 0 0,.slice none 0 0,.int .i64 0,.int .i64 0]
 r:HdAt W (B+1) hd0
 b:HdAt W (B+1+1) hd0
 only:Only Ωa w W
structure BeL(w:World)(B:Nat)(P:List Pers)(L:List Vt)(b r n:Nat)(f:Value→Option Value)(left:Value→Bool)(cnt:Nat)(o:Option Hd)(W:World):Prop where
 grp:ΩaE W Tryz.prog 37 b r n f left cnt
 r:HdAt W (B+1) hd0
 b:HdAt W (B+1+1) (hdOr o)
 ok:(hdOr o).Ok
 best:Ωai (fun h=>f (hdV h)≠none∧left (hdV h)=false) (fun h=>Ωba P h L) o
 only:Only Ωa w W
theorem qbest_any(P:List Pers)(hP:ΩS P)(hlen:P.length≤1000)(pv:Value)(L:List Vt)(hok:Ω4 L)(hL:L.length≤100000)(sv:Value)(w:World)(hp:Ωa6 w pv P)(hs:VtSl w sv L)(ht:Tab w):
  Calls Tryz.prog 78 #[setV pv,sv] w fun e w' =>∃o,Ωai (fun h=>h∈L.map (·.head)) (fun h=>Ωba P h L) o∧e= .returned (.tuple #[.agg (hdC (hdOr o)).toArray,.bool o.isSome])∧Only Ωa w w' :=by
 have hb:∀W,Only Ωa w W→Calls Tryz.prog 124 #[.agg #[pv,.int .i64 0,.slice none 0 0,.slice none 0 0,.int .i64 0,.int .i64 0],sv] W fun e w' =>∃b n,e= .returned (.map (some b))∧n<maxLen∧MapV w' Tryz.prog 37 b n (cntF (Ω1 (offs P) L) (L.map (·.head)))∧Only Ωa W w' :=fun W ho=>ballots_any P hP hlen pv L hok hL sv W (hp.only ho) (hs.only ho) (ht.none ho)
 have hq:∀W,Only Ωa w W→Calls Tryz.prog 87 #[.agg #[pv,.int .i64 0,.slice none 0 0,.slice none 0 0,.int .i64 0,.int .i64 0]] W fun e w' =>∃A cap,e= .returned (.slice A (offs P).length cap)∧Only Ωa W w' :=fun W ho=>
  (ΩcN P hP hlen pv W (hp.only ho)).mono (by
   rintro e w' ⟨ov,rfl,⟨A,cap,rfl,_⟩,ho'⟩
   exact⟨A,cap,rfl,ho'⟩)
 have hol:(offs P).length≤1000:=Ωnz (Ωce P) hlen
 have hdom:∀x v,cntF (Ω1 (offs P) L) (L.map (·.head)) x=some v→∃h:Hd,x=hdV h∧v= .int .i64 (Ω1 (offs P) L h:Int)∧h.Ok∧Ω1 (offs P) L h≤1000∧Ωba P h L=decide (ΩfC ((offs P).length :Int)≤(Ω1 (offs P) L h:Int)):=fun x v hx=>by
  obtain⟨h,hm,e1,e2,_⟩:=Ωjx hx
  refine⟨h,e1,e2,?_,Ωnz (votesFor_le _ _ _) hol,?_⟩
  ·obtain⟨u,hu,rfl⟩:=Ωos.1 hm
   exact(hok u hu).head
  ·unfold Ωba
   rw[Ωjc]
   simp
 have hend:∀h,h∈L.map (·.head)→cntF (Ω1 (offs P) L) (L.map (·.head)) (hdV h)=none→Ωba P h L=false:=fun h hm hn=>by
  rw[Ωj6 hm] at hn
  have h0:Ω1 (offs P) L h=0:=by
   by_cases h1:0<Ω1 (offs P) L h
   ·rw[ΩnV h1] at hn;cases hn
   ·omega
  unfold Ωba need
  rw[h0]
  simp
 have hin:∀h,cntF (Ω1 (offs P) L) (L.map (·.head)) (hdV h)≠none→h∈L.map (·.head):=fun h hn=>by
  cases hf:cntF (Ω1 (offs P) L) (L.map (·.head)) (hdV h) with
  |none=>exact(hn hf).elim
  |some v=>
   obtain⟨g,hm,e1,_⟩:=Ωjx hf
   rw[ΩgI e1];exact hm
 obtain⟨f,ef⟩:∃f,f=cntF (Ω1 (offs P) L) (L.map (·.head)):=⟨_,rfl⟩
 obtain⟨vf,evf⟩:∃vf,vf=Ω1 (offs P) L:=⟨_,rfl⟩
 rw[←ef] at hb hdom hend hin
 rw[←evf] at hdom
 obtain⟨no,eno⟩:∃no,no=(offs P).length :=⟨_,rfl⟩
 rw[←eno] at hq hol hdom
 have hnd:∀W,Calls Tryz.prog 123 #[.int .i64 (no:Int)] W fun e w' =>e= .returned (.int .i64 (ΩfC (no:Int)))∧w' =W:=fun W=>qneed_any (no:Int) ⟨by omega,by omega⟩ W
 obtain⟨ni,eni⟩:∃ni,ni=ΩfC (no:Int):=⟨_,rfl⟩
 rw[←eni] at hnd hdom
 obtain⟨B,eB⟩:∃B,B=w.heap.size:=⟨_,rfl⟩
 obtain⟨X,eX⟩:∃X,X=((w.alloc (.cells #[pv,.int .i64 0,.slice none 0 0,.slice none 0 0,.int .i64 0,.int .i64 0] 50)).alloc (.cells hd0C 37)).alloc (.cells hd0C 37):=⟨_,rfl⟩
 have hS0:BeS w B pv X:=by
  have h2:=Blk.new (w.alloc (.cells #[pv,.int .i64 0,.slice none 0 0,.slice none 0 0,.int .i64 0,.int .i64 0] 50)) tHd hd0C
  have h3:=Blk.new ((w.alloc (.cells #[pv,.int .i64 0,.slice none 0 0,.slice none 0 0,.int .i64 0,.int .i64 0] 50)).alloc (.cells hd0C 37)) tHd hd0C
  rw[Ωnw,←eB] at h2
  rw[Ωnw,Ωnw,←eB] at h3
  rw[Ωim] at h2 h3
  rw[Ωim] at eX
  refine⟨by rw[eX,eB];exact((Blk.new w _ _).alloc _).alloc _,by rw[eX];exact h2.alloc _,by rw[eX];exact h3,by rw[eX];exact(((Only.refl _ _).alloc _).alloc _).alloc _⟩
 have HS0:=Θ hS0
 have HBL:=Θ hb
 have HOF:=Θ hq
 have HND:=Θ hnd
 have HDOM:=Θ hdom
 have HEND:=Θ hend
 have HIN:=Θ hin
 have HKEEP:Hid (∀W W',BeS w B pv W→Only Ωa W W'→BeS w B pv W'):=Θ (fun W W' hW ho=>⟨hW.s.only ho (fun e=>e),Blk.only hW.r ho (fun e=>e),Blk.only hW.b ho (fun e=>e),hW.only.trans ho⟩)
 have EX:=Θ eX
 have EB:=Θ eB
 clear hS0 hb hq hnd hdom hend hin eX eB eni eno ef evf hp hs ht hok hP hlen hL
 unfold setV
 have hnw:=Ωal
 go_enter Tryz.func78,Tryz.ntmps78
 go_upto_region 3 with(fail)
 rw[←EB.out,←EX.out]
 have hwB:w.heap.size≤B:=Nat.le_of_eq EB.out.symm
 clear hnw EX EB
 have s0:=HS0.out.s
 have c0:X.cell? ⟨B,0,none⟩=some pv:=s0.cell 0
 have c1:X.cell? ⟨B,1,none⟩=some (.int .i64 0):=s0.cell 1
 have c2:X.cell? ⟨B,2,none⟩=some (.slice none 0 0):=s0.cell 2
 have c3:X.cell? ⟨B,3,none⟩=some (.slice none 0 0):=s0.cell 3
 have c4:X.cell? ⟨B,4,none⟩=some (.int .i64 0):=s0.cell 4
 have c5:X.cell? ⟨B,5,none⟩=some (.int .i64 0):=s0.cell 5
 clear s0
 go_wp2_with fail
 refine(HOF.out _ HS0.out.only).mono ?_
 rintro e1 w1 ⟨A1,cap1,rfl,ho1⟩
 have HS1:=Θ (HKEEP.out _ _ HS0.out ho1)
 clear ho1 c0 c1 c2 c3 c4 c5 HS0
 go_wp2_with fail
 refine(HND.out _).mono ?_
 rintro e2 w2 ⟨rfl,rfl⟩
 have s0:=HS1.out.s
 have c0:w2.cell? ⟨B,0,none⟩=some pv:=s0.cell 0
 have c1:w2.cell? ⟨B,1,none⟩=some (.int .i64 0):=s0.cell 1
 have c2:w2.cell? ⟨B,2,none⟩=some (.slice none 0 0):=s0.cell 2
 have c3:w2.cell? ⟨B,3,none⟩=some (.slice none 0 0):=s0.cell 3
 have c4:w2.cell? ⟨B,4,none⟩=some (.int .i64 0):=s0.cell 4
 have c5:w2.cell? ⟨B,5,none⟩=some (.int .i64 0):=s0.cell 5
 clear s0
 go_wp2_with fail
 refine(HBL.out _ HS1.out.only).mono ?_
 rintro e3 w3 ⟨b,n,rfl,hn,hm,ho3⟩
 have HS3:=Θ (HKEEP.out _ _ HS1.out ho3)
 have HM:=Θ hm
 clear ho3 c0 c1 c2 c3 c4 c5 HS1 hm
 go_wp2_with (at_range;refine ΩcD _ rfl _ 176 rfl 37 3 ΩeI Tryz.underlying176 b n f rfl HM.out ?_;intro w4 cnt0 hrg0 hO4 hsz4)
 obtain⟨r,er⟩:∃r,r=w3.heap.size:=⟨_,rfl⟩
 rw[←er] at hrg0⊢
 have hs4:=HKEEP.out _ _ HS3.out hO4
 have hwr:w.heap.size≤r:=by rw[er];exact HS3.out.only.size
 have HMNE:Hid (B+1+1≠b):=Θ (Ωec HM.out (show w3.cell? ⟨B+1+1,0,none⟩=some (.int .i64 hd0.size) from HS3.out.b.cell 0))
 have hB1:B+1<r∧B+1+1<r:=by rw[er];exact⟨HS3.out.r.lt,HS3.out.b.lt⟩
 have hbn:Ωai (fun h=>f (hdV h)≠none∧(fun x=>(f x).isSome) (hdV h)=false) (fun h=>Ωba P h L) none:=by
  rintro h ⟨h1,h2⟩
  cases hf:f (hdV h) with
  |none=>exact(h1 hf).elim
  |some v=>simp[hf] at h2
 have h0:BeL w B P L b r n f (fun x=>(f x).isSome) cnt0 none w4:=⟨hrg0,hs4.r,hs4.b,⟨⟨by decide,by decide⟩,rfl⟩,hbn,hs4.only⟩
 have H0:=Θ h0
 clear h0 hbn hrg0 hO4 hsz4 hs4 er HS3 HM
 go_frame
 go_loopw [7] (fun fv wr=>∃left cnt o,fv= .bool o.isSome∧BeL w B P L b r n f left cnt o wr) (fun _ wr=>wr.rangeLeft b r)
 case atStart=>exact⟨_,_,none,rfl,H0.out⟩
 case round=>
  obtain⟨left,cnt,o,rfl,hS⟩:=hrel
  have HS:=Θ hS
  clear hS
  go_wp2_with (at_next;refine ΩcZ _ rfl _ rfl 37 ΩeI b r n f left cnt rfl HS.out.grp ?_ ?_)
  ·intro hc0 hl0
   have hfin:Ωai (fun h=>h∈L.map (·.head)) (fun h=>Ωba P h L) o:=HS.out.best.wider (fun x hx=>HIN.out x hx.1) (fun x hx hn=>HEND.out x hx (by
    apply Classical.byContradiction
    intro h1
    exact hn ⟨h1,hl0 _ h1⟩))
   have hld:=ΩC (Ωd HS.out.b) HS.out.ok.root
   have hst:=Ωax HS.out.r (by kernel_rfl) HS.out.ok.root
   have hb8:HdAt (wr.setCells (B+1) 0 (hdC (hdOr o))) (B+1) (hdOr o):=Ωj HS.out.r (by rw[Ωo HS.out.ok.root];rfl)
   have ho8:Only Ωa w (wr.setCells (B+1) 0 (hdC (hdOr o))):=Ωb HS.out.only (B+1) 0 (.inr (by omega)) _
   have HFIN:=Θ hfin
   have HB8:=Θ hb8
   have HO8:=Θ ho8
   have HOK:=Θ HS.out.ok.root
   clear hfin hb8 ho8 hl0 hc0
   go_wp2_with fail
   refine bodyPost_ret (v:= .tuple #[.agg (hdC (hdOr o)).toArray,.bool o.isSome]) (ΩjQ rfl rfl rfl HB8.out HOK.out) rfl ⟨o,HFIN.out,rfl,HO8.out⟩
  ·intro key v w5 cnt' hfk hlk hrg hlt hgr5 hsz5 hen
   obtain⟨h,rfl,rfl,ok,hle,hcb⟩:=HDOM.out key v hfk
   have hl:=ok.root
   have hS5:Only (fun j=>j=r) wr w5:=(Only.refl (fun j=>j=r) wr).grown hgr5 (fun j e=>by cases e;exact .inl rfl)
   obtain⟨N,eN⟩:∃N,N=w5.heap.size:=⟨_,rfl⟩
   have hb0:Blk (w5.alloc (.cells hd0C 37)) N tHd hd0C:=by rw[eN];exact Blk.new w5 _ _
   have hst:=Ωax hb0 rfl hl
   rw[eN] at hst
   have hnw:=Ωal
   have hb1:HdAt ((w5.alloc (.cells hd0C 37)).setCells N 0 (hdC h)) N h:=Ωj hb0 (by rw[Ωo hl];rfl)
   have hO7:Only Ωa w5 ((w5.alloc (.cells hd0C 37)).setCells N 0 (hdC h)):=Ωb ((Only.refl _ _).alloc _) N 0 (.inr (by omega)) _
   have zg:=hrg.only hO7 (fun e=>e) (fun e=>e)
   have zr:HdAt ((w5.alloc (.cells hd0C 37)).setCells N 0 (hdC h)) (B+1) hd0:=(Blk.only HS.out.r hS5 (fun e=>by have:=hB1.1;omega)).only hO7 (fun e=>e)
   have zb:HdAt ((w5.alloc (.cells hd0C 37)).setCells N 0 (hdC h)) (B+1+1) (hdOr o):=(Blk.only HS.out.b hS5 (fun e=>by have:=hB1.2;omega)).only hO7 (fun e=>e)
   have zo:Only Ωa w ((w5.alloc (.cells hd0C 37)).setCells N 0 (hdC h)):=(HS.out.only.grown hgr5 (fun j e=>by cases e;exact .inr hwr)).trans hO7
   have hND:N≠B+1∧N≠B+1+1:=by have h1:=HS.out.b.lt;have h2:=hS5.size;omega
   have hNr:r≠N:=by have h1:=hrg.lt;omega
   have hbS:=HS.out.best
   have ZG:=Θ zg
   have ZR:=Θ zr
   have ZB:=Θ zb
   have ZO:=Θ zo
   have Z1:=Θ hb1
   have EN:=Θ eN
   have HBS:=Θ hbS
   have HOK:=Θ ok
   have HOO:=Θ HS.out.ok
   have HCB:=Θ hcb
   have HD:Hid (∀y,(f (hdV y)≠none∧left (hdV y)=false∨y=h)↔(f (hdV y)≠none∧(left (hdV y)&& !eqv (hdV y) (hdV h))=false)):=Θ (fun y=>by
    by_cases e:y=h
    ·subst e
     simp[hfk,Ωbk]
    ·have hne:eqv (hdV y) (hdV h)=false:=by
      cases hq:eqv (hdV y) (hdV h) with
      |false=>rfl
      |true=>exact(e (ΩgI (Ωbu.1 hq))).elim
     simp[hne,e])
   have HMEAS:=Θ (show wr.rangeLeft b r=cnt from HS.out.grp.left_eq)
   clear zg zr zb zo hb0 hb1 hO7 hS5 hgr5 hsz5 hrg hfk hlk ok hcb hbS eN
   unfold hdV at hen
   obtain⟨wo,rfl⟩:∃wo:World,wo=wr:=⟨_,rfl⟩
   go_upto_region 7 with(fail)
   rw[←EN.out]
   refine Ωf (fun Z=>ΩaE Z Tryz.prog 37 b r n f (fun x=>left x&& !eqv x (hdV h)) cnt'∧HdAt Z (B+1) hd0∧HdAt Z (B+1+1) (hdOr o)∧HdAt Z N h∧Only Ωa w Z) ⟨ZG.out,ZR.out,ZB.out,Z1.out,ZO.out⟩ ?_
   rintro Z ⟨zg,zr,zb,zn,zo⟩
   clear hen hst hnw ZG ZR ZB ZO Z1 HS
   by_cases hlow:(vf h:Int)<ni
   ·have hC:Ωba P h L=false:=by rw[HCB.out];exact Ωny (by omega)
    have hnew:BeL w B P L b r n f (fun x=>left x&& !eqv x (hdV h)) cnt' o Z:=⟨zg,zr,zb,HOO.out,(HBS.out.skip hC).congr HD.out,zo⟩
    have HNEW:=Θ hnew
    clear hnew zg zr zb zn zo hC
    go_wp2_with fail
    go_roundw
    case rel=>exact⟨_,_,o,rfl,HNEW.out⟩
    case measure=>rw[HNEW.out.grp.left_eq,HMEAS.out];omega
   ·have hC:Ωba P h L=true:=by rw[HCB.out];exact ΩnG (by omega)
    have hstep:=(HBS.out.step (x:=h) hC).congr HD.out
    have hlow2:decide ((vf h:Int)<ni)=false:=Ωny hlow
    have hput:∀W,Only Ωa Z W→Ωd0 o h=true→BeL w B P L b r n f (fun x=>left x&& !eqv x (hdV h)) cnt' (some h) (W.setCells (B+1+1) 0 (hdC h)):=fun W hZW ht=>by
     rw[ht,ΩnV rfl] at hstep
     have hso:Only (fun j=>j=B+1+1) Z (W.setCells (B+1+1) 0 (hdC h)):=Ωb (S:=fun j=>j=B+1+1) (hZW.mono (fun _ _ e=>e.elim)) (B+1+1) 0 (.inl rfl) _
     exact⟨zg.only hso (fun e=>by have:=HMNE.out;omega) (fun e=>by omega),Blk.only zr hso (fun e=>by omega),Ωj (Blk.only zb hZW (fun e=>e)) (by rw[ΩnJ,Ωo HOO.out.root,Ωo hl]),HOK.out,hstep,Ωb (zo.trans hZW) (B+1+1) 0 (.inr (by omega)) _⟩
    have hkeep:∀W,Only Ωa Z W→Ωd0 o h=false→BeL w B P L b r n f (fun x=>left x&& !eqv x (hdV h)) cnt' o W:=fun W hZW ht=>by
     rw[ht,ΩnU (by decide)] at hstep
     exact⟨zg.only hZW (fun e=>e) (fun e=>e),Blk.only zr hZW (fun e=>e),Blk.only zb hZW (fun e=>e),HOO.out,hstep,zo.trans hZW⟩
    have hld:∀W,Only Ωa Z W→(Ωa4 (.pointer (some ⟨N,0,none⟩))).run Tryz.prog W= .ok (.agg (hdC h).toArray) W:=fun W hZW=>ΩC (Ωd (Blk.only zn hZW (fun e=>e))) hl
    have hst:∀W,Only Ωa Z W→(ΩbJ (.pointer (some ⟨B+1+1,0,none⟩)) (.agg (hdC h).toArray)).run Tryz.prog W= .ok () (W.setCells (B+1+1) 0 (hdC h)):=fun W hZW=>Ωax (Blk.only zb hZW (fun e=>e)) (by rw[ΩnJ,Ωo HOO.out.root]) hl
    have n0:Z.cell? ⟨N,0,none⟩=some (.int .i64 h.size):=zn.cell 0
    have b0:Z.cell? ⟨B+1+1,0,none⟩=some (.int .i64 (hdOr o).size):=zb.cell 0
    have rn:=Ωet (ΩD (Ωd zn)) hl
    have rb:=Ωet (ΩD (Ωd zb)) HOO.out.root
    rw[ΩnR] at rn rb
    have hles:=less_any h.root (hdOr o).root hl HOO.out.root Z
    have HPUT:=Θ hput
    have HKP:=Θ hkeep
    have HLES:=Θ hles
    have HLD:=Θ hld
    have HST:=Θ hst
    clear hput hkeep hles hld hst zg zr zb zn zo hstep hC hlow
    cases o with
    |none=>
     have hld:=HLD.out Z (Only.refl _ _)
     have hst:=HST.out Z (Only.refl _ _)
     have HNEW:=Θ (HPUT.out Z (Only.refl _ _) rfl)
     go_wp2_with fail
     go_roundw
     case rel=>exact⟨_,_,some h,rfl,HNEW.out⟩
     case measure=>rw[HNEW.out.grp.left_eq,HMEAS.out];omega
    |some c=>
     have b1:Z.cell? ⟨B+1+1,0,none⟩=some (.int .i64 c.size):=b0
     have rb1:(ΩfO (.pointer (some ⟨B+1+1,1,none⟩))).run Tryz.prog Z= .ok (hv c.root) Z:=rb
     have hles:Calls Tryz.prog 125 #[hv h.root,hv c.root] Z fun e w' =>e= .returned (.bool (ΩbI h.root c.root))∧Only Ωa Z w' :=HLES.out
     clear b0 rb HLES
     rcases Int.lt_trichotomy c.size h.size with hlt2|heq|hgt
     ·have hld:=HLD.out Z (Only.refl _ _)
      have hst:=HST.out Z (Only.refl _ _)
      have HNEW:=Θ (HPUT.out Z (Only.refl _ _) (by unfold Ωd0 Ωed;simp[hlt2]))
      have d1:decide (c.size<h.size)=true:=ΩnG hlt2
      clear hles
      go_wp2_with fail
      go_roundw
      case rel=>exact⟨_,_,some h,rfl,HNEW.out⟩
      case measure=>rw[HNEW.out.grp.left_eq,HMEAS.out];omega
     ·have d1:decide (c.size<h.size)=false:=Ωny (by omega)
      have d2:(h.size==c.size)=true:=by simp[heq]
      have htk:Ωd0 (some c) h=ΩbI h.root c.root:=by unfold Ωd0 Ωed;simp[heq]
      obtain⟨β,hβ⟩:∃β,β=ΩbI h.root c.root:=⟨_,rfl⟩
      rw[←hβ] at hles htk
      have HTK:=Θ htk
      have HLES:=Θ hles
      clear heq hβ htk hles
      go_wp2_with fail
      refine HLES.out.mono ?_
      rintro e6 w6 ⟨rfl,ho6⟩
      cases β with
      |true=>
       have hld:=HLD.out w6 ho6
       have hst:=HST.out w6 ho6
       have HNEW:=Θ (HPUT.out w6 ho6 HTK.out)
       clear ho6
       go_wp2_with fail
       go_roundw
       case rel=>exact⟨_,_,some h,rfl,HNEW.out⟩
       case measure=>rw[HNEW.out.grp.left_eq,HMEAS.out];omega
      |false=>
       have HNEW:=Θ (HKP.out w6 ho6 HTK.out)
       clear ho6
       go_wp2_with fail
       go_roundw
       case rel=>exact⟨_,_,some c,rfl,HNEW.out⟩
       case measure=>rw[HNEW.out.grp.left_eq,HMEAS.out];omega
     ·have d1:decide (c.size<h.size)=false:=Ωny (by omega)
      have d2:(h.size==c.size)=false:=by simp;omega
      have HNEW:=Θ (HKP.out Z (Only.refl _ _) (by show(decide (c.size<h.size)||decide (h.size=c.size)&&ΩbI h.root c.root)=false;rw[d1,Ωny (show¬h.size=c.size by omega)];rfl))
      clear hles
      go_wp2_with fail
      go_roundw
      case rel=>exact⟨_,_,some c,rfl,HNEW.out⟩
      case measure=>rw[HNEW.out.grp.left_eq,HMEAS.out];omega
end
section
open Go.RowKit Go.Shelf
open Go.Maps (Keyed)
abbrev tCli:TypeId:=100
structure Cli where
 C:Nat
 id:Int
 pv:Value
 P:List Pers
 sent:Bool
 text:ByteArray
 head:Hd
 vv:Value
 votes:List Vt
 mv:Value
 seen:List Vt
 rc:Bool
def cliA(c:Cli):List Value:=[.int .i64 c.id,c.pv,.int .i64 0,.slice none 0 0,.slice none 0 0,.int .i64 0,.int .i64 0,.bool c.sent,.string c.text]
def cliC(c:Cli):List Value:=cliA c++(hdC c.head++[c.vv,c.mv,.bool c.rc])
theorem Ωk1{c:Cli}(hl:c.head.root.length=32):(cliC c).length =45:=by simp[cliC,cliA,Ωo hl]
def ΩdP:Value→Option Nat
 | .map (some b)=>some b
 |_=>none
def Ωhf(w:World)(base:Nat)(mv:Value)(M:List Vt):Prop:=(mv= .map none∧M=[])∨∃b,mv= .map (some b)∧base≤b∧MapV w Tryz.prog tVt b M.length (ΩfA M)
structure Ωv(w:World)(base:Nat)(c:Cli):Prop where
 blk:Blk w c.C tCli (cliC c).toArray
 lo:base≤c.C
 hok:c.head.Ok
 pers:ΩT w base c.pv c.P.length c.P
 votes:ΩH w base c.vv c.votes.length c.votes
 ok:Ω4 c.votes
 seen:Ωhf w base c.mv c.seen
 sok:Ω4 c.seen
def Cli.foot(c:Cli)(k:Nat):Prop:=k=c.C∨c.pv.ownBlock=some k∨c.vv.ownBlock=some k∨ΩdP c.mv=some k
theorem Ωhf.only{S:Nat→Prop}{w w' :World}{base:Nat}{mv:Value}{M:List Vt}(h:Ωhf w base mv M)(ho:Only S w w')(hS:∀k,ΩdP mv=some k→¬S k):Ωhf w' base mv M:=by
 rcases h with h|⟨b,rfl,hb,hm⟩
 ·exact .inl h
 ·exact .inr ⟨b,rfl,hb,hm.only ho (hS b rfl)⟩
theorem Ωv.keep{S:Nat→Prop}{w w' :World}{base:Nat}{c:Cli}(h:Ωv w base c)(ho:Only S w w')(hS:∀k,c.foot k→¬S k):Ωv w' base c:=
 ⟨h.blk.only ho (hS _ (.inl rfl)),h.lo,h.hok,Ωe h.pers ho (fun k hk=>hS k (.inr (.inl hk))),Ωe h.votes ho (fun k hk=>hS k (.inr (.inr (.inl hk)))),h.ok,h.seen.only ho (fun k hk=>hS k (.inr (.inr (.inr hk)))),h.sok⟩
theorem Ωv.nn{w w' :World}{base:Nat}{c:Cli}(h:Ωv w base c)(ho:Only Ωa w w'):Ωv w' base c:=h.keep ho (fun _ _ e=>e)
theorem Ωhf.blk{w:World}{base:Nat}{mv:Value}{M:List Vt}(h:Ωhf w base mv M){k:Nat}(hk:ΩdP mv=some k):base≤k∧k<w.heap.size∧MapV w Tryz.prog tVt k M.length (ΩfA M):=by
 rcases h with⟨rfl,_⟩|⟨b,rfl,hb,hm⟩
 ·simp[ΩdP] at hk
 ·have:b=k:=by simpa [ΩdP] using hk
  subst this
  exact⟨hb,hm.lt,hm⟩
theorem Ωv.foot_in{w:World}{base:Nat}{c:Cli}(h:Ωv w base c){k:Nat}(hk:c.foot k):base≤k∧k<w.heap.size:=by
 rcases hk with rfl|hk|hk|hk
 ·exact⟨h.lo,Blk.lt h.blk⟩
 ·exact ΩJ h.pers hk
 ·exact ΩJ h.votes hk
 ·exact⟨(h.seen.blk hk).1,(h.seen.blk hk).2.1⟩
theorem Ωv.ne_pv{w:World}{base:Nat}{c:Cli}(h:Ωv w base c):c.pv.ownBlock≠some c.C:=Ωi h.pers h.blk (by decide)
theorem Ωv.ne_vv{w:World}{base:Nat}{c:Cli}(h:Ωv w base c):c.vv.ownBlock≠some c.C:=Ωi h.votes h.blk (by decide)
theorem Ωfb{w:World}{g b n:Nat}{t k:TypeId}{cs:Array Value}{f:Value→Option Value}{P:Program}(h:Blk w g t cs)(hm:MapV w P k b n f):g≠b:=by
 rintro rfl
 obtain⟨D,⟨es,clock,hb,_⟩,_⟩:=hm
 unfold Blk at h
 rw[h] at hb
 cases hb
theorem Ωv.ne_mv{w:World}{base:Nat}{c:Cli}(h:Ωv w base c):ΩdP c.mv≠some c.C:=fun e=>Ωfb h.blk (h.seen.blk e).2.2 rfl
theorem Ωv.pv_vv{w:World}{base:Nat}{c:Cli}(h:Ωv w base c){k:Nat}(hk:c.pv.ownBlock=some k):c.vv.ownBlock≠some k:=Ωdz h.pers h.votes (by decide) hk
theorem Ωv.pv_mv{w:World}{base:Nat}{c:Cli}(h:Ωv w base c){k:Nat}(hk:c.pv.ownBlock=some k):ΩdP c.mv≠some k:=fun e=>Ωaz h.pers (h.seen.blk e).2.2 hk
theorem Ωv.vv_mv{w:World}{base:Nat}{c:Cli}(h:Ωv w base c){k:Nat}(hk:c.vv.ownBlock=some k):ΩdP c.mv≠some k:=fun e=>Ωaz h.votes (h.seen.blk e).2.2 hk
theorem Ωv.off{w:World}{base g:Nat}{t:TypeId}{cs:Array Value}{c:Cli}(h:Ωv w base c)(hb:Blk w g t cs)(h1:tCli≠t)(h2:67≠t)(h3:43≠t):¬c.foot g:=fun hk=>by
 rcases hk with hk|hk|hk|hk
 ·exact Blk.ne_ h.blk hb h1 hk.symm
 ·exact Ωi h.pers hb h2 hk
 ·exact Ωi h.votes hb h3 hk
 ·exact Ωfb hb (h.seen.blk hk).2.2 rfl
section
variable {w:World} {c:Cli}
theorem ΩeR{g:Nat}(h:Blk w g tCli (cliC c).toArray){k:Nat}{v:Value}(hk:(cliC c)[k]? =some v):w.cell? ⟨g,k,none⟩=some v:=by
 rw[Blk.cell h];simpa using hk
theorem Ωg3(hl:c.head.root.length=32)(j:Nat):(cliC c)[42+j]? =[c.vv,c.mv,.bool c.rc][j]? :=by
 unfold cliC
 rw[ΩnM (by show 9≤_;omega),show(cliA c).length =9 from rfl,ΩnM (by rw[Ωo hl];omega),Ωo hl]
 congr 1;omega
theorem ΩeS(j:Nat)(hj:j<9):(cliC c)[j]? =(cliA c)[j]? :=by
 unfold cliC
 rw[Ωn1 (by show j<9;omega)]
theorem cli_id{g:Nat}(h:Blk w g tCli (cliC c).toArray):w.cell? ⟨g,0,none⟩=some (.int .i64 c.id):=ΩeR h (ΩeS 0 (by omega))
theorem Ωk0{g:Nat}(h:Blk w g tCli (cliC c).toArray):w.cell? ⟨g,7,none⟩=some (.bool c.sent):=ΩeR h (ΩeS 7 (by omega))
theorem ΩkY{g:Nat}(h:Blk w g tCli (cliC c).toArray):w.cell? ⟨g,8,none⟩=some (.string c.text):=ΩeR h (ΩeS 8 (by omega))
theorem Ωg2{g:Nat}(h:Blk w g tCli (cliC c).toArray):w.rangeAt g 1 [c.pv,.int .i64 0,.slice none 0 0,.slice none 0 0,.int .i64 0,.int .i64 0]:=fun j v hj=>by
 have hj2:=(Ωnx.1 hj).1
 simp only[ΩnD,Ωn8] at hj2
 refine ΩeR h ((ΩeS (1+j) (by omega)).trans ?_)
 match j,hj2 with
 |0,_|1,_|2,_|3,_|4,_|5,_=>exact hj
theorem ΩkZ{g:Nat}(h:Blk w g tCli (cliC c).toArray):w.cell? ⟨g,9,none⟩=some (.int .i64 c.head.size):=by
 refine ΩeR h ?_
 unfold cliC
 rw[ΩnM (by show 9≤9;omega)]
 rfl
theorem cli_hd{g:Nat}(h:Blk w g tCli (cliC c).toArray):w.rangeAt g 9 (hdC c.head):=fun j v hj=>by
 have hj2:=(Ωnx.1 hj).1
 refine ΩeR h ?_
 unfold cliC
 rw[ΩnM (by show 9≤9+j;omega),show(cliA c).length =9 from rfl,Nat.add_sub_cancel_left,Ωn1 hj2]
 exact hj
theorem Ωg1{g:Nat}(h:Blk w g tCli (cliC c).toArray)(hl:c.head.root.length=32):w.cell? ⟨g,42,none⟩=some c.vv:=ΩeR h (Ωg3 hl 0)
theorem Ωcg{g:Nat}(h:Blk w g tCli (cliC c).toArray)(hl:c.head.root.length=32):w.cell? ⟨g,43,none⟩=some c.mv:=ΩeR h (Ωg3 hl 1)
theorem Ωmc{g:Nat}(h:Blk w g tCli (cliC c).toArray)(hl:c.head.root.length=32):w.cell? ⟨g,44,none⟩=some (.bool c.rc):=ΩeR h (Ωg3 hl 2)
theorem Ωh6(hl:c.head.root.length=32)(j:Nat)(hj:j<3)(v:Value):(cliC c).set (42+j) v=cliA c++(hdC c.head++([c.vv,c.mv,.bool c.rc].set j v)):=by
 unfold cliC
 rw[Ωof _ _ (by show 9≤_;omega),show(cliA c).length =9 from rfl,Ωof _ _ (by rw[Ωo hl];omega),Ωo hl]
 congr 3;omega
theorem Ωkm(j:Nat)(hj:j<9)(v:Value):(cliC c).set j v=(cliA c).set j v++(hdC c.head++[c.vv,c.mv,.bool c.rc]):=by
 unfold cliC
 rw[List.set_append_left _ _ (by show j<9;omega)]
theorem Ωha{g k:Nat}{cs ds:List Value}{v:Value}(h:Blk w g tCli cs.toArray)(e:cs.set k v=ds):Blk (w.setCell ⟨g,k,none⟩ v) g tCli ds.toArray:=by
 have h1:=Blk.set_ h k v
 rw[show(cs.toArray).setIfInBounds k v=ds.toArray by rw[ΩnX,e]] at h1
 exact h1
theorem cli_put_seen{g:Nat}(h:Blk w g tCli (cliC c).toArray)(hl:c.head.root.length=32)(v:Value)(M:List Vt):Blk (w.setCell ⟨g,43,none⟩ v) g tCli (cliC {c with mv:=v,seen:=M}).toArray :=Ωha h (Ωh6 hl 1 (by omega) v)
theorem cli_put_votes{g:Nat}(h:Blk w g tCli (cliC c).toArray)(hl:c.head.root.length=32)(v:Value)(M:List Vt):Blk (w.setCell ⟨g,42,none⟩ v) g tCli (cliC {c with vv:=v,votes:=M}).toArray :=Ωha h (Ωh6 hl 0 (by omega) v)
theorem ΩhN{g:Nat}(h:Blk w g tCli (cliC c).toArray)(hl:c.head.root.length=32)(b:Bool):Blk (w.setCell ⟨g,44,none⟩ (.bool b)) g tCli (cliC {c with rc:=b}).toArray :=Ωha h (Ωh6 hl 2 (by omega) _)
theorem cli_put_sent{g:Nat}(h:Blk w g tCli (cliC c).toArray)(b:Bool):Blk (w.setCell ⟨g,7,none⟩ (.bool b)) g tCli (cliC {c with sent:=b}).toArray :=Ωha h (Ωkm 7 (by omega) _)
theorem cli_put_text{g:Nat}(h:Blk w g tCli (cliC c).toArray)(t:ByteArray):Blk (w.setCell ⟨g,8,none⟩ (.string t)) g tCli (cliC {c with text:=t}).toArray :=Ωha h (Ωkm 8 (by omega) _)
theorem cli_put_head{g:Nat}(h:Blk w g tCli (cliC c).toArray)(hl:c.head.root.length=32)(x:Hd)(hx:x.root.length=32):Blk (w.setCells g 9 (hdC x)) g tCli (cliC {c with head:=x}).toArray :=by
 have h1:=Blk.setCells (hdC x) 9 h
 have e:ΩaN (cliC c) 9 (hdC x)=cliC {c with head:=x}:=by
  rw[Ωbr _ _ _ (by rw[Ωk1 hl,Ωo hx];omega),Ωo hx]
  unfold cliC
  have e1:(cliA c++(hdC c.head++[c.vv,c.mv,Value.bool c.rc])).take 9=cliA c:=by rw[Ωom (by exact Ωnv 9)];rfl
  have e2:(cliA c++(hdC c.head++[c.vv,c.mv,Value.bool c.rc])).drop (9+33)=[c.vv,c.mv,Value.bool c.rc]:=by
   rw[←List.drop_drop,show(cliA c++(hdC c.head++[c.vv,c.mv,Value.bool c.rc])).drop 9=hdC c.head++[c.vv,c.mv,Value.bool c.rc] from rfl,List.drop_append,Ωo hl,Ωoi (by rw[Ωo hl];exact Ωnv _)]
   rfl
  rw[e1,e2,ΩoA]
  rfl
 rw[e] at h1
 exact h1
end
def Ωl(w w' :World)(c c' :Cli):Prop:=Only c.foot w w'∧∀k,c'.foot k→c.foot k∨w.heap.size≤k
theorem Ωl.refl(w:World)(c:Cli):Ωl w w c c:=⟨Only.refl _ _,fun _ h=> .inl h⟩
theorem Ωl.trans{w w' w'' :World}{c c' c'' :Cli}(h:Ωl w w' c c')(k:Ωl w' w'' c' c''):Ωl w w'' c c'' :=
 ⟨h.1.trans' k.1 (fun i hi hf=>by rcases h.2 i hf with h1|h1;exact h1;omega),fun i hi=>by
  rcases k.2 i hi with h1|h1
  ·exact h.2 i h1
  ·exact .inr (Ωnz h.1.size h1)⟩
theorem Ωl.nn{w w' :World}{c:Cli}(h:Only Ωa w w'):Ωl w w' c c:=⟨h.mono (fun _ _ e=>e.elim),fun _ h=> .inl h⟩
theorem Ωl.only{w0 w w' :World}{base:Nat}{c c' :Cli}(h:Ωl w w' c c')(hc:Ωv w base c)(h0:Only Ωa w0 w)(hb:w0.heap.size≤base):Only Ωa w0 w' :=
 h0.trans' h.1 (fun i hi hf=>by have:=(hc.foot_in hf).1;omega)
theorem Ωl.put{w W:World}{c c' :Cli}(h:Ωl w W c c'){R:Nat}(hR:w.heap.size≤R)(o:Nat)(vs:List Value):Ωl w (W.setCells R o vs) c c' :=⟨Ωb h.1 R o (.inr hR) vs,h.2⟩
end
end Go.Proofs.YtgalfohobgjelaaGreatDoor
