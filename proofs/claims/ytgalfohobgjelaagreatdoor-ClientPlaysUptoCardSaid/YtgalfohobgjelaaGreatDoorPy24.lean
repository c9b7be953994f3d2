/- What is proved here: a part of the proof that 'probitylaw31.ClientPlays' answers true. Conditions: each theorem's own. -/
import Derived.Test.YtgalfohobgjelaaGreatDoorPy11
import Derived.Test.YtgalfohobgjelaaGreatDoorPy18
set_option maxRecDepth 100000
set_option maxHeartbeats 8000000
namespace Go.Proofs.YtgalfohobgjelaaGreatDoor
section
open Go.RowKit Go.Shelf
theorem ΩcL(n:Int)(h0: -9223372036854775808≤n)(h1:n≤9223372036854775807)(w:World):Calls Tryz.prog 66 #[.int .i64 n] w (Ωq (Lib.itoa n) w):=by
 have ht:=fun W=>Ωkk n h0 h1 W
 have HT:=Θ ht
 clear ht h0 h1
 go_enter Tryz.func66,Tryz.ntmps66
 go_wp2_with fail
 refine(HT.out w).mono ?_
 rintro e1 w1 ⟨t,rfl,htl,ho⟩
 have HO:=Θ ho
 have HL:=Θ htl
 clear ho htl
 go_wp2_with fail
 refine⟨rfl,_,results_tmp rfl _ _ _,?_⟩
 exact Ωq.mk HL.out HO.out
theorem Ωks(s:ByteArray)(hs:s.size≤8796093022208)(w:World):Calls Tryz.prog 116 #[.string s] w (Ωq (quoL s.data.toList) w):=by
 have hn:=fun W=>ΩcL (s.size:Int) (by omega) (by omega) W
 have HN:=Θ hn
 have HS:=Θ hs
 clear hn hs
 go_enter Tryz.func116,Tryz.ntmps116
 go_wp2_with fail
 refine(HN.out w).mono ?_
 rintro e1 w1 ⟨t,rfl,htl,ho⟩
 have HO:=Θ ho
 have HL:=Θ htl
 have hil:=ΩV (n:=(s.size:Int)) (by have:=HS.out;omega) (by have:=HS.out;omega)
 rw[←htl,←Ωc] at hil
 have hs1:t.size+1≤9223372036854775807:=by omega
 have hs2:t.size+1+s.size≤9223372036854775807:=by have:=HS.out;omega
 clear ho htl hil
 go_wp2_with fail
 refine⟨rfl,_,results_tmp rfl _ _ _,?_⟩
 refine Ωq.mk ?_ HO.out
 unfold quoL
 rw[←Ωc,←HL.out]
 simp
end
section
open Go.RowKit Go.Shelf
theorem rnumbers_any(e:Ev)(w:World):Calls Tryz.prog 115 #[.agg (evC e).toArray] w fun e' w' =>∃g,e' = .returned (.slice (some ⟨g,0,none⟩) 10 10)∧g<w'.heap.size∧ΩjI w' g e.nums∧Only Ωa w w' :=by
 obtain⟨B,eB⟩:∃B,B=w.heap.size:=⟨_,rfl⟩
 obtain⟨X,eX⟩:∃X,X=w.alloc (.cells (evC e).toArray tEv):=⟨_,rfl⟩
 have hat:EvAt X B e:=by rw[eX,eB];exact Blk.new w _ _
 have hox:Only Ωa w X:=by rw[eX];exact(Only.refl _ _).alloc _
 have HOX:=Θ hox
 have c0:X.cell? ⟨B,0,none⟩=some (.int .i64 e.seq):=ΩW hat 0
 have c1:X.cell? ⟨B,1,none⟩=some (.int .i64 e.kind):=ΩW hat 1
 have c2:X.cell? ⟨B,2,none⟩=some (.int .i64 e.who):=ΩW hat 2
 have c3:X.cell? ⟨B,3,none⟩=some (.int .i64 e.time):=ΩW hat 3
 have c4:X.cell? ⟨B,4,none⟩=some (.int .i64 e.bidder):=ΩW hat 4
 have c5:X.cell? ⟨B,5,none⟩=some (.int .i64 e.lot):=ΩW hat 5
 have c6:X.cell? ⟨B,6,none⟩=some (.int .i64 e.n):=ΩW hat 6
 have c7:X.cell? ⟨B,7,none⟩=some (.int .i64 e.other):=ΩW hat 7
 have c10:X.cell? ⟨B,10,none⟩=some (.int .i64 e.sx):=ΩW hat 10
 have c11:X.cell? ⟨B,11,none⟩=some (.int .i64 e.sy):=ΩW hat 11
 have HB:Hid (Blk (X.alloc (.cells (e.nums.map (fun x=>Value.int .i64 x)).toArray 3)) X.heap.size 3 (e.nums.map (fun x=>Value.int .i64 x)).toArray):=Θ (Blk.new X _ _)
 rw[eX,eB] at c0 c1 c2 c3 c4 c5 c6 c7 c10 c11
 rw[eX] at HB HOX
 clear hat hox eX X eB B
 go_enter Tryz.func115,Tryz.ntmps115
 go_wp2_with fail
 refine⟨rfl,_,results_tmp rfl _ _ _,?_⟩
 have hb:=HB.out
 rw[Ωnw] at hb
 exact⟨w.heap.size+1,rfl,hb.lt,ΩgF hb,HOX.out.alloc _⟩
end
section
open Go.RowKit Go.Shelf
attribute [local go_sem ↓ high] Ωbd Ω2
def preL(ns:List Int):List UInt8:=ns.flatMap fun n=>32::Lib.itoa n
theorem Ωi4:∀ns:List Int,ns≠[]→preL ns=32::ΩdJ ns
 |[],h=>absurd rfl h
 |[n],_=>by simp[preL,ΩdJ]
 |n::m::l,_=>by
  have ih:=Ωi4 (m::l) (by simp)
  unfold preL at ih⊢
  rw[ΩnW,ih,ΩdJ]
  simp
theorem preL_len(ns:List Int)(h:∀n∈ns,In n):(preL ns).length≤22*ns.length:=by
 induction ns with
 |nil=>simp[preL]
 |cons n l ih=>
  have h1:=ΩV (h n (by simp)).1 (h n (by simp)).2
  have h2:=ih (fun x hx=>h x (by simp[hx]))
  unfold preL at h2⊢
  rw[ΩnW,ΩnA,ΩnD,ΩnD]
  omega
theorem preL_snoc(ns:List Int)(k:Nat)(x:Int)(hx:ns[k]? =some x):preL (ns.take (k+1))=preL (ns.take k)++32::Lib.itoa x:=by
 unfold preL
 rw[ΩnO,hx,ΩnS,Ωn2]
 simp
theorem Ωd4(e:Ev)(he:e.Ok)(hn:e.name.size≤8796093022208)(hx:e.text.size≤8796093022208)(w:World):Calls Tryz.prog 67 #[.agg (evC e).toArray] w (Ωq (Ω6 e) w):=by
 have hat:EvAt (w.alloc (.cells (evC e).toArray tEv)) w.heap.size e:=Blk.new w _ _
 have hox:Only Ωa w (w.alloc (.cells (evC e).toArray tEv)):=(Only.refl _ _).alloc _
 have hld:=Ωdk hat he.prev
 have HAT:=Θ hat
 have HOX:=Θ hox
 have HE:=Θ he
 have HN:=Θ hn
 have HX:=Θ hx
 clear hat hox he hn hx
 go_enter Tryz.func67,Tryz.ntmps67
 go_wp2_with fail
 refine(rnumbers_any e _).mono ?_
 rintro e1 w1 ⟨g,rfl,hg,hi,ho⟩
 have hat1:=HAT.out.only ho (fun e=>e)
 obtain⟨B,eB⟩:∃B,B=w.heap.size:=⟨_,rfl⟩
 rw[←eB] at hat1⊢
 have HAT1:=Θ hat1
 have HI:=Θ hi
 have HO1:=Θ (HOX.out.trans ho)
 clear hat1 hi ho HAT HOX hld eB
 go_wp2_with fail
 go_loopw [3,5] (fun v i wr=>∃(k:Nat) (s:ByteArray),i= .int .i64 k∧v= .string s∧k≤10∧s.data.toList=ΩeN.data.toList++preL (e.nums.take k)∧Only Ωa w1 wr) (fun _ i _=>10-(intOf i).toNat)
 case atStart=>exact⟨0,ΩeN,rfl,rfl,by omega,by simp[preL],Only.refl _ _⟩
 case round=>
  obtain⟨k,s,rfl,rfl,hk,hs,ho⟩:=hrel
  have HO:=Θ ho
  have HS:=Θ hs
  clear ho hs
  by_cases hlt:k<10
  ·obtain⟨x,hx⟩:∃x,e.nums[k]? =some x:=⟨_,Ωnu hlt⟩
   have hc:=HO.out.cell_some (HI.out k x hx) (fun e=>e)
   have hix:=HE.out.nums_in x (ΩnE hx)
   have hsl:s.size≤300:=by
    have h1:=preL_len (e.nums.take k) (fun y hy=>HE.out.nums_in y (ΩnY hy))
    have h2:=ΩoM k e.nums
    rw[Ωc,HS.out,ΩnA]
    have h3:ΩeN.data.toList.length=5:=rfl
    omega
   have HNX:=Θ (preL_snoc e.nums k x hx)
   have ik:(k:Int)<10:=by omega
   have hs1:s.size+1≤9223372036854775807:=by omega
   have HIX:=Θ hix
   clear hx hix
   go_wp2_with fail
   refine(ΩcL x (HIX.out).1 (HIX.out).2 wr).mono ?_
   rintro e2 w2 ⟨t,rfl,htl,ho2⟩
   have hil:=ΩV (HIX.out).1 (HIX.out).2
   rw[←htl,←Ωc] at hil
   have hs2:s.size+1+t.size≤9223372036854775807:=by omega
   have HT:=Θ htl
   have HO2:=Θ (HO.out.trans ho2)
   clear htl ho2 hil
   go_wp2_with fail
   go_roundw
   case rel=>
    refine⟨k+1,_,by go_num,rfl,by omega,?_,HO2.out⟩
    rw[HNX.out,←HT.out,ΩnP,ΩnP,ΩnQ,ΩnQ,HS.out]
    simp
   case measure=>simp[intOf];omega
  ·obtain rfl:k=10:=by omega
   have ik:¬((10:Nat):Int)<10:=by omega
   have hall:e.nums.take 10=e.nums:=ΩnI (Ωnv _)
   rw[hall,Ωi4 _ (by simp[Ev.nums])] at HS
   have hsl:s.size≤300:=by
    have h1:=ΩaD e.nums HE.out.nums_in
    have h2:e.nums.length=10:=rfl
    have h3:ΩeN.data.toList.length=5:=rfl
    rw[Ωc,HS.out,ΩnA,ΩnD]
    omega
   have hat2:=HAT1.out.only HO.out (fun e=>e)
   have hS:EvAt wr B e∧wr.rangeAt B 12 (e.prev.map bv)∧Only Ωa w wr:=⟨hat2,ΩfZ hat2,HO1.out.trans HO.out⟩
   have c8:∀W,EvAt W B e∧W.rangeAt B 12 (e.prev.map bv)∧Only Ωa w W→W.cell? ⟨B,8,none⟩=some (.string e.name):=fun W h=>ΩW h.1 8
   have c9:∀W,EvAt W B e∧W.rangeAt B 12 (e.prev.map bv)∧Only Ωa w W→W.cell? ⟨B,9,none⟩=some (.string e.text):=fun W h=>ΩW h.1 9
   have HS2:=Θ hS
   clear hat2 hS
   have hu:=Tryz.underlying35
   have hi:=(show(Tryz.prog.info? 35).map (·.size)=some (e.prev.map bv).length by rw[ΩnN,HE.out.prev];kernel_rfl)
   have HKEEP:Hid (∀W W',EvAt W B e∧W.rangeAt B 12 (e.prev.map bv)∧Only Ωa w W→Only Ωa W W'→EvAt W' B e∧W'.rangeAt B 12 (e.prev.map bv)∧Only Ωa w W'):=Θ (fun W W' h ho=>⟨h.1.only ho (fun e=>e),ΩfZ (h.1.only ho (fun e=>e)),h.2.2.trans ho⟩)
   have hS:=HKEEP.out _ _ HS2.out (Only.refl _ _).drew
   have hN:=HN.out
   have hX:=HX.out
   obtain⟨A2,hA2⟩:∃A:ByteArray,A.data.toList=hexL e.prev:=⟨⟨(hexL e.prev).toArray⟩,by simp⟩
   obtain⟨A3,hA3⟩:∃A:ByteArray,A.data.toList=quoL e.name.data.toList:=⟨⟨(quoL e.name.data.toList).toArray⟩,by simp⟩
   obtain⟨A4,hA4⟩:∃A:ByteArray,A.data.toList=quoL e.text.data.toList:=⟨⟨(quoL e.text.data.toList).toArray⟩,by simp⟩
   have z2:A2.size=64:=by rw[Ωc,hA2,ΩY,HE.out.prev]
   have z3:A3.size≤e.name.size+22:=by
    have h:=Ωan e.name.data.toList (by rw[←Ωc];omega)
    rw[←hA3,←Ωc,←Ωc] at h;exact h
   have z4:A4.size≤e.text.size+22:=by
    have h:=Ωan e.text.data.toList (by rw[←Ωc];omega)
    rw[←hA4,←Ωc,←Ωc] at h;exact h
   have y1:¬9223372036854775807<s.size+1:=by omega
   have y2:¬9223372036854775807<s.size+1+A2.size:=by omega
   have y3:¬9223372036854775807<s.size+1+A2.size+1:=by omega
   have y4:¬9223372036854775807<s.size+1+A2.size+1+A3.size:=by omega
   have y5:¬9223372036854775807<s.size+1+A2.size+1+A3.size+1:=by omega
   have y6:¬9223372036854775807<s.size+1+A2.size+1+A3.size+1+A4.size:=by omega
   have f2:∀W,Calls Tryz.prog 93 #[.agg (e.prev.map bv).toArray] W (fun e' w' =>e' = .returned (.string A2)∧Only Ωa W w'):=fun W=>(Ωgl e.prev HE.out.prev W).mono (by rintro e' w' ⟨t,rfl,ht,ho⟩;exact⟨by rw[ΩZ (ht.trans hA2.symm)],ho⟩)
   have f3:∀W,Calls Tryz.prog 116 #[.string e.name] W (fun e' w' =>e' = .returned (.string A3)∧Only Ωa W w'):=fun W=>(Ωks e.name hN W).mono (by rintro e' w' ⟨t,rfl,ht,ho⟩;exact⟨by rw[ΩZ (ht.trans hA3.symm)],ho⟩)
   have f4:∀W,Calls Tryz.prog 116 #[.string e.text] W (fun e' w' =>e' = .returned (.string A4)∧Only Ωa W w'):=fun W=>(Ωks e.text hX W).mono (by rintro e' w' ⟨t,rfl,ht,ho⟩;exact⟨by rw[ΩZ (ht.trans hA4.symm)],ho⟩)
   have F2:=Θ f2
   have F3:=Θ f3
   have F4:=Θ f4
   have HA2:=Θ hA2
   have HA3:=Θ hA3
   have HA4:=Θ hA4
   clear f2 f3 f4 hA2 hA3 hA4 z2 z3 z4 hN hX hsl
   go_upto_region 7 with(fail)
   go_region_held3 (fun w' =>EvAt w' B e∧w'.rangeAt B 12 (e.prev.map bv)∧Only Ωa w w') (first|assumption)
    (first
     |(go_at_call 93;refine(F2.out _).mono ?_;rintro e2 w2 ⟨rfl,ho2⟩;have hS2:=HKEEP.out _ _ (by assumption) ho2;clear ho2)
     |(go_at_call 116;(with_reducible refine(F3.out _).mono ?_);rintro e3 w3 ⟨rfl,ho3⟩;have hS3:=HKEEP.out _ _ (by assumption) ho3;clear ho3)
     |(go_at_call 116;(with_reducible refine(F4.out _).mono ?_);rintro e4 w4 ⟨rfl,ho4⟩;have hS4:=HKEEP.out _ _ (by assumption) ho4;clear ho4))
   go_wp2_with fail
   refine⟨rfl,_,results_tmp rfl _ _ _,?_⟩
   refine Ωq.mk ?_ hS4.2.2
   rw[Ω6]
   simp only[ΩnP,ΩnQ,HA2.out,HA3.out,HA4.out,HS.out]
   simp[ΩeN]
end
section
open Go.RowKit Go.Shelf
attribute [local go_sem ↓ high] Ω2
theorem Ωd5(e:Ev)(he:e.Ok)(hn:e.name.size≤8796093022208)(hx:e.text.size≤8796093022208)(w:World):Calls Tryz.prog 36 #[.agg (evC e).toArray] w (Ωq (ΩaJ e) w):=by
 obtain⟨B,eB⟩:∃B,B=w.heap.size:=⟨_,rfl⟩
 obtain⟨X,eX⟩:∃X,X=w.alloc (.cells (evC e).toArray tEv):=⟨_,rfl⟩
 have hat:EvAt X B e:=by rw[eX,eB];exact Blk.new w _ _
 have hox:Only Ωa w X:=by rw[eX];exact(Only.refl _ _).alloc _
 have hS:EvAt X.drew B e∧Only Ωa w X.drew:=⟨hat.drew,hox.drew⟩
 have c44:∀W,EvAt W B e∧Only Ωa w W→W.cell? ⟨B,44,none⟩=some (.int .i64 e.r):=fun W h=>(ΩdQ h.1 he.prev).1
 have c45:∀W,EvAt W B e∧Only Ωa w W→W.cell? ⟨B,45,none⟩=some (.int .i64 e.s):=fun W h=>(ΩdQ h.1 he.prev).2
 have cld:∀W,EvAt W B e∧Only Ωa w W→(Ωcx (.pointer (some ⟨B,0,none⟩))).run Tryz.prog W= .ok (.agg (evC e).toArray) W:=fun W h=>Ωdk h.1 he.prev
 obtain⟨A2,hA2⟩:∃A:ByteArray,A.data.toList=Lib.itoa e.r:=⟨⟨(Lib.itoa e.r).toArray⟩,by simp⟩
 obtain⟨A3,hA3⟩:∃A:ByteArray,A.data.toList=Lib.itoa e.s:=⟨⟨(Lib.itoa e.s).toArray⟩,by simp⟩
 obtain⟨A4,hA4⟩:∃A:ByteArray,A.data.toList=Ω6 e:=⟨⟨(Ω6 e).toArray⟩,by simp⟩
 have z2:A2.size≤21:=by rw[Ωc,hA2];exact ΩV he.r.1 he.r.2
 have z3:A3.size≤21:=by rw[Ωc,hA3];exact ΩV he.s.1 he.s.2
 have z4:A4.size≤17592186044416+400:=by
  rw[Ωc,hA4]
  have l1:=ΩaD e.nums he.nums_in
  have l2:=ΩY e.prev
  have l3:=Ωan e.name.data.toList (by rw[←Ωc];omega)
  have l4:=Ωan e.text.data.toList (by rw[←Ωc];omega)
  rw[←Ωc] at l3 l4
  rw[he.prev] at l2
  have l5:e.nums.length=10:=rfl
  unfold Ω6
  simp only[ΩnA,ΩnD,Ωn8]
  omega
 have y1:¬9223372036854775807<A2.size+1:=by omega
 have y2:¬9223372036854775807<A2.size+1+A3.size:=by omega
 have y3:¬9223372036854775807<A2.size+1+A3.size+1:=by omega
 have y4:¬9223372036854775807<A2.size+1+A3.size+1+A4.size:=by omega
 have f2:∀W,Calls Tryz.prog 66 #[.int .i64 e.r] W (fun e' w' =>e' = .returned (.string A2)∧Only Ωa W w'):=fun W=>(ΩcL e.r he.r.1 he.r.2 W).mono (by rintro e' w' ⟨t,rfl,ht,ho⟩;exact⟨by rw[ΩZ (ht.trans hA2.symm)],ho⟩)
 have f3:∀W,Calls Tryz.prog 66 #[.int .i64 e.s] W (fun e' w' =>e' = .returned (.string A3)∧Only Ωa W w'):=fun W=>(ΩcL e.s he.s.1 he.s.2 W).mono (by rintro e' w' ⟨t,rfl,ht,ho⟩;exact⟨by rw[ΩZ (ht.trans hA3.symm)],ho⟩)
 have f4:∀W,Calls Tryz.prog 67 #[.agg (evC e).toArray] W (fun e' w' =>e' = .returned (.string A4)∧Only Ωa W w'):=fun W=>(Ωd4 e he hn hx W).mono (by rintro e' w' ⟨t,rfl,ht,ho⟩;exact⟨by rw[ΩZ (ht.trans hA4.symm)],ho⟩)
 have hcode:A2.data.toList++[32]++A3.data.toList++[32]++A4.data.toList=ΩaJ e:=by
  rw[hA2,hA3,hA4]
  simp[ΩaJ,ΩdJ]
 have HCODE:=Θ hcode
 have HS:=Θ hS
 have F2:=Θ f2
 have F3:=Θ f3
 have F4:=Θ f4
 have EX:=Θ eX
 have EB:=Θ eB
 have HKEEP:Hid (∀W W',EvAt W B e∧Only Ωa w W→Only Ωa W W'→EvAt W' B e∧Only Ωa w W'):=Θ (fun W W' h ho=>⟨h.1.only ho (fun e=>e),h.2.trans ho⟩)
 clear hat hox hS f2 f3 f4 eX eB he hn hx z2 z3 z4 hA2 hA3 hA4 hcode
 go_enter Tryz.func36,Tryz.ntmps36
 go_wp2_with fail
 rw[←EX.out,←EB.out]
 clear EX EB
 have hS:=HS.out
 go_region_held3 (fun w' =>EvAt w' B e∧Only Ωa w w') (first|assumption)
  (first
   |(go_at_call 66;(with_reducible refine(F2.out _).mono ?_);rintro e2 w2 ⟨rfl,ho2⟩;have hS2:=HKEEP.out _ _ (by assumption) ho2;clear ho2)
   |(go_at_call 66;(with_reducible refine(F3.out _).mono ?_);rintro e3 w3 ⟨rfl,ho3⟩;have hS3:=HKEEP.out _ _ (by assumption) ho3;clear ho3)
   |(go_at_call 67;refine(F4.out _).mono ?_;rintro e4 w4 ⟨rfl,ho4⟩;have hS4:=HKEEP.out _ _ (by assumption) ho4;clear ho4))
 go_wp2_with fail
 refine⟨rfl,_,results_tmp rfl _ _ _,?_⟩
 refine Ωq.mk ?_ hS4.2
 rw[←HCODE.out]
 simp only[ΩnP,ΩnQ]
end
section
open Go.RowKit Go.Shelf
attribute [local go_sem ↓ high] Ω2
theorem revhash_any(e:Ev)(he:e.Ok)(hn:e.name.size≤8796093022208)(hx:e.text.size≤8796093022208)(w:World):Calls Tryz.prog 40 #[.agg (evC e).toArray] w fun e' w' =>e' = .returned (hv (ΩdL e))∧Only Ωa w w' :=by
 have hat:EvAt (w.alloc (.cells (evC e).toArray 79)) w.heap.size e:=Blk.new w _ _
 have hal:∀W o,EvAt W w.heap.size e→EvAt (W.alloc o) w.heap.size e:=fun W o h=>Blk.alloc h o
 have cld:∀W,EvAt W w.heap.size e→(Ωcx (.pointer (some ⟨w.heap.size,0,none⟩))).run Tryz.prog W= .ok (.agg (evC e).toArray) W:=fun W h=>Ωdk h he.prev
 have henc:∀W,Calls Tryz.prog 36 #[.agg (evC e).toArray] W (Ωq (ΩaJ e) W):=fun W=>Ωd5 e he hn hx W
 have hcl:=evCode_len he hn hx
 have hl:=hashE_len e
 have hi:(Tryz.prog.info? 35).map (·.size)=some ((ΩdL e).map bv).toArray.size :=by rw[ΩnJ,ΩnN,hl];kernel_rfl
 have hone:((ΩdL e).map bv).toArray.all (·.oneCell')=true:=all_oneCell_toArray (Ωck _)
 have HENC:=Θ henc
 have HCL:=Θ hcl
 have HL:=Θ hl
 have HI:=Θ hi
 have HONE:=Θ hone
 clear henc hcl hl hi hone he hn hx
 go_enter Tryz.func40,Tryz.ntmps40
 go_wp2_with fail
 have hb0:=Blk.new (w.alloc (.cells (evC e).toArray 79)) 35 (Array.replicate 32 (.int .u8 0))
 rw[Ωnw] at hb0
 have ho0:Only Ωa w ((w.alloc (.cells (evC e).toArray 79)).alloc (.cells (Array.replicate 32 (.int .u8 0)) 35)):=((Only.refl _ _).alloc _).alloc _
 refine Ωdq (fun Y=>Blk Y (w.heap.size+1) 35 (Array.replicate 32 (.int .u8 0))∧Only Ωa w Y) ⟨hb0,ho0⟩ ?_
 rintro Y ⟨hb1,ho1⟩
 clear hb0 ho0 cld hal hat
 refine(HENC.out Y).mono ?_
 rintro e1 w1 ⟨t,rfl,htl,ho2⟩
 have hb2:=hb1.only ho2 (fun e=>e)
 have hts:t.size≤35184372088832:=by rw[Ωc,htl];have:=HCL.out;omega
 have hsum:=Ωdx t
 rw[htl] at hsum
 have HB2:=Θ hb2
 have HO2:=Θ (ho1.trans ho2)
 have HSUM:=Θ hsum
 clear hb1 ho1 ho2 htl hb2 hsum
 go_wp2_with fail
 refine(HSUM.out w1 hts).mono ?_
 rintro e2 w2 ⟨rfl,ho3⟩
 have hb3:=HB2.out.only ho3 (fun e=>e)
 have hth:w2.there (w.heap.size+1) 0 ((ΩdL e).map bv).toArray.size :=hb3.there 0 _ (by rw[ΩnJ,ΩnN,HL.out];simp)
 have HB3:=Θ hb3
 have HO3:=Θ (HO2.out.trans ho3)
 have HTH:=Θ hth
 clear hb3 hth ho3
 have tok:True:=trivial
 go_wp2_with (have _t:=tok;refine wpList_store_mid rfl 35 (.tmp 2) (.tmp 5) rfl (w.heap.size+1) 0 ((ΩdL e).map bv).toArray rfl rfl HTH.out HI.out HONE.out ?_;clear tok _t)
 have hb4:=HB3.out
 rw[←List.toArray_replicate] at hb4
 have hb5:=hb4.filled ((ΩdL e).map bv).toArray.toList (by simp[HL.out])
 refine bodyPost_ret (v:=hv (ΩdL e)) (Ωn rfl rfl hb5 Tryz.underlying35 rfl (by simpa using HI.out)) rfl ⟨rfl,Ωb HO3.out _ _ (.inr (by omega)) _⟩
end
section
end
section
open Go.RowKit Go.Shelf
attribute [local go_sem ↓ high] Ωbd Ω2
theorem ΩmM{W:World}{B:Nat}{e f:Ev}{i:Nat}{v:Value}(h:EvAt W B e)(hs:(evC e).set i v=evC f):EvAt (W.setCell ⟨B,i,none⟩ v) B f:=by
 have h1:=Blk.set_ h i v
 rw[ΩnX,hs] at h1
 exact h1
theorem ΩlH(e:Ev)(hp:e.prev.length=32)(v:Int):(evC e).set 44 (.int .i64 v)=evC {e with r:=v}∧(evC e).set 45 (.int .i64 v)=evC {e with s:=v}:=by
 unfold evC
 constructor
 ·rw[Ωof _ _ (by simp)]
  simp only[ΩnD,Ωn8]
  rw[Ωof _ _ (by simp[hp])]
  simp[hp]
 ·rw[Ωof _ _ (by simp)]
  simp only[ΩnD,Ωn8]
  rw[Ωof _ _ (by simp[hp])]
  simp[hp]
end
section
open Go.RowKit Go.Shelf
attribute [local go_sem ↓ high] Ωbd Ω2
noncomputable def Ωem(x:Int)(e:Ev):Ev:={e with r:=(gp (ΩdK (expo x) (Ω6 e)):Int),s:=(sigS x (Ω6 e) (ΩdK (expo x) (Ω6 e)):Int)}
theorem Ωh5{e:Ev}(h:e.Ok)(x:Int):(Ωem x e).Ok :=by
 have h1:=Ωms 4 (ΩdK (expo x) (Ω6 e))
 have h2:=ΩjO x (Ω6 e) (ΩdK (expo x) (Ω6 e))
 rw[ΩdR] at h1
 rw[ΩaU] at h2
 refine⟨h.seq,h.kind,h.who,h.time,h.bidder,h.lot,h.n,h.other,h.sx,h.sy,h.prev,⟨?_,?_⟩,⟨?_,?_⟩⟩
 ·show _≤(gp _:Int);omega
 ·show(gp _:Int)≤_;unfold gp;omega
 ·show _≤(sigS _ _ _:Int);omega
 ·show(sigS _ _ _:Int)≤_;omega
theorem text_len{e:Ev}(he:e.Ok)(hn:e.name.size≤4398046511104)(hx:e.text.size≤4398046511104):(Ω6 e).length≤17592186044416:=by
 have l1:=ΩaD e.nums he.nums_in
 have l2:=ΩY e.prev
 have l3:=Ωan e.name.data.toList (by rw[←Ωc];omega)
 have l4:=Ωan e.text.data.toList (by rw[←Ωc];omega)
 rw[←Ωc] at l3 l4
 rw[he.prev] at l2
 have l5:e.nums.length=10:=rfl
 unfold Ω6
 simp only[ΩnA,ΩnD,Ωn8]
 omega
theorem rsignE_any(x:Int)(e:Ev)(he:e.Ok)(hn:e.name.size≤4398046511104)(hx:e.text.size≤4398046511104)(w:World):Calls Tryz.prog 38 #[.int .i64 x,.agg (evC e).toArray] w fun e' w' =>e' = .returned (.agg (evC (Ωem x e)).toArray)∧Only Ωa w w' :=by
 have hlen:=text_len he hn hx
 have htx:∀W,Only Ωa w W→Calls Tryz.prog 67 #[.agg (evC e).toArray] W (Ωq (Ω6 e) W):=fun W ho=>Ωd4 e he (by omega) (by omega) W
 have hsg:∀(t:ByteArray) W,t.data.toList=Ω6 e→Calls Tryz.prog 70 #[.int .i64 x,.string t] W fun e' w' =>e' = .returned (.agg #[.int .i64 (Ωem x e).r,.int .i64 (Ωem x e).s])∧Only Ωa W w' :=fun t W h=>by
  have h1:=ΩiY x t W (by rw[Ωc,h];exact hlen)
  rw[h] at h1
  exact h1
 obtain⟨B,eB⟩:∃B,B=w.heap.size:=⟨_,rfl⟩
 have hat:EvAt ((w.alloc (.cells (evC e).toArray tEv)).alloc (.cells (evC Ωam).toArray tEv)) B e∧EvAt ((w.alloc (.cells (evC e).toArray tEv)).alloc (.cells (evC Ωam).toArray tEv)) (B+1) Ωam∧Only Ωa w ((w.alloc (.cells (evC e).toArray tEv)).alloc (.cells (evC Ωam).toArray tEv)):=by
  have h1:=Blk.new (w.alloc (.cells (evC e).toArray tEv)) tEv (evC Ωam).toArray
  rw[Ωnw,←eB] at h1
  exact⟨by rw[eB];exact(Blk.new w _ _).alloc _,h1,((Only.refl _ _).alloc _).alloc _⟩
 obtain⟨f,ef⟩:∃f,f=Ωem x e:=⟨_,rfl⟩
 have hf:f.Ok:=by rw[ef];exact Ωh5 he x
 have hfe:({({e with r:=f.r}:Ev) with s:=f.s}:Ev)=f:=by rw[ef];rfl
 rw[←ef] at hsg⊢
 have hwB:w.heap.size≤B:=by omega
 have HAT:=Θ hat
 have HTX:=Θ htx
 have HSG:=Θ hsg
 have HF:=Θ hf
 have HFE:=Θ hfe
 have HP:=Θ he.prev
 have HEB:=Θ eB
 clear hat htx hsg he hn hx hlen hf hfe ef eB
 go_enter Tryz.func38,Tryz.ntmps38
 go_upto_region 1 with(fail)
 rw[←HEB.out]
 refine Ωf (fun Z=>EvAt Z B e∧EvAt Z (B+1) Ωam∧Only Ωa w Z) HAT.out ?_
 rintro Z ⟨hE,hZ,hO⟩
 have hl:=Ωdk hE HP.out
 have HE:=Θ hE
 have HZ:=Θ hZ
 have HO:=Θ hO
 clear hE hZ hO HAT
 go_wp2_with fail
 refine(HTX.out Z HO.out).mono ?_
 rintro e1 w1 ⟨t,rfl,ht,ho1⟩
 have HS1:=Θ (fun W=>HSG.out t W ht)
 have HO1:=Θ ho1
 clear hl ho1 ht HTX HSG
 go_wp2_with fail
 refine(HS1.out w1).mono ?_
 rintro e2 w2 ⟨rfl,ho2⟩
 have hE2:=(HE.out.only HO1.out (fun e=>e)).only ho2 (fun e=>e)
 have hZ2:=(HZ.out.only HO1.out (fun e=>e)).only ho2 (fun e=>e)
 have hO2:=(HO.out.trans HO1.out).trans ho2
 have c44:=(ΩdQ hE2 HP.out).1
 have c45:=(ΩdQ hE2 HP.out).2
 have f44:=Blk.frozen hE2 44
 have hE3:EvAt (w2.setCell ⟨B,44,none⟩ (.int .i64 f.r)) B {e with r:=f.r}:=ΩmM hE2 (ΩlH e HP.out _).1
 have f45:=Blk.frozen hE3 45
 have hE4:EvAt ((w2.setCell ⟨B,44,none⟩ (.int .i64 f.r)).setCell ⟨B,45,none⟩ (.int .i64 f.s)) B f:=by
  have h1:=ΩmM hE3 (ΩlH {e with r:=f.r} HP.out f.s).2
  rw[HFE.out] at h1
  exact h1
 have hZ4:=Blk.far (p:=⟨B,45,none⟩) (Blk.far (p:=⟨B,44,none⟩) hZ2 (show B+1≠B by omega) (.int .i64 f.r)) (show B+1≠B by omega) (.int .i64 f.s)
 have hO4:=(hO2.setCell (p:=⟨B,44,none⟩) (.inr hwB) (.int .i64 f.r)).setCell (p:=⟨B,45,none⟩) (.inr hwB) (.int .i64 f.s)
 have HE4:=Θ hE4
 have HZ4:=Θ hZ4
 have HO4:=Θ hO4
 clear hE2 hZ2 hO2 hE3 hE4 hZ4 hO4 HE HZ HO HO1 ho2 HFE
 go_upto_region 2 with(fail)
 refine Ωf (fun Z=>EvAt Z B f∧EvAt Z (B+1) Ωam∧Only Ωa w Z) ⟨HE4.out,HZ4.out,HO4.out⟩ ?_
 rintro Z4 ⟨hE5,hZ5,hO5⟩
 have hl5:=Ωdk hE5 HF.out.prev
 have hst:=Ωiv (cs:=evC Ωam) hZ5 rfl (e:=f) HF.out.prev
 have HZ6:=Θ (setCells_own hZ5 (ds:=evC f) (by rw[Ωaa HF.out.prev];rfl))
 have HO6:=Θ (Ωb hO5 (B+1) 0 (.inr (by omega)) (evC f))
 have hinf:(Tryz.prog.info? 79).map (·.size)=some (evC f).toArray.size :=by rw[ΩnJ,Ωaa HF.out.prev];kernel_rfl
 have HINF:=Θ hinf
 clear c44 c45 f44 f45 hE5 hZ5 hO5 HE4 HZ4 HO4 hinf
 go_wp2_with fail
 refine bodyPost_ret (v:= .agg (evC f).toArray) (Ωn rfl rfl HZ6.out Tryz.underlying79 rfl HINF.out) rfl ⟨rfl,HO6.out⟩
end
section
open Go.RowKit Go.Shelf
attribute [local go_sem ↓ high] Ωbd Ω2
def idxN(who:Int):Nat→List Pers→Option Nat
 |_,[]=>none
 |k,p::l=>if p.id=who then some k else idxN who (k+1) l
def idxV:Option Nat→Int
 |some k=>(k:Int)
 |none=> -1
noncomputable def verL(P:List Pers)(e:Ev):Int:=
 match P with
 |[]=>35
 |p::l=>if p.id=e.who then(if ΩcQ p.pub (Ω6 e) e.r e.s=true then 0 else 21) else verL l e
theorem ΩiO(e:Ev):∀(P:List Pers) (k:Nat),idxN e.who k P=none→verL P e=35
 |[],_,_=>rfl
 |p::l,k,h=>by
  unfold idxN at h
  by_cases hp:p.id=e.who
  ·rw[ΩnV hp] at h;cases h
  ·rw[ΩnU hp] at h
   rw[verL,ΩnU hp]
   exact ΩiO e l (k+1) h
theorem ΩiN(e:Ev):∀(P:List Pers) (k j:Nat),idxN e.who k P=some j→k≤j∧∃p,P[j-k]? =some p∧p.id=e.who∧verL P e=if ΩcQ p.pub (Ω6 e) e.r e.s=true then 0 else 21
 |[],_,_,h=>by cases h
 |p::l,k,j,h=>by
  unfold idxN at h
  by_cases hp:p.id=e.who
  ·rw[ΩnV hp,Option.some.injEq] at h
   subst h
   exact⟨Ωnv _,p,by rw[Nat.sub_self];rfl,hp,by rw[verL,ΩnV hp]⟩
  ·rw[ΩnU hp] at h
   obtain⟨h1,q,h2,h3,h4⟩:=ΩiN e l (k+1) j h
   refine⟨by omega,q,?_,h3,?_⟩
   ·rw[show j-k=(j-(k+1))+1 by omega];exact h2
   ·rw[verL,ΩnU hp];exact h4
theorem same_who(p:Pers)(B:Nat)(e:Ev)(w:World)(hE:EvAt w B e):Calls Tryz.prog 102 #[.agg #[.int .i64 p.id,.int .i64 p.role,.int .i64 p.pub],.pointer (some ⟨B,0,none⟩)] w fun e' w' =>e' = .returned (.bool (p.id==e.who))∧Only Ωa w w' :=by
 have hlt:=hE.lt
 have h2:(w.alloc (.cells #[.int .i64 p.id,.int .i64 p.role,.int .i64 p.pub] 67)).cell? ⟨B,2,none⟩=some (.int .i64 e.who):=ΩW (Blk.alloc hE _) 2
 have HLT:=Θ hlt
 clear hE hlt
 go_enter Tryz.func102,Tryz.ntmps102
 go_wp2_with fail
 go_ret
 exact⟨rfl,(Only.refl _ _).alloc _⟩
theorem index_any(P:List Pers)(e:Ev)(B:Nat)(pv:Value)(w:World)(hp:Ωa6 w pv P)(he:EvAt w B e):Calls Tryz.prog 101 #[pv,.func (.func 102) #[] #[.pointer (some ⟨B,0,none⟩)]] w fun e' w' =>e' = .returned (.int .i64 (idxV (idxN e.who 0 P)))∧Only Ωa w w' :=by
 obtain⟨A,cap,rfl,hlc,hcm,hA⟩:=hp
 have HA:=Θ hA
 have HE:=Θ he
 clear hA he
 go_enter Tryz.func101,Tryz.ntmps101
 go_wp2_with fail
 go_loopw [8] (fun i wr=>∃k:Nat,i= .int .i64 k∧k≤P.length∧idxN e.who 0 P=idxN e.who k (P.drop k)∧Only Ωa w wr) (fun i _=>P.length-(intOf i).toNat)
 case atStart=>exact⟨0,rfl,by omega,rfl,Only.refl _ _⟩
 case round=>
  obtain⟨k,rfl,hk,hst,ho⟩:=hrel
  by_cases hlt:k<P.length
  ·obtain⟨p,hp⟩:∃p,P[k]? =some p:=⟨_,Ωnu hlt⟩
   obtain⟨g,o,rfl,hg,hr⟩:=HA.out k p hp
   have hr2:=Ωcq hr ho
   have c0:wr.cell? ⟨g,o+k*3,none⟩=some (.int .i64 p.id):=hr2 0 _ rfl
   have c1:wr.cell? ⟨g,o+k*3+1,none⟩=some (.int .i64 p.role):=hr2 1 _ rfl
   have c2:wr.cell? ⟨g,o+k*3+2,none⟩=some (.int .i64 p.pub):=hr2 2 _ rfl
   have hd:P.drop k=p::P.drop (k+1):=by rw[Ωn7 hlt];rw[Ωnu hlt] at hp;rw[Option.some.inj hp]
   rw[hd] at hst
   have ik:(k:Int)<(P.length:Int):=by omega
   have ik0:(0:Int)≤(k:Int):=by omega
   have HST:=Θ hst
   have HO:=Θ ho
   clear hst ho hp hr hr2 hd
   go_wp2_with fail
   refine(same_who p B e wr (HE.out.only HO.out (fun e=>e))).mono ?_
   rintro e1 w1 ⟨rfl,ho1⟩
   have HO1:=Θ (HO.out.trans ho1)
   clear ho1 c0 c1 c2
   by_cases hw:p.id=e.who
   ·have hb:(p.id==e.who)=true:=beq_iff_eq.2 hw
    rw[hb]
    have hres:idxN e.who 0 P=some k:=by rw[HST.out,idxN,ΩnV hw]
    have HRES:=Θ hres
    clear hb hres hw
    go_wp2_with fail
    go_ret
    exact⟨by rw[HRES.out];rfl,HO1.out⟩
   ·have hb:(p.id==e.who)=false:=ΩnL.2 hw
    rw[hb]
    have hres:idxN e.who 0 P=idxN e.who (k+1) (P.drop (k+1)):=by rw[HST.out,idxN,ΩnU hw]
    have HRES:=Θ hres
    clear hb hres hw
    go_wp2_with fail
    go_roundw
    case rel=>exact⟨k+1,by go_num,by omega,HRES.out,HO1.out⟩
    case measure=>simp[intOf];omega
  ·obtain rfl:k=P.length:=by omega
   have hres:idxN e.who 0 P=none:=by rw[hst,List.drop_length,idxN]
   have HRES:=Θ hres
   have HO:=Θ ho
   clear hst ho hres
   go_wp2_with fail
   go_ret
   exact⟨by rw[HRES.out];rfl,HO.out⟩
structure VeS(w:World)(B:Nat)(pv:Value)(P:List Pers)(e:Ev)(Z:World):Prop where
 pers:Z.cell? ⟨B,0,none⟩=some pv
 sl:Ωa6 Z pv P
 ev:EvAt Z (B+1) e
 only:Only Ωa w Z
theorem VeS.keep{w Z Z' :World}{B:Nat}{pv:Value}{P:List Pers}{e:Ev}(h:VeS w B pv P e Z)(ho:Only Ωa Z Z'):VeS w B pv P e Z' :=
 ⟨ho.cell_some h.pers (fun e=>e),h.sl.only ho,h.ev.only ho (fun e=>e),h.only.trans ho⟩
theorem VeS.new(w:World)(pv v1 v2 v3 v4 v5:Value)(P:List Pers)(e:Ev)(hp:Ωa6 w pv P)(B:Nat)(hB:B=w.heap.size):VeS w B pv P e ((w.alloc (.cells #[pv,v1,v2,v3,v4,v5] 50)).alloc (.cells (evC e).toArray 79)):=by
 have h1:=Blk.new (w.alloc (.cells #[pv,v1,v2,v3,v4,v5] 50)) tEv (evC e).toArray
 rw[Ωnw,←hB] at h1
 have h2:=(Blk.new w 50 #[pv,v1,v2,v3,v4,v5]).alloc (.cells (evC e).toArray 79)
 rw[←hB] at h2
 exact⟨h2.cell 0,hp.only (((Only.refl _ _).alloc _).alloc _),h1,((Only.refl _ _).alloc _).alloc _⟩
theorem everify_any(P:List Pers)(pv v1 v2 v3 v4 v5:Value)(e:Ev)(he:e.Ok)(hn:e.name.size≤4398046511104)(hx:e.text.size≤4398046511104)(w:World)(hp:Ωa6 w pv P)(hpub:∀p∈P,In p.pub)(ht:Tab w):
  Calls Tryz.prog 61 #[.agg #[pv,v1,v2,v3,v4,v5],.agg (evC e).toArray] w fun e' w' =>e' = .returned (.int .i64 (verL P e))∧Only Ωa w w' :=by
 obtain⟨B,eB⟩:∃B,B=w.heap.size:=⟨_,rfl⟩
 have hV:=VeS.new w pv v1 v2 v3 v4 v5 P e hp B eB
 have hmf:∀(fn:Fn) (first cap:Array Value) (w:World),(Instr.makeFunc fn first cap).run Tryz.prog w= .ok (.func fn first cap) w:=fun _ _ _ _=>rfl
 have HV:=Θ hV
 have HT:=Θ ht
 have HE:=Θ he
 have HN:=Θ hn
 have HX:=Θ hx
 have HEB:=Θ eB
 have HPUB:=Θ hpub
 clear hV hp ht he hn hx eB hpub
 go_enter Tryz.func61,Tryz.ntmps61
 go_upto_region 1 with(fail)
 rw[←HEB.out]
 refine Ωf (VeS w B pv P e) HV.out ?_
 intro Z hZ
 have c0:=hZ.pers
 have HZ:=Θ hZ
 clear hZ HV
 go_wp2_with fail
 refine(index_any P e (B+1) pv Z HZ.out.sl HZ.out.ev).mono ?_
 rintro e1 w1 ⟨rfl,ho1⟩
 have HZ1:=Θ (HZ.out.keep ho1)
 clear ho1 HZ c0
 cases hi:idxN e.who 0 P with
 |none=>
  have hres:=ΩiO e P 0 hi
  have HRES:=Θ hres
  have e0:idxV none= -1:=rfl
  rw[e0]
  clear hres hi
  go_wp2_with fail
  go_ret
  exact⟨by rw[HRES.out];rfl,HZ1.out.only⟩
 |some k=>
  obtain⟨_,p,hpk,hid,hres⟩:=ΩiN e P 0 k hi
  rw[Nat.sub_zero] at hpk
  obtain⟨A,cap,rfl,hlc,hcm,hA⟩:=HZ1.out.sl
  obtain⟨g,o,rfl,hg,hr⟩:=hA k p hpk
  have hk:k<P.length:=(Ωnx.1 hpk).1
  have e0:idxV (some k)=(k:Int):=rfl
  rw[e0]
  have k0:¬(k:Int)<0:=by omega
  have k1:(0:Int)≤(k:Int):=by omega
  have k2:(k:Int)<(P.length:Int):=by omega
  have kd:decide ((k:Int)<0)=false:=Ωny k0
  obtain⟨T,hT⟩:∃T:ByteArray,T.data.toList=Ω6 e:=⟨⟨(Ω6 e).toArray⟩,by simp⟩
  have hts:T.size≤17592186044416:=by
   have l1:=ΩaD e.nums HE.out.nums_in
   have l2:=ΩY e.prev
   have hn:=HN.out
   have hx:=HX.out
   have l3:=Ωan e.name.data.toList (by rw[←Ωc];omega)
   have l4:=Ωan e.text.data.toList (by rw[←Ωc];omega)
   rw[←Ωc] at l3 l4
   rw[HE.out.prev] at l2
   have l5:e.nums.length=10:=rfl
   rw[Ωc,hT]
   unfold Ω6
   simp only[ΩnA,ΩnD,Ωn8]
   omega
  have hpp:=HPUB.out p (ΩnE hpk)
  have f1:∀W,VeS w B (.slice (some ⟨g,o,none⟩) P.length cap) P e W→Calls Tryz.prog 104 #[.agg (evC e).toArray] W (fun e' w' =>e' = .returned (.string T)∧Only Ωa W w'):=fun W h=>(Ωjs e HE.out (by have:=HN.out;omega) (by have:=HX.out;omega) W (HT.out.none h.only)).mono (by rintro e' w' ⟨t,rfl,ht,ho⟩;exact⟨by rw[ΩZ (ht.trans hT.symm)],ho⟩)
  obtain⟨gb,egb⟩:∃b,b=ΩcQ p.pub (Ω6 e) e.r e.s:=⟨_,rfl⟩
  have f2:∀W,Calls Tryz.prog 103 #[.int .i64 p.pub,.string T,.agg #[.int .i64 e.r,.int .i64 e.s]] W (fun e' w' =>e' = .returned (.bool gb)∧Only Ωa W w'):=fun W=>by
   rw[egb,←hT]
   exact Ωgc p.pub e.r e.s T W hts hpp.1 hpp.2 HE.out.r.1 HE.out.r.2
  have cp:∀W,VeS w B (.slice (some ⟨g,o,none⟩) P.length cap) P e W→W.cell? ⟨g,o+k*3+2,none⟩=some (.int .i64 p.pub):=fun W h=>by
   obtain⟨A',cap',hv,_,_,h3⟩:=h.sl
   obtain⟨g',o',hA',_,hr'⟩:=h3 k p hpk
   simp only[Value.slice.injEq] at hv
   rw[←hv.1] at hA'
   simp only[Option.some.injEq,Addr.mk.injEq,and_true] at hA'
   obtain⟨rfl,rfl⟩:=hA'
   exact hr' 2 _ rfl
  have cb:∀W,VeS w B (.slice (some ⟨g,o,none⟩) P.length cap) P e W→W.cell? ⟨B,0,none⟩=some (.slice (some ⟨g,o,none⟩) P.length cap):=fun W h=>h.pers
  have cl:∀W,VeS w B (.slice (some ⟨g,o,none⟩) P.length cap) P e W→(Ωcx (.pointer (some ⟨B+1,0,none⟩))).run Tryz.prog W= .ok (.agg (evC e).toArray) W:=fun W h=>Ωdk h.ev HE.out.prev
  have c44:∀W,VeS w B (.slice (some ⟨g,o,none⟩) P.length cap) P e W→W.cell? ⟨B+1,44,none⟩=some (.int .i64 e.r):=fun W h=>(ΩdQ h.ev HE.out.prev).1
  have c45:∀W,VeS w B (.slice (some ⟨g,o,none⟩) P.length cap) P e W→W.cell? ⟨B+1,45,none⟩=some (.int .i64 e.s):=fun W h=>(ΩdQ h.ev HE.out.prev).2
  have hS:=HZ1.out.keep (Only.refl _ _).drew
  have HKP:Hid (∀W W',VeS w B (.slice (some ⟨g,o,none⟩) P.length cap) P e W→Only Ωa W W'→VeS w B (.slice (some ⟨g,o,none⟩) P.length cap) P e W'):=Θ (fun W W' h ho=>h.keep ho)
  have F1:=Θ f1
  have F2:=Θ f2
  have HRES:=Θ hres
  have HGB:=Θ egb
  clear f1 f2 hres egb hpp hts hT hpk hid hi hA hr hk HZ1 e0
  go_upto_region 4 with(fail)
  go_region_held3 (fun w' =>VeS w B (.slice (some ⟨g,o,none⟩) P.length cap) P e w') (first|assumption)
   (first
    |(go_at_call 104;refine(F1.out _ (by assumption)).mono ?_;rintro e2 w2 ⟨rfl,ho2⟩;have hS2:=HKP.out _ _ (by assumption) ho2;clear ho2)
    |(go_at_call 103;refine(F2.out _).mono ?_;rintro e3 w3 ⟨rfl,ho3⟩;have hS3:=HKP.out _ _ (by assumption) ho3;clear ho3))
  all_goals
   have hr:=HRES.out
   rw[←HGB.out] at hr
   cases gb with
   |true=>
    rw[ΩnV rfl] at hr
    have HR:=Θ hr
    clear hr
    go_wp2_with fail
    go_ret
    exact⟨by rw[HR.out];rfl,hS3.only⟩
   |false=>
    rw[ΩnU (by simp)] at hr
    have HR:=Θ hr
    clear hr
    go_wp2_with fail
    go_ret
    exact⟨by rw[HR.out];rfl,hS3.only⟩
theorem rverifyE_any(P:List Pers)(pv v1 v2 v3 v4 v5:Value)(e:Ev)(he:e.Ok)(hn:e.name.size≤4398046511104)(hx:e.text.size≤4398046511104)(w:World)(hp:Ωa6 w pv P)(hpub:∀p∈P,In p.pub):
  Calls Tryz.prog 97 #[.agg #[pv,v1,v2,v3,v4,v5],.agg (evC e).toArray] w fun e' w' =>e' = .returned (.int .i64 (verL P e))∧Only Ωa w w' :=by
 obtain⟨B,eB⟩:∃B,B=w.heap.size:=⟨_,rfl⟩
 have hV:=VeS.new w pv v1 v2 v3 v4 v5 P e hp B eB
 obtain⟨A,cap,rfl,hlc,hcm,hA⟩:=hp
 have HV:=Θ hV
 have HE:=Θ he
 have HN:=Θ hn
 have HX:=Θ hx
 have HEB:=Θ eB
 have HPUB:=Θ hpub
 have HA:=Θ hA
 clear hV he hn hx eB hpub hA
 go_enter Tryz.func97,Tryz.ntmps97
 go_upto_region 1 with(fail)
 rw[←HEB.out]
 refine Ωf (VeS w B (.slice A P.length cap) P e) HV.out ?_
 intro Z hZ
 have HZ:=Θ hZ
 clear hZ HV
 go_wp2_with fail
 go_loopw [5] (fun i wr=>∃k:Nat,i= .int .i64 k∧k≤P.length∧verL P e=verL (P.drop k) e∧Only Ωa Z wr) (fun i _=>P.length-(intOf i).toNat)
 case atStart=>exact⟨0,rfl,by omega,rfl,Only.refl _ _⟩
 case round=>
  obtain⟨k,rfl,hk,hst,ho⟩:=hrel
  have hZr:=HZ.out.keep ho
  have cb:wr.cell? ⟨B,0,none⟩=some (.slice A P.length cap):=hZr.pers
  by_cases hlt:k<P.length
  ·obtain⟨p,hp⟩:∃p,P[k]? =some p:=⟨_,Ωnu hlt⟩
   obtain⟨g,o,rfl,hg,_⟩:=HA.out k p hp
   have hcp:∀W,VeS w B (.slice (some ⟨g,o,none⟩) P.length cap) P e W→W.rangeAt g (o+k*3) (Ωbx p):=fun W h=>by
    obtain⟨A',cap',hv,_,_,h3⟩:=h.sl
    obtain⟨g',o',hA',_,hr'⟩:=h3 k p hp
    simp only[Value.slice.injEq] at hv
    rw[←hv.1] at hA'
    simp only[Option.some.injEq,Addr.mk.injEq,and_true] at hA'
    obtain⟨rfl,rfl⟩:=hA'
    exact hr'
   have c0:wr.cell? ⟨g,o+k*3,none⟩=some (.int .i64 p.id):=hcp _ hZr 0 _ rfl
   have c2:wr.cell? ⟨B+1,2,none⟩=some (.int .i64 e.who):=ΩW hZr.ev 2
   have hd:P.drop k=p::P.drop (k+1):=by rw[Ωn7 hlt];rw[Ωnu hlt] at hp;rw[Option.some.inj hp]
   rw[hd,verL] at hst
   have ik:(k:Int)<(P.length:Int):=by omega
   have ik0:(0:Int)≤(k:Int):=by omega
   have hpp:=HPUB.out p (ΩnE hp)
   have HST:=Θ hst
   have HO:=Θ ho
   have HZR:=Θ hZr
   have HCP:=Θ hcp
   have HPP:=Θ hpp
   clear hst ho hp hd hZr hcp hpp
   by_cases hw:p.id=e.who
   ·have hb:(p.id==e.who)=true:=beq_iff_eq.2 hw
    have hres:verL P e=if ΩcQ p.pub (Ω6 e) e.r e.s=true then 0 else 21:=by rw[HST.out,ΩnV hw]
    obtain⟨T,hT⟩:∃T:ByteArray,T.data.toList=Ω6 e:=⟨⟨(Ω6 e).toArray⟩,by simp⟩
    have hts:T.size≤17592186044416:=by
     have l1:=ΩaD e.nums HE.out.nums_in
     have l2:=ΩY e.prev
     have hn:=HN.out
     have hx:=HX.out
     have l3:=Ωan e.name.data.toList (by rw[←Ωc];omega)
     have l4:=Ωan e.text.data.toList (by rw[←Ωc];omega)
     rw[←Ωc] at l3 l4
     rw[HE.out.prev] at l2
     have l5:e.nums.length=10:=rfl
     rw[Ωc,hT]
     unfold Ω6
     simp only[ΩnA,ΩnD,Ωn8]
     omega
    have f1:∀W,Calls Tryz.prog 67 #[.agg (evC e).toArray] W (fun e' w' =>e' = .returned (.string T)∧Only Ωa W w'):=fun W=>(Ωd4 e HE.out (by have:=HN.out;omega) (by have:=HX.out;omega) W).mono (by rintro e' w' ⟨t,rfl,ht,ho⟩;exact⟨by rw[ΩZ (ht.trans hT.symm)],ho⟩)
    obtain⟨gb,egb⟩:∃b,b=ΩcQ p.pub (Ω6 e) e.r e.s:=⟨_,rfl⟩
    have f2:∀W,Calls Tryz.prog 53 #[.int .i64 p.pub,.string T,.agg #[.int .i64 e.r,.int .i64 e.s]] W (fun e' w' =>e' = .returned (.bool gb)∧Only Ωa W w'):=fun W=>by
     rw[egb,←hT]
     exact Ωd2 p.pub e.r e.s T W hts HPP.out.1 HPP.out.2 HE.out.r.1 HE.out.r.2
    have HRES:=Θ hres
    have HGB:=Θ egb
    have F1:=Θ f1
    have F2:=Θ f2
    clear hres egb f1 f2 hT hts hw
    go_upto_region 4 with(fail)
    go_quiet (fail)
    have hS0:=HZR.out.keep ((Only.refl _ _).drewN nq)
    have cp:∀W,VeS w B (.slice (some ⟨g,o,none⟩) P.length cap) P e W→W.cell? ⟨g,o+k*3+2,none⟩=some (.int .i64 p.pub):=fun W h=>HCP.out W h 2 _ rfl
    have cb2:∀W,VeS w B (.slice (some ⟨g,o,none⟩) P.length cap) P e W→W.cell? ⟨B,0,none⟩=some (.slice (some ⟨g,o,none⟩) P.length cap):=fun W h=>h.pers
    have cl:∀W,VeS w B (.slice (some ⟨g,o,none⟩) P.length cap) P e W→(Ωcx (.pointer (some ⟨B+1,0,none⟩))).run Tryz.prog W= .ok (.agg (evC e).toArray) W:=fun W h=>Ωdk h.ev HE.out.prev
    have c44:∀W,VeS w B (.slice (some ⟨g,o,none⟩) P.length cap) P e W→W.cell? ⟨B+1,44,none⟩=some (.int .i64 e.r):=fun W h=>(ΩdQ h.ev HE.out.prev).1
    have c45:∀W,VeS w B (.slice (some ⟨g,o,none⟩) P.length cap) P e W→W.cell? ⟨B+1,45,none⟩=some (.int .i64 e.s):=fun W h=>(ΩdQ h.ev HE.out.prev).2
    have HKP:Hid (∀W W',VeS w B (.slice (some ⟨g,o,none⟩) P.length cap) P e W→Only Ωa W W'→VeS w B (.slice (some ⟨g,o,none⟩) P.length cap) P e W'):=Θ (fun W W' h ho=>h.keep ho)
    have HS0:=Θ hS0
    clear c0 c2 cb hS0
    go_upto_region 5 with(fail)
    refine Ωf (VeS w B (.slice (some ⟨g,o,none⟩) P.length cap) P e) HS0.out ?_
    intro Y hY
    have hS:=hY.keep (Only.refl _ _).drew
    clear hY HS0
    go_region_held3 (fun w' =>VeS w B (.slice (some ⟨g,o,none⟩) P.length cap) P e w') (first|assumption)
     (first
      |(go_at_call 67;refine(F1.out _).mono ?_;rintro e2 w2 ⟨rfl,ho2⟩;have hS2:=HKP.out _ _ (by assumption) ho2;clear ho2)
      |(go_at_call 53;refine(F2.out _).mono ?_;rintro e3 w3 ⟨rfl,ho3⟩;have hS3:=HKP.out _ _ (by assumption) ho3;clear ho3))
    all_goals
     have hr:=HRES.out
     rw[←HGB.out] at hr
     cases gb with
     |true=>
      rw[ΩnV rfl] at hr
      have HR:=Θ hr
      clear hr
      go_wp2_with fail
      go_ret
      exact⟨by rw[HR.out];rfl,hS3.only⟩
     |false=>
      rw[ΩnU (by simp)] at hr
      have HR:=Θ hr
      clear hr
      go_wp2_with fail
      go_ret
      exact⟨by rw[HR.out];rfl,hS3.only⟩
   ·have hb:(p.id==e.who)=false:=ΩnL.2 hw
    have hres:verL P e=verL (P.drop (k+1)) e:=by rw[HST.out,ΩnU hw]
    have HRES:=Θ hres
    clear hres hw
    go_upto_region 4 with(fail)
    go_quiet (fail)
    go_wp2_with fail
    go_roundw
    case rel=>exact⟨k+1,by go_num,by omega,HRES.out,HO.out.drewN _⟩
    case measure=>simp[intOf];omega
  ·obtain rfl:k=P.length:=by omega
   have hres:verL P e=35:=by rw[hst,List.drop_length,verL]
   have HRES:=Θ hres
   have HOO:=Θ hZr.only
   clear hst ho hres hZr
   go_wp2_with fail
   go_ret
   exact⟨by rw[HRES.out];rfl,HOO.out⟩
end
end Go.Proofs.YtgalfohobgjelaaGreatDoor
