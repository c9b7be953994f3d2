/- What is proved here: whether two heads agree, by the program, without growth and with the growth of lists; whether they agree by the reference. Conditions: sizes are ints, roots have 32 bytes. -/
import Derived.Test.YtoehfainhmfghaaGreatDoorQGo
import Derived.Laws.EntriesVeiled
namespace Go.Proofs.YtoehfainhmfghaaGreatDoor
open Go.RowKit Go.Shelf
attribute [local go_sem ↓ high] hdLoad_eq
theorem nil_nil (W : World) : (binOp .eql 49 .nilFunc .nilFunc).run Tryz.prog W = .ok (.bool true) W := by kernel_rfl
theorem func_nil (F : Fn) (p c : Array Value) (W : World) : (binOp .eql 49 (.func F p c) .nilFunc).run Tryz.prog W = .ok (.bool false) W := by kernel_rfl
/-- What lies there of two heads. -/
structure AgS (w : World) (B : Nat) (a b : Hd) (W : World) : Prop where
  a : HdAt W B a
  b : HdAt W (B + 1) b
  only : Only NoneOf w W
theorem AgS.new (w : World) (a b : Hd) : AgS w w.heap.size a b ((w.alloc (.cells (hdC a).toArray 25)).alloc (.cells (hdC b).toArray 25)) := by
  have h2 := Blk.new (w.alloc (.cells (hdC a).toArray 25)) tHd (hdC b).toArray
  rw [World.size_alloc] at h2
  exact ⟨(Blk.new w _ _).alloc _, h2, ((Only.refl _ _).alloc _).alloc _⟩
set_option maxRecDepth 100000 in
set_option maxHeartbeats 2000000 in
theorem agree_nil (a b : Hd) (ha : a.Ok) (hb : b.Ok) (x : Nat) (w : World) (hx : w.cell? ⟨x, 0, none⟩ = some .nilFunc) :
    Calls Tryz.prog 40 #[.agg (hdC a).toArray, .agg (hdC b).toArray, .pointer (some ⟨x, 0, none⟩)] w fun e w' => e = .returned (.bool (agB (fun _ _ => false) a b)) ∧ Only NoneOf w w' := by
  have hS := AgS.new w a b
  obtain ⟨B, eB⟩ : ∃ B, B = w.heap.size := ⟨_, rfl⟩
  rw [← eB] at hS
  have hag : agB (fun _ _ => false) a b = eqHd a b := by unfold agB; simp
  rw [hag]
  have q1 := fun W => eql_hd a b ha.root hb.root W
  obtain ⟨ε, eε⟩ : ∃ ε, ε = eqHd a b := ⟨_, rfl⟩
  rw [← eε] at q1 ⊢
  have la := ha.root
  have lb := hb.root
  have HS := Lib.hid hS
  have HX := Lib.hid hx
  have EB := Lib.hid eB
  clear hS hx eB hag eε
  go_enter Tryz.func40, Tryz.ntmps40
  go_upto_region 1 with (fail)
  rw [← EB.out]
  refine wp_gen (fun Z => AgS w B a b Z ∧ Z.cell? ⟨x, 0, none⟩ = some .nilFunc) ⟨HS.out, HS.out.only.cell_some HX.out (fun e => e)⟩ ?_
  rintro Z ⟨hZ, cx⟩
  have l1 := hd_load (blk_range hZ.a) la
  have l2 := hd_load (blk_range hZ.b) lb
  have HO := Lib.hid hZ.only
  clear hZ HS HX EB
  cases ε with
  | true =>
    go_wp2_with fail
    go_ret
    exact ⟨rfl, HO.out⟩
  | false =>
    have q2 := nil_nil
    go_wp2_with fail
    go_ret
    exact ⟨rfl, HO.out⟩
theorem agB_cases (f : Hd → Hd → Bool) (a b : Hd) : agB f a b = if eqHd a b then true else if a.size = b.size then false else if a.size < b.size then f a b else f b a := by
  cases he : eqHd a b with
  | true => unfold agB; rw [he]; rfl
  | false =>
    rw [if_neg (by decide)]
    by_cases hs : a.size = b.size
    · rw [if_pos hs]; exact agB_same f (eqHd_false.1 he) hs
    · rw [if_neg hs]
      by_cases hl : a.size < b.size
      · rw [if_pos hl]; exact agB_lt f hl
      · rw [if_neg hl]; exact agB_gt f (by omega)
set_option maxRecDepth 100000 in
set_option maxHeartbeats 2000000 in
theorem agree_grow (G : List (List Hd)) (hG : GlOk G) (gv : Value) (a b : Hd) (ha : a.Ok) (hb : b.Ok) (x : Nat) (w : World) (hg : GlSl w gv G) (hx : w.cell? ⟨x, 0, none⟩ = some (.func (.func 21) #[gv] #[])) :
    Calls Tryz.prog 40 #[.agg (hdC a).toArray, .agg (hdC b).toArray, .pointer (some ⟨x, 0, none⟩)] w fun e w' => e = .returned (.bool (agB (growB G) a b)) ∧ Only NoneOf w w' := by
  have hS := AgS.new w a b
  obtain ⟨B, eB⟩ : ∃ B, B = w.heap.size := ⟨_, rfl⟩
  rw [← eB] at hS
  rw [agB_cases]
  have q1 := fun W => eql_hd a b ha.root hb.root W
  have g1 : ∀ W, Only NoneOf w W → Calls Tryz.prog 21 #[gv, .agg (hdC a).toArray, .agg (hdC b).toArray] W fun e w' => e = .returned (.bool (growB G a b)) ∧ Only NoneOf W w' := fun W ho => growth_any G hG gv a b ha.root hb.root W (hg.only ho)
  have g2 : ∀ W, Only NoneOf w W → Calls Tryz.prog 21 #[gv, .agg (hdC b).toArray, .agg (hdC a).toArray] W fun e w' => e = .returned (.bool (growB G b a)) ∧ Only NoneOf W w' := fun W ho => growth_any G hG gv b a hb.root ha.root W (hg.only ho)
  obtain ⟨ε, eε⟩ : ∃ ε, ε = eqHd a b := ⟨_, rfl⟩
  obtain ⟨γ, eγ⟩ : ∃ γ, γ = growB G a b := ⟨_, rfl⟩
  obtain ⟨δ, eδ⟩ : ∃ δ, δ = growB G b a := ⟨_, rfl⟩
  rw [← eε] at q1
  rw [← eγ] at g1
  rw [← eδ] at g2
  rw [← eε, ← eγ, ← eδ]
  obtain ⟨ρ, eρ⟩ : ∃ ρ, ρ = (if ε = true then true else if a.size = b.size then false else if a.size < b.size then γ else δ) := ⟨_, rfl⟩
  rw [← eρ]
  have HRO := Lib.hid eρ
  have la := ha.root
  have lb := hb.root
  have HS := Lib.hid hS
  have HX := Lib.hid hx
  have EB := Lib.hid eB
  have HG1 := Lib.hid g1
  have HG2 := Lib.hid g2
  clear hS hx eB eε eγ eδ eρ g1 g2 hg hG
  go_enter Tryz.func40, Tryz.ntmps40
  go_upto_region 1 with (fail)
  rw [← EB.out]
  refine wp_gen (fun Z => AgS w B a b Z ∧ Z.cell? ⟨x, 0, none⟩ = some (.func (.func 21) #[gv] #[])) ⟨HS.out, HS.out.only.cell_some HX.out (fun e => e)⟩ ?_
  rintro Z ⟨hZ, cx⟩
  have l1 := hd_load (blk_range hZ.a) la
  have l2 := hd_load (blk_range hZ.b) lb
  have z1 : Z.cell? ⟨B, 0, none⟩ = some (.int .i64 a.size) := Blk.cell hZ.a 0
  have z2 : Z.cell? ⟨B + 1, 0, none⟩ = some (.int .i64 b.size) := Blk.cell hZ.b 0
  have HO := Lib.hid hZ.only
  clear hZ HS HX EB
  cases ε with
  | true =>
    have HR : Hid (ρ = true) := Lib.hid (by rw [HRO.out, if_pos rfl])
    go_wp2_with fail
    go_ret
    exact ⟨ret_bool HR.out.symm, HO.out⟩
  | false =>
    have q2 := func_nil
    by_cases hs : a.size = b.size
    · have d1 : (a.size == b.size) = true := by simp [hs]
      have HR : Hid (ρ = false) := Lib.hid (by rw [HRO.out]; simp [hs])
      clear hs
      go_wp2_with fail
      go_ret
      exact ⟨ret_bool HR.out.symm, HO.out⟩
    · have d1 : (a.size == b.size) = false := by simp [hs]
      by_cases hl : a.size < b.size
      · have d2 : decide (a.size < b.size) = true := decide_eq_true hl
        have HR : Hid (ρ = γ) := Lib.hid (by rw [HRO.out]; simp [hs, hl])
        clear hs
        go_wp2_with fail
        refine (HG1.out _ HO.out).mono ?_
        rintro e1 w1 ⟨rfl, ho1⟩
        have HO1 := Lib.hid (HO.out.trans ho1)
        clear ho1
        go_wp2_with fail
        go_ret
        exact ⟨ret_bool HR.out.symm, HO1.out⟩
      · have d2 : decide (a.size < b.size) = false := decide_eq_false hl
        have HR : Hid (ρ = δ) := Lib.hid (by rw [HRO.out]; simp [hs, hl])
        clear hs
        go_wp2_with fail
        refine (HG2.out _ HO.out).mono ?_
        rintro e1 w1 ⟨rfl, ho1⟩
        have HO1 := Lib.hid (HO.out.trans ho1)
        clear ho1
        go_wp2_with fail
        go_ret
        exact ⟨ret_bool HR.out.symm, HO1.out⟩
set_option maxRecDepth 100000 in
set_option maxHeartbeats 2000000 in
theorem ragree_any (G : List (List Hd)) (hG : GlOk G) (gv : Value) (a b : Hd) (ha : a.Ok) (hb : b.Ok) (w : World) (hg : GlSl w gv G) :
    Calls Tryz.prog 46 #[gv, .agg (hdC a).toArray, .agg (hdC b).toArray] w fun e w' => e = .returned (.bool (agB (growB G) a b)) ∧ Only NoneOf w w' := by
  have hS := AgS.new w a b
  obtain ⟨B, eB⟩ : ∃ B, B = w.heap.size := ⟨_, rfl⟩
  rw [← eB] at hS
  rw [agB_cases]
  have q1 := fun W => eql_hd a b ha.root hb.root W
  have g1 : ∀ W, Only NoneOf w W → Calls Tryz.prog 21 #[gv, .agg (hdC a).toArray, .agg (hdC b).toArray] W fun e w' => e = .returned (.bool (growB G a b)) ∧ Only NoneOf W w' := fun W ho => growth_any G hG gv a b ha.root hb.root W (hg.only ho)
  have g2 : ∀ W, Only NoneOf w W → Calls Tryz.prog 21 #[gv, .agg (hdC b).toArray, .agg (hdC a).toArray] W fun e w' => e = .returned (.bool (growB G b a)) ∧ Only NoneOf W w' := fun W ho => growth_any G hG gv b a hb.root ha.root W (hg.only ho)
  obtain ⟨ε, eε⟩ : ∃ ε, ε = eqHd a b := ⟨_, rfl⟩
  obtain ⟨γ, eγ⟩ : ∃ γ, γ = growB G a b := ⟨_, rfl⟩
  obtain ⟨δ, eδ⟩ : ∃ δ, δ = growB G b a := ⟨_, rfl⟩
  rw [← eε] at q1
  rw [← eγ] at g1
  rw [← eδ] at g2
  rw [← eε, ← eγ, ← eδ]
  obtain ⟨ρ, eρ⟩ : ∃ ρ, ρ = (if ε = true then true else if a.size = b.size then false else if a.size < b.size then γ else δ) := ⟨_, rfl⟩
  rw [← eρ]
  have HRO := Lib.hid eρ
  have la := ha.root
  have lb := hb.root
  have HS := Lib.hid hS
  have EB := Lib.hid eB
  have HG1 := Lib.hid g1
  have HG2 := Lib.hid g2
  clear hS eB eε eγ eδ eρ g1 g2 hg hG
  go_enter Tryz.func46, Tryz.ntmps46
  go_upto_region 1 with (fail)
  rw [← EB.out]
  refine wp_gen (AgS w B a b) HS.out ?_
  intro Z hZ
  have l1 := hd_load (blk_range hZ.a) la
  have l2 := hd_load (blk_range hZ.b) lb
  have z1 : Z.cell? ⟨B, 0, none⟩ = some (.int .i64 a.size) := Blk.cell hZ.a 0
  have z2 : Z.cell? ⟨B + 1, 0, none⟩ = some (.int .i64 b.size) := Blk.cell hZ.b 0
  have HO := Lib.hid hZ.only
  clear hZ HS EB
  cases ε with
  | true =>
    have HR : Hid (ρ = true) := Lib.hid (by rw [HRO.out, if_pos rfl])
    go_wp2_with fail
    go_ret
    exact ⟨ret_bool HR.out.symm, HO.out⟩
  | false =>
    by_cases hl : a.size < b.size
    · have d2 : decide (a.size < b.size) = true := decide_eq_true hl
      have HR : Hid (ρ = γ) := Lib.hid (by rw [HRO.out, if_neg (by decide), if_neg (by omega), if_pos hl])
      go_wp2_with fail
      refine (HG1.out _ HO.out).mono ?_
      rintro e1 w1 ⟨rfl, ho1⟩
      have HO1 := Lib.hid (HO.out.trans ho1)
      clear ho1
      go_wp2_with fail
      go_ret
      exact ⟨ret_bool HR.out.symm, HO1.out⟩
    · have d2 : decide (a.size < b.size) = false := decide_eq_false hl
      by_cases hs : a.size = b.size
      · have d1 : decide (b.size < a.size) = false := decide_eq_false (by omega)
        have HR : Hid (ρ = false) := Lib.hid (by rw [HRO.out]; simp [hs])
        clear hs
        go_wp2_with fail
        go_ret
        exact ⟨ret_bool HR.out.symm, HO.out⟩
      · have d1 : decide (b.size < a.size) = true := decide_eq_true (by omega)
        have HR : Hid (ρ = δ) := Lib.hid (by rw [HRO.out]; simp [hs, hl])
        clear hs
        go_wp2_with fail
        refine (HG2.out _ HO.out).mono ?_
        rintro e1 w1 ⟨rfl, ho1⟩
        have HO1 := Lib.hid (HO.out.trans ho1)
        clear ho1
        go_wp2_with fail
        go_ret
        exact ⟨ret_bool HR.out.symm, HO1.out⟩
end Go.Proofs.YtoehfainhmfghaaGreatDoor
