/- What is proved here: the text of an integer by the reference is its decimal form. Conditions: the integer has 64 bits. -/
import Derived.Test.YtdgapomeenigbaaDoorRefF
namespace Go.Proofs.YtdgapomeenigbaaDoor
open Go.RowKit
theorem small_yes (n : Int) (h0 : -1000000000 < n) (h1 : n < 1000000000) (w : World) :
    Calls Tryd.prog 59 #[.int .i64 n] w fun e w' => e = .returned (.bool true) ∧ w' = w := by
  go_enter Tryd.func59, Tryd.ntmps59
  go_wp2_with fail
  go_ret
  exact ⟨rfl, rfl⟩
theorem small_no (n : Int) (h : ¬ (-1000000000 < n ∧ n < 1000000000)) (w : World) :
    Calls Tryd.prog 59 #[.int .i64 n] w fun e w' => e = .returned (.bool false) ∧ w' = w := by
  by_cases h1 : -1000000000 < n
  · have h2 : ¬ n < 1000000000 := fun e => h ⟨h1, e⟩
    have h3 : decide (n < 1000000000) = false := decide_eq_false h2
    clear h
    go_enter Tryd.func59, Tryd.ntmps59
    go_wp2_with fail
    go_ret
    exact ⟨rfl, rfl⟩
  · have h3 : decide (-1000000000 < n) = false := decide_eq_false h1
    clear h
    go_enter Tryd.func59, Tryd.ntmps59
    go_wp2_with fail
    go_ret
    exact ⟨rfl, rfl⟩
theorem new_rat {W W' : World} (ho : Only NoneOf (W.alloc (.cells #[.int .i64 0, .int .i64 0] 58)) W') : Blk W' W.heap.size 58 #[.int .i64 0, .int .i64 0] := (Blk.new W _ _).only ho (fun e => e)
theorem only_of_drew' {S : Nat → Prop} {w w' : World} (h : Only S w.drew w') : Only S w w' := ⟨h.os, h.tape, h.output, h.size, h.block⟩
theorem of_one (w : World) : Calls Tryd.prog 62 #[.int .i64 1] w fun e w' => ∃ v, e = .returned (bigV false v) ∧ Rd w' v [1] ∧ Only NoneOf w w' :=
  (of_any 1 (by omega) (by omega) w).mono fun _ _ ⟨v, he, hv, ho⟩ => ⟨v, he, by rw [show (1 : Int).natAbs = 1 from rfl, dg16_one] at hv; exact hv, ho⟩
theorem only_set2 {w W : World} (h : Only NoneOf w W) {b : Nat} (hb : w.heap.size ≤ b) (u v : Value) : Only NoneOf w ((W.setCell ⟨b, 0, none⟩ u).setCell ⟨b, 1, none⟩ v) :=
  (h.setCell (.inr hb) _).setCell (.inr hb) _
set_option maxRecDepth 100000 in
set_option maxHeartbeats 1000000 in
theorem right_one (n : Int) (h0 : -9223372036854775808 ≤ n) (h1 : n ≤ 9223372036854775807) (w : World) :
    Calls Tryd.prog 47 #[ratV n 1] w fun e w' => e = .returned (.bool true) ∧ Only NoneOf w w' := by
  have hb := Blk.new w 58 #[.int .i64 n, .int .i64 1]
  have HB := Lib.hid hb
  have c0 : (w.alloc (.cells #[.int .i64 n, .int .i64 1] 58)).cell? ⟨w.heap.size, 0, none⟩ = some (.int .i64 n) := hb.cell 0
  have c1 : (w.alloc (.cells #[.int .i64 n, .int .i64 1] 58)).cell? ⟨w.heap.size, 1, none⟩ = some (.int .i64 1) := hb.cell 1
  clear hb
  by_cases hs : -1000000000 < n ∧ n < 1000000000
  · obtain ⟨s0, s1⟩ := hs
    go_enter Tryd.func47, Tryd.ntmps47
    go_wp2_with (go_at_call 59; first | ((with_reducible refine (small_yes n s0 s1 _).mono ?_); rintro e w' ⟨rfl, rfl⟩) | ((with_reducible refine (small_yes 1 (by omega) (by omega) _).mono ?_); rintro e w' ⟨rfl, rfl⟩))
    go_region_held3 (fun w' => w'.cell? ⟨w.heap.size, 0, none⟩ = some (.int .i64 n) ∧ w'.cell? ⟨w.heap.size, 1, none⟩ = some (.int .i64 1)) (first | assumption | exact ⟨c0, c1⟩ | (refine ⟨?_, ?_⟩ <;> assumption) | go_keep)
      (first | (go_at_call 60; (with_reducible refine (quick_one n s0 s1 _).mono ?_); rintro e w9 ⟨rfl, ho9⟩; have s0' := ho9.cell_some c0 (fun e => e); have s1' := ho9.cell_some c1 (fun e => e); have HO9 := Lib.hid ho9; clear ho9))
    all_goals
      go_wp2_with fail
      go_ret
      exact ⟨rfl, ((Only.refl NoneOf w).alloc _).trans (only_of_drew' HO9.out)⟩
  · have hd := small_no n hs
    have HD := Lib.hid hd
    have hn0 : n ≠ 0 := fun e => hs (by omega)
    have HN0 := Lib.hid hn0
    clear hs hd hn0
    go_enter Tryd.func47, Tryd.ntmps47
    go_wp2_with (go_at_call 59; (with_reducible refine (HD.out _).mono ?_); rintro e w' ⟨rfl, rfl⟩)
    obtain ⟨B, eB⟩ : ∃ B, B = w.heap.size := ⟨_, rfl⟩
    obtain ⟨X, eX⟩ : ∃ X, X = w.alloc (.cells #[.int .i64 n, .int .i64 1] 58) := ⟨_, rfl⟩
    rw [← eX, ← eB] at c0 c1
    rw [← eX, ← eB]
    have HXX : Hid (Only NoneOf w X) := Lib.hid (by rw [eX]; exact (Only.refl _ _).alloc _)
    have HNN := Lib.hid (of_any n h0 h1)
    have H0 := Lib.hid h0
    have H1 := Lib.hid h1
    have n0 := World.new_ne X _ c0
    have n1 := World.new_ne X _ c1
    clear eX eB HB HD h0 h1
    go_region_held3 (fun w' => w'.cell? ⟨B, 0, none⟩ = some (.int .i64 n) ∧ w'.cell? ⟨B, 1, none⟩ = some (.int .i64 1)) (first | assumption | exact ⟨c0, c1⟩ | (refine ⟨?_, ?_⟩ <;> assumption) | go_keep)
      (first
        | (go_at_call 62; (with_reducible refine (HNN.out _).mono ?_); rintro e w2 ⟨v2, rfl, hv2, ho2⟩; have HO2 : Hid (Only NoneOf X w2) := Lib.hid (by first | exact (Only.refl NoneOf X).drew.trans ho2 | exact ((Only.refl NoneOf X).alloc _).drew.trans ho2); have s0 := HO2.out.cell_some c0 (fun e => e); have s1 := HO2.out.cell_some c1 (fun e => e); have n2 := World.new_ne w2 _ s0; have n3 := World.new_ne w2 _ s1; have HV2 := Lib.hid hv2; (try (have k2 := new_rat (only_of_drew' ho2); have r0 := k2.cell 0; have r1 := k2.cell 1; have f0 := k2.frozen 0; have f1 := k2.frozen 1; have K2 := Lib.hid k2; clear k2)); clear hv2 ho2)
        | (go_at_call 62; (with_reducible refine (of_one _).mono ?_); rintro e w3 ⟨v3, rfl, hv3, ho3⟩; have HO3 : Hid (Only NoneOf X w3) := Lib.hid (by first | exact HO2.out.trans ho3 | exact (HO2.out.alloc _).trans ho3); have s2 := HO3.out.cell_some c0 (fun e => e); have s3 := HO3.out.cell_some c1 (fun e => e); have n4 := World.new_ne w3 _ s2; have n5 := World.new_ne w3 _ s3; have HV3 := Lib.hid hv3; have HV23 := Lib.hid (HV2.out.only (by first | exact ho3 | exact ((Only.refl NoneOf w2).alloc _).trans ho3)); (first | (have K3 := Lib.hid (K2.out.only ho3 (fun e => e)); have r2 := K3.out.cell 0; have r3 := K3.out.cell 1; have f2 := K3.out.frozen 0; have f3 := K3.out.frozen 1) | (have K3 := Lib.hid (new_rat ho3); have r2 := K3.out.cell 0; have r3 := K3.out.cell 1; have f2 := K3.out.frozen 0; have f3 := K3.out.frozen 1) | skip); clear hv3 ho3)
        | (go_at_call 61; (with_reducible refine (lowest_one n H0.out H1.out HN0.out (by first | exact HV23.out | exact HV23.out.only ((Only.refl NoneOf w3).alloc _)) (by first | exact HV3.out | exact HV3.out.only ((Only.refl NoneOf w3).alloc _))).mono ?_); rintro e w4 ⟨rfl, ho4⟩; have HO4 : Hid (Only NoneOf X w4) := Lib.hid (by first | exact HO3.out.trans ho4 | exact (HO3.out.alloc _).trans ho4); have s4 := HO4.out.cell_some c0 (fun e => e); have s5 := HO4.out.cell_some c1 (fun e => e); have n6 := World.new_ne w4 _ s4; have n7 := World.new_ne w4 _ s5; (first | (have K4 := Lib.hid (K3.out.only ho4 (fun e => e)); have r4 := K4.out.cell 0; have r5 := K4.out.cell 1; have f4 := K4.out.frozen 0; have f5 := K4.out.frozen 1) | (have K4 := Lib.hid (new_rat ho4); have r4 := K4.out.cell 0; have r5 := K4.out.cell 1; have f4 := K4.out.frozen 0; have f5 := K4.out.frozen 1) | skip); clear ho4))
    all_goals
      go_wp2_with fail
      have z1 := HXX.out.size
      have z2 := HO2.out.size
      have z3 := HO3.out.size
      have z4 := HO4.out.size
      go_ret
      first
        | exact ⟨rfl, (HXX.out.trans HO4.out).alloc _⟩
        | exact ⟨rfl, only_set2 (HXX.out.trans HO4.out) (by omega) _ _⟩
set_option maxHeartbeats 400000 in
theorem text_one (n : Int) (h0 : -9223372036854775808 ≤ n) (h1 : n ≤ 9223372036854775807) (w : World) :
    Calls Tryd.prog 34 #[ratV n 1] w (RetStr (Lib.itoa n) w) := by
  obtain ⟨X, eX⟩ : ∃ X, X = w.alloc (.cells #[.int .i64 n, .int .i64 1] 58) := ⟨_, rfl⟩
  obtain ⟨B, eB⟩ : ∃ B, B = w.heap.size := ⟨_, rfl⟩
  have hb := Blk.new w 58 #[.int .i64 n, .int .i64 1]
  rw [← eX, ← eB] at hb
  have HXX : Hid (Only NoneOf w X) := Lib.hid (by rw [eX]; exact (Only.refl _ _).alloc _)
  have HR := Lib.hid (right_one n h0 h1 X)
  have HD := Lib.hid (decimal_any n h0 h1)
  have HB := Lib.hid hb
  have c0 : X.cell? ⟨B, 0, none⟩ = some (.int .i64 n) := hb.cell 0
  have c1 : X.cell? ⟨B, 1, none⟩ = some (.int .i64 1) := hb.cell 1
  rw [eX, eB] at c0 c1
  clear hb h0 h1
  go_enter Tryd.func34, Tryd.ntmps34
  go_wp2_with fail
  rw [← eX, ← eB]
  clear c0 c1 eX eB
  refine HR.out.mono ?_
  rintro e w1 ⟨rfl, ho1⟩
  have c0 : w1.cell? ⟨B, 0, none⟩ = some (.int .i64 n) := (HB.out.only ho1 (fun e => e)).cell 0
  have c1 : w1.cell? ⟨B, 1, none⟩ = some (.int .i64 1) := (HB.out.only ho1 (fun e => e)).cell 1
  have HO1 := Lib.hid (HXX.out.trans ho1)
  clear ho1
  go_wp2_with fail
  refine (HD.out _).mono ?_
  rintro e w2 ⟨t, rfl, ht, ho2⟩
  have HT := Lib.hid ht
  have HO2 := Lib.hid (HO1.out.trans ho2)
  clear ht ho2 c0 c1
  go_wp2_with fail
  go_ret
  exact RetStr.mk HT.out HO2.out
end Go.Proofs.YtdgapomeenigbaaDoor
