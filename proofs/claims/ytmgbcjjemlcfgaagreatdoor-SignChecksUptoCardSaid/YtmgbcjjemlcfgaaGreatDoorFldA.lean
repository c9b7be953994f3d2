/- What is proved here: the field's sums and products. Conditions: the modulus is positive. -/
import Derived.Test.YtmgbcjjemlcfgaaGreatDoorDiv
namespace Go.Proofs.YtmgbcjjemlcfgaaGreatDoor
open Go.RowKit Go.Shelf
theorem rem64_any (hi lo y : Nat) (hh : hi < 18446744073709551616) (hl : lo < 18446744073709551616) (hy0 : 0 < y) (hy : y < 18446744073709551616) (w : World) :
    Calls Tryz.prog 53 #[.int .u64 hi, .int .u64 lo, .int .u64 y] w fun e w' => e = .returned (.int .u64 (((hi * 18446744073709551616 + lo) % y : Nat) : Int)) ∧ ∃ k, w' = w.drewN k := by
  obtain ⟨m, em⟩ : ∃ m, m = hi % y := ⟨_, rfl⟩
  have hm : m < y := by rw [em]; exact Nat.mod_lt _ hy0
  have e1 : (hi : Int) % (y : Int) = (m : Int) := by rw [em]; simp
  have e0 : ¬ (y : Int) = 0 := by omega
  have hres : (hi * 18446744073709551616 + lo) % y = (m * 18446744073709551616 + lo) % y := by
    rw [em]; simp [Nat.add_mod, Nat.mul_mod]
  rw [hres]
  have HM := Lib.hid hm
  clear em hres hm
  go_enter Tryz.func53, Tryz.ntmps53
  go_wp2_with fail
  refine (div64_any m lo y HM.out hl hy w).mono ?_
  rintro e w1 ⟨rfl, k, hw⟩
  have HW := Lib.hid hw
  clear hw
  go_wp2_with fail
  go_ret
  exact ⟨rfl, k, HW.out⟩
theorem fmul_any (x y p : Nat) (hx : x < 18446744073709551616) (hy : y < 18446744073709551616) (hp0 : 0 < p) (hp : p < 18446744073709551616) (w : World) :
    Calls Tryz.prog 37 #[.int .u64 x, .int .u64 y, .int .u64 p] w fun e w' => e = .returned (.int .u64 ((x * y % p : Nat) : Int)) ∧ ∃ k, w' = w.drewN k := by
  have h1 : x * y / 18446744073709551616 < 18446744073709551616 := by
    refine Nat.div_lt_of_lt_mul ?_
    exact Nat.mul_lt_mul'' hx hy
  have h2 : x * y % 18446744073709551616 < 18446744073709551616 := Nat.mod_lt _ (by omega)
  have h3 := Nat.div_add_mod' (x * y) 18446744073709551616
  obtain ⟨H, eH⟩ : ∃ H, H = x * y / 18446744073709551616 := ⟨_, rfl⟩
  obtain ⟨L, eL⟩ : ∃ L, L = x * y % 18446744073709551616 := ⟨_, rfl⟩
  have c := Tryz.bits_Mul64 x y hx hy w
  rw [← eH, ← eL] at h3 c
  rw [← eH] at h1
  rw [← eL] at h2
  have C := Lib.hid c
  have H1 := Lib.hid h1
  have H2 := Lib.hid h2
  have H3 := Lib.hid h3
  clear eH eL c h1 h2 h3
  go_enter Tryz.func37, Tryz.ntmps37
  go_wp2_with fail
  refine C.out.mono ?_
  rintro e w' ⟨rfl, hw⟩
  rw [hw]
  go_wp2_with fail
  refine (rem64_any H L p H1.out H2.out hp0 hp w).mono ?_
  rintro e w1 ⟨rfl, k, hw1⟩
  have HW := Lib.hid hw1
  rw [H3.out]
  clear hw1 hw
  go_wp2_with fail
  go_ret
  exact ⟨rfl, k, HW.out⟩
theorem fadd_any (x y p : Nat) (hx : x < p) (hy : y < p) (hp : p < 9223372036854775808) (w : World) :
    Calls Tryz.prog 43 #[.int .u64 x, .int .u64 y, .int .u64 p] w fun e w' => e = .returned (.int .u64 (((x + y) % p : Nat) : Int)) ∧ w' = w := by
  obtain ⟨s, es⟩ : ∃ s, s = x + y := ⟨_, rfl⟩
  obtain ⟨m, em⟩ : ∃ m, m = s % p := ⟨_, rfl⟩
  have e1 : IntKind.u64.wrap ((x : Int) + (y : Int)) = (s : Int) := by rw [show (x : Int) + (y : Int) = (s : Int) by omega]; exact Mul64.wrapN _ (by omega)
  have e2 : (s : Int) % (p : Int) = (m : Int) := by rw [em]; simp
  have e0 : ¬ (p : Int) = 0 := by omega
  rw [← es, ← em]
  clear es em
  go_enter Tryz.func43, Tryz.ntmps43
  go_wp2_with fail
  go_ret
  exact ⟨by show Ending.returned (.int .u64 ((s : Int) % (p : Int))) = _; rw [e2], rfl⟩
/-- The residue as a natural number. -/
def res (a p : Int) : Nat := (a % p).toNat
theorem res_lt {a p : Int} (h : 0 < p) : (res a p : Int) < p := by
  unfold res
  have := Int.emod_nonneg a (show p ≠ 0 by omega)
  have := Int.emod_lt_of_pos a h
  omega
theorem res_eq {a p : Int} (h : 0 < p) : (res a p : Int) = a % p := by
  unfold res
  have := Int.emod_nonneg a (show p ≠ 0 by omega)
  omega
theorem residue_any (a p : Int) (_h0 : -9223372036854775808 ≤ a) (_h1 : a ≤ 9223372036854775807) (hp0 : 0 < p) (hp : p ≤ 9223372036854775807) (w : World) :
    Calls Tryz.prog 35 #[.int .i64 a, .int .i64 p] w fun e w' => e = .returned (.int .u64 (res a p : Int)) ∧ w' = w := by
  obtain ⟨m, em⟩ : ∃ m, m = a.tmod p := ⟨_, rfl⟩
  have hm1 : -p < m ∧ m < p := by
    rw [em]; exact ⟨Int.lt_tmod_of_pos a hp0, Int.tmod_lt_of_pos a hp0⟩
  have hm2 : (res a p : Int) = if m < 0 then m + p else m := by
    rw [res_eq hp0, em, Int.tmod_eq_emod]
    have := Int.emod_nonneg a (show p ≠ 0 by omega)
    have := Int.emod_lt_of_pos a hp0
    have hab : (p.natAbs : Int) = p := by omega
    split <;> split <;> omega
  have e1 : IntKind.i64.wrap (a.tmod p) = m := by rw [← em]; exact IntWalk.i64_in _ (by omega)
  have e2 : IntKind.i64.wrap m = m := IntWalk.i64_in _ (by omega)
  have e0 : ¬ p = 0 := by omega
  obtain ⟨g, eg⟩ : ∃ g, g = (res a p : Int) := ⟨_, rfl⟩
  rw [← eg] at hm2 ⊢
  have hg : 0 ≤ g := by rw [eg]; omega
  have em' := em.symm
  clear eg em
  go_enter Tryz.func35, Tryz.ntmps35
  go_wp2_with fail
  · go_ret
    exact ⟨by rw [show g = m + p by rw [hm2]; split <;> omega]; rfl, rfl⟩
  · go_ret
    exact ⟨by rw [show g = m by rw [hm2]; split <;> omega]; rfl, rfl⟩
theorem res_lt' {a p : Int} (h : 0 < p) : res a p < p.toNat := by have := res_lt (a := a) h; omega
theorem fMul_any (a b p : Int) (h0 : -9223372036854775808 ≤ a) (h1 : a ≤ 9223372036854775807) (k0 : -9223372036854775808 ≤ b) (k1 : b ≤ 9223372036854775807) (hp0 : 0 < p) (hp : p ≤ 9223372036854775807) (w : World) :
    Calls Tryz.prog 21 #[.int .i64 a, .int .i64 b, .int .i64 p] w fun e w' => e = .returned (.int .i64 (a * b % p)) ∧ ∃ k, w' = w.drewN k := by
  obtain ⟨P, rfl⟩ : ∃ P : Nat, p = (P : Int) := ⟨p.toNat, by omega⟩
  have hx := res_lt (a := a) hp0
  have hy := res_lt (a := b) hp0
  have ha := residue_any a P h0 h1 hp0 hp
  have hb := residue_any b P k0 k1 hp0 hp
  have hr : a * b % (P : Int) = ((res a P * res b P % P : Nat) : Int) := by
    rw [Int.natCast_emod, Int.natCast_mul, res_eq hp0, res_eq hp0, Int.mul_emod]
  rw [hr]
  obtain ⟨x, ex⟩ : ∃ x, x = res a P := ⟨_, rfl⟩
  obtain ⟨y, ey⟩ : ∃ y, y = res b P := ⟨_, rfl⟩
  rw [← ex] at hx ha ⊢
  rw [← ey] at hy hb ⊢
  have hm : x * y % P < P := Nat.mod_lt _ (by omega)
  have hc := fmul_any x y P (by omega) (by omega) (by omega) (by omega)
  obtain ⟨m, em⟩ : ∃ m, m = x * y % P := ⟨_, rfl⟩
  rw [← em] at hm hc ⊢
  have HA := Lib.hid ha
  have HB := Lib.hid hb
  have HC := Lib.hid hc
  have wp : IntKind.u64.wrap (P : Int) = (P : Int) := Mul64.wrapN _ (by omega)
  have wm : IntKind.i64.wrap (m : Int) = (m : Int) := IntWalk.i64_in _ (by omega)
  have hp1 : ¬ (P : Int) < 1 := by omega
  clear hr ex ey em ha hb hc
  go_enter Tryz.func21, Tryz.ntmps21
  go_wp2_with (go_at_call 35; first | (refine (HA.out _).mono ?_; rintro e w' ⟨rfl, hw⟩; rw [hw]; clear hw HA) | (refine (HB.out _).mono ?_; rintro e w' ⟨rfl, hw⟩; rw [hw]; clear hw HB))
  refine (HC.out w).mono ?_
  rintro e w1 ⟨rfl, k, hw1⟩
  have HW := Lib.hid hw1
  clear hw1
  go_wp2_with fail
  go_ret
  exact ⟨rfl, k, HW.out⟩
theorem fAdd_any (a b p : Int) (h0 : -9223372036854775808 ≤ a) (h1 : a ≤ 9223372036854775807) (k0 : -9223372036854775808 ≤ b) (k1 : b ≤ 9223372036854775807) (hp0 : 0 < p) (hp : p ≤ 9223372036854775807) (w : World) :
    Calls Tryz.prog 28 #[.int .i64 a, .int .i64 b, .int .i64 p] w fun e w' => e = .returned (.int .i64 ((a + b) % p)) ∧ w' = w := by
  obtain ⟨P, rfl⟩ : ∃ P : Nat, p = (P : Int) := ⟨p.toNat, by omega⟩
  have hx := res_lt (a := a) hp0
  have hy := res_lt (a := b) hp0
  have ha := residue_any a P h0 h1 hp0 hp
  have hb := residue_any b P k0 k1 hp0 hp
  have hr : (a + b) % (P : Int) = (((res a P + res b P) % P : Nat) : Int) := by
    rw [Int.natCast_emod, Int.natCast_add, res_eq hp0, res_eq hp0, Int.add_emod]
  rw [hr]
  obtain ⟨x, ex⟩ : ∃ x, x = res a P := ⟨_, rfl⟩
  obtain ⟨y, ey⟩ : ∃ y, y = res b P := ⟨_, rfl⟩
  rw [← ex] at hx ha ⊢
  rw [← ey] at hy hb ⊢
  have hm : (x + y) % P < P := Nat.mod_lt _ (by omega)
  have hc := fadd_any x y P (by omega) (by omega) (by omega)
  obtain ⟨m, em⟩ : ∃ m, m = (x + y) % P := ⟨_, rfl⟩
  rw [← em] at hm hc ⊢
  have HA := Lib.hid ha
  have HB := Lib.hid hb
  have HC := Lib.hid hc
  have wp : IntKind.u64.wrap (P : Int) = (P : Int) := Mul64.wrapN _ (by omega)
  have wm : IntKind.i64.wrap (m : Int) = (m : Int) := IntWalk.i64_in _ (by omega)
  have hp1 : ¬ (P : Int) < 1 := by omega
  clear hr ex ey em ha hb hc
  go_enter Tryz.func28, Tryz.ntmps28
  go_wp2_with (go_at_call 35; first | (refine (HA.out _).mono ?_; rintro e w' ⟨rfl, hw⟩; rw [hw]; clear hw HA) | (refine (HB.out _).mono ?_; rintro e w' ⟨rfl, hw⟩; rw [hw]; clear hw HB))
  refine (HC.out w).mono ?_
  rintro e w1 ⟨rfl, hw1⟩
  rw [hw1]
  clear hw1
  go_wp2_with fail
  go_ret
  exact ⟨rfl, rfl⟩
end Go.Proofs.YtmgbcjjemlcfgaaGreatDoor
