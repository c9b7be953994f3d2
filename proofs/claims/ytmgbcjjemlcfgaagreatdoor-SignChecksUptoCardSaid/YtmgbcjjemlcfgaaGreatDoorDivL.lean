/- What is proved here: plain arithmetic behind the division of two words by one; no function of the program. No conditions. -/
import Derived.Test.YtmgbcjjemlcfgaaGreatDoorRows
import Derived.Laws.Bits64b
import Derived.Shelf.Bits.Mul64
import Derived.Lib.BitFns
namespace Go.Proofs.YtmgbcjjemlcfgaaGreatDoor
open Go.RowKit

theorem bitLen_both (n : Nat) : ∀ y, 0 < y → y < 2 ^ n → n ≤ 64 → y < 2 ^ Lib.bitLen y ∧ 2 ^ Lib.bitLen y ≤ 2 * y := by
  induction n with
  | zero => intro y h0 h1 _; simp at h1; omega
  | succ n ih =>
    intro y h0 h1 hn
    have h64 : y < 2 ^ 64 := Nat.lt_of_lt_of_le h1 (Nat.pow_le_pow_right (by omega) hn)
    rw [Lib.bitLen_half y (by omega) h64]
    by_cases h2 : y / 2 = 0
    · obtain rfl : y = 1 := by omega
      decide +kernel
    · have := ih (y / 2) (by omega) (by rw [Nat.pow_succ] at h1; omega) (by omega)
      rw [Nat.add_comm, Nat.pow_succ]
      omega
theorem norm_of (y : Nat) (h0 : 0 < y) (hy : y < 18446744073709551616) : ∃ s : Nat, (64 - (Lib.bitLen y : Int) : Int) = (s : Int) ∧ s ≤ 63 ∧ y * 2 ^ s < 18446744073709551616 ∧ 9223372036854775808 ≤ y * 2 ^ s := by
  obtain ⟨h1, h2⟩ := bitLen_both 64 y h0 (by omega) (by omega)
  have h3 : Lib.bitLen y ≤ 64 := Lib.bitLen_le y 64 (by omega) (by omega)
  have h4 : Lib.bitLen y ≠ 0 := by intro e; rw [e] at h1; simp at h1; omega
  refine ⟨64 - Lib.bitLen y, by omega, by omega, ?_, ?_⟩
  · have e : 2 ^ Lib.bitLen y * 2 ^ (64 - Lib.bitLen y) = 18446744073709551616 := by rw [← Nat.pow_add, show Lib.bitLen y + (64 - Lib.bitLen y) = 64 by omega]
    rw [← e]
    exact Nat.mul_lt_mul_of_pos_right h1 (Nat.two_pow_pos _)
  · have e : 2 ^ Lib.bitLen y * 2 ^ (64 - Lib.bitLen y) = 18446744073709551616 := by rw [← Nat.pow_add, show Lib.bitLen y + (64 - Lib.bitLen y) = 64 by omega]
    have := Nat.mul_le_mul_right (2 ^ (64 - Lib.bitLen y)) h2
    rw [e, Nat.mul_assoc] at this
    omega
/-- One digit of the school division: what a trial may be. -/
structure Trial (A B D U : Nat) (q r : Nat) : Prop where
  sum : q * A + r = U
  least : (U * 4294967296 + D) / (A * 4294967296 + B) ≤ q
  most : q ≤ 4294967297
section
variable {A B D U q r : Nat}
theorem digit_lt (hU : U < A * 4294967296 + B) (hD : D < 4294967296) : (U * 4294967296 + D) / (A * 4294967296 + B) < 4294967296 := by
  refine Nat.div_lt_of_lt_mul ?_
  have := Nat.mul_le_mul_right 4294967296 (show U + 1 ≤ A * 4294967296 + B from hU)
  omega
theorem Trial.start (hA : 2147483648 ≤ A) (hB : B < 4294967296) (hD : D < 4294967296) (hU : U < A * 4294967296 + B) : Trial A B D U (U / A) (U % A) := by
  have h1 := Nat.div_add_mod' U A
  refine ⟨h1, ?_, ?_⟩
  · refine (Nat.le_div_iff_mul_le (by omega)).2 ?_
    obtain ⟨T, eT⟩ : ∃ T, T = (U * 4294967296 + D) / (A * 4294967296 + B) := ⟨_, rfl⟩
    rw [← eT]
    have h2 : T * (A * 4294967296 + B) ≤ U * 4294967296 + D := by rw [eT]; exact Nat.div_mul_le_self _ _
    rw [Nat.mul_add, ← Nat.mul_assoc] at h2
    obtain ⟨p, ep⟩ : ∃ p, p = T * A := ⟨_, rfl⟩
    obtain ⟨p', ep'⟩ : ∃ p', p' = T * B := ⟨_, rfl⟩
    rw [← ep, ← ep'] at h2
    rw [← ep]
    omega
  · have h3 : U / A ≤ (A * 4294967296 + 4294967296) / A := Nat.div_le_div_right (by omega)
    have h4 : (A * 4294967296 + 4294967296) / A = 4294967296 + 4294967296 / A := by rw [Nat.mul_add_div (by omega)]
    have h5 : 4294967296 / A ≤ 4294967296 / 2147483648 := Nat.div_le_div_left hA (by omega)
    have h6 : U / A < 4294967298 := by
      refine (Nat.div_lt_iff_lt_mul (by omega)).2 ?_
      omega
    omega
theorem Trial.less (h : Trial A B D U q r) (hD : D < 4294967296) (hU : U < A * 4294967296 + B) (ht : 4294967296 ≤ q ∨ 4294967296 * r + D < q * B) : 1 ≤ q ∧ Trial A B D U (q - 1) (r + A) := by
  have hlt := digit_lt hU hD
  obtain ⟨T, eT⟩ : ∃ T, T = (U * 4294967296 + D) / (A * 4294967296 + B) := ⟨_, rfl⟩
  have h2 : T * (A * 4294967296 + B) ≤ U * 4294967296 + D := by rw [eT]; exact Nat.div_mul_le_self _ _
  have hl := h.least
  have hs := h.sum
  have hm := h.most
  rw [← eT] at hlt hl
  have hne : T ≠ q := by
    rintro rfl
    rcases ht with ht | ht
    · omega
    · rw [Nat.mul_add, ← Nat.mul_assoc] at h2
      obtain ⟨p, ep⟩ : ∃ p, p = T * A := ⟨_, rfl⟩
      obtain ⟨p', ep'⟩ : ∃ p', p' = T * B := ⟨_, rfl⟩
      rw [← ep, ← ep'] at h2
      rw [← ep] at hs
      rw [← ep'] at ht
      omega
  refine ⟨by omega, ?_, by rw [← eT]; omega, by omega⟩
  obtain ⟨j, rfl⟩ : ∃ j, q = j + 1 := ⟨q - 1, by omega⟩
  rw [Nat.add_mul] at hs
  simp only [Nat.add_sub_cancel]
  omega
theorem Trial.right (h : Trial A B D U q r) (hY : 0 < A * 4294967296 + B) (ht : q * B ≤ 4294967296 * r + D) : q = (U * 4294967296 + D) / (A * 4294967296 + B) := by
  refine Nat.le_antisymm ?_ h.least
  refine (Nat.le_div_iff_mul_le hY).2 ?_
  have hs := h.sum
  rw [Nat.mul_add, ← Nat.mul_assoc]
  obtain ⟨p, ep⟩ : ∃ p, p = q * A := ⟨_, rfl⟩
  rw [← ep] at hs ⊢
  omega
theorem Trial.out (h : Trial A B D U q r) (hY : 0 < A * 4294967296 + B) (hB : B < 4294967296) (hq : q ≤ 4294967296) (hr : 4294967296 ≤ r) : q = (U * 4294967296 + D) / (A * 4294967296 + B) := by
  refine h.right hY ?_
  have := Nat.mul_le_mul hq (show B ≤ 4294967295 by omega)
  omega
end
open Go.Proofs.Mul64 in
/-- What is left behind a digit, as the program reckons it. -/
theorem rest_of {U D T Y : Nat} (hT : T = (U * 4294967296 + D) / Y) (hY : 0 < Y) (hy : Y < 18446744073709551616) :
    IntKind.u64.wrap ((((U * 4294967296 + D) % 18446744073709551616 : Nat) : Int) - (((T * Y) % 18446744073709551616 : Nat) : Int)) = (((U * 4294967296 + D) % Y : Nat) : Int) := by
  have h1 := Nat.div_add_mod' (U * 4294967296 + D) Y
  have h2 := Nat.mod_lt (U * 4294967296 + D) hY
  rw [← hT] at h1
  obtain ⟨p, ep⟩ : ∃ p, p = T * Y := ⟨_, rfl⟩
  obtain ⟨m, em⟩ : ∃ m, m = (U * 4294967296 + D) % Y := ⟨_, rfl⟩
  rw [← ep, ← em] at h1
  rw [← em] at h2
  rw [← ep, ← em, IntKind.wrap_u64]
  omega
/-- The whole of the division, in two digits. -/
theorem two_digits {U D1 D0 Y : Nat} (hY : 0 < Y) : (U * 18446744073709551616 + (D1 * 4294967296 + D0)) / Y = (U * 4294967296 + D1) / Y * 4294967296 + ((U * 4294967296 + D1) % Y * 4294967296 + D0) / Y ∧
    (U * 18446744073709551616 + (D1 * 4294967296 + D0)) % Y = ((U * 4294967296 + D1) % Y * 4294967296 + D0) % Y := by
  have h1 := Nat.div_add_mod' (U * 4294967296 + D1) Y
  obtain ⟨T, eT⟩ : ∃ T, T = (U * 4294967296 + D1) / Y := ⟨_, rfl⟩
  obtain ⟨m, em⟩ : ∃ m, m = (U * 4294967296 + D1) % Y := ⟨_, rfl⟩
  rw [← eT, ← em] at h1 ⊢
  have e : U * 18446744073709551616 + (D1 * 4294967296 + D0) = (m * 4294967296 + D0) + (T * 4294967296) * Y := by
    rw [Nat.mul_right_comm]
    obtain ⟨p, ep⟩ : ∃ p, p = T * Y := ⟨_, rfl⟩
    rw [← ep] at h1 ⊢
    omega
  rw [e, Nat.add_mul_div_right _ _ hY, Nat.add_mul_mod_self_right]
  exact ⟨by omega, rfl⟩
theorem shifted {hi lo y s : Nat} (hh : hi < y) (hl : lo < 18446744073709551616) (hs : s ≤ 63) (hy : y * 2 ^ s < 18446744073709551616) :
    hi * 2 ^ s < 18446744073709551616 ∧ lo / 2 ^ (64 - s) < 18446744073709551616 ∧ hi * 2 ^ s ||| lo / 2 ^ (64 - s) = hi * 2 ^ s + lo / 2 ^ (64 - s) ∧
      (hi * 18446744073709551616 + lo) * 2 ^ s = (hi * 2 ^ s + lo / 2 ^ (64 - s)) * 18446744073709551616 + lo * 2 ^ s % 18446744073709551616 ∧ hi * 2 ^ s + lo / 2 ^ (64 - s) < y * 2 ^ s := by
  have hp := Nat.two_pow_pos s
  have e64 : 2 ^ (64 - s) * 2 ^ s = 18446744073709551616 := by rw [← Nat.pow_add, show 64 - s + s = 64 by omega]
  have hb : lo / 2 ^ (64 - s) < 2 ^ s := by
    refine Nat.div_lt_of_lt_mul ?_
    rw [e64]; exact hl
  have h1 : hi * 2 ^ s + 2 ^ s ≤ y * 2 ^ s := by
    have := Nat.mul_le_mul_right (2 ^ s) (show hi + 1 ≤ y from hh)
    rwa [Nat.add_mul, Nat.one_mul] at this
  have hor : hi * 2 ^ s ||| lo / 2 ^ (64 - s) = hi * 2 ^ s + lo / 2 ^ (64 - s) := by
    rw [Nat.mul_comm hi]
    exact (Nat.two_pow_add_eq_or_of_lt hb hi).symm
  have hd : lo * 2 ^ s / 18446744073709551616 = lo / 2 ^ (64 - s) := by rw [← e64, Nat.mul_div_mul_right _ _ hp]
  have hm := Nat.div_add_mod' (lo * 2 ^ s) 18446744073709551616
  rw [hd] at hm
  refine ⟨by omega, by omega, hor, ?_, by omega⟩
  rw [Nat.add_mul, Nat.mul_right_comm]
  rw [Nat.add_mul, Nat.add_assoc, hm]
end Go.Proofs.YtmgbcjjemlcfgaaGreatDoor
