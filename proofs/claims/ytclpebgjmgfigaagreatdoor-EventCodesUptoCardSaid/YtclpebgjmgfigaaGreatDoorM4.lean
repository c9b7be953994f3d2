/- What is proved here: several parts. small laws on decimal numerals and on strings that calls return; no function of the program. No conditions. · plain arithmetic behind the division of two words by one; no function of the program. No conditions. · the order Q of the group is a prime, and what follows for powers modulo P; no program in sight. No conditions. · decimal texts of numbers and of pairs in plain Lean: they are read back; no program in sight. No conditions. · numbers that wrap around, in plain Lean. No conditions. -/
import Derived.Test.YtclpebgjmgfigaaGreatDoorM1
import Derived.Test.YtclpebgjmgfigaaGreatDoorRows
import Derived.Lib.ItoaNum
import Derived.Laws.Bits64b
import Derived.Shelf.Bits.Mul64
import Derived.Lib.BitFns
import Derived.Lib.ParseIntB
import Derived.Lib.IndexMore
import Derived.Lib.IndexLaws
namespace Go.Proofs.YtclpebgjmgfigaaGreatDoor
open Go.RowKit

/-- The call returned a string with these bytes, and all that lay lies as it lay. -/
def RetStr (l : List UInt8) (w : World) (e : Ending) (w' : World) : Prop := ∃ t : ByteArray, e = .returned (.string t) ∧ t.data.toList = l ∧ Only NoneOf w w'
theorem RetStr.mk {l : List UInt8} {w w' : World} {t : ByteArray} (h : t.data.toList = l) (ho : Only NoneOf w w') : RetStr l w (.returned (.string t)) w' := ⟨t, rfl, h, ho⟩
theorem size_list (t : ByteArray) : t.size = t.data.toList.length := by simp
theorem dec_len (k : Nat) : ∀ u, u < 10 ^ (k + 1) → (Lib.decDigits u).length ≤ k + 1 := by
  induction k with
  | zero => intro u h; rw [Lib.decDigits, dif_pos (by simpa using h)]; simp
  | succ k ih =>
    intro u h
    rw [Lib.decDigits]
    split
    · simp
    · rw [List.length_append]
      have := ih (u / 10) (by rw [Nat.pow_succ] at h; omega)
      simp; omega
theorem dec_small {u : Nat} (h : u < 10) : Lib.decDigits u = [UInt8.ofNat (48 + u)] := by rw [Lib.decDigits, dif_pos h]
theorem dec_big {u : Nat} (h : ¬ u < 10) : Lib.decDigits u = Lib.decDigits (u / 10) ++ [UInt8.ofNat (48 + u % 10)] := by
  conv => lhs; rw [Lib.decDigits, dif_neg h]
theorem dec_len20 {u : Nat} (h : u < 18446744073709551616) : (Lib.decDigits u).length ≤ 20 := dec_len 19 u (by omega)
theorem itoa_len {n : Int} (h0 : -9223372036854775808 ≤ n) (h1 : n ≤ 9223372036854775807) : (Lib.itoa n).length ≤ 21 := by
  unfold Lib.itoa
  split
  · have := dec_len20 (u := n.natAbs) (by omega); simp; omega
  · have := dec_len20 (u := n.toNat) (by omega); omega
end Go.Proofs.YtclpebgjmgfigaaGreatDoor
namespace Go.Proofs.YtclpebgjmgfigaaGreatDoor
open Go.RowKit

theorem bitLen_both (n : Nat) : ∀ y, 0 < y → y < 2 ^ n → n ≤ 64 → y < 2 ^ Lib.bitLen y ∧ 2 ^ Lib.bitLen y ≤ 2 * y := by
  induction n with
  | zero => intro y h0 h1 _; simp at h1; omega
  | succ n ih =>
    intro y h0 h1 hn
    have h64 : y < 2 ^ 64 := Nat.lt_of_lt_of_le h1 (Nat.pow_le_pow_right (by omega) hn)
    rw [Lib.bitLen_half y (by omega) h64]
    by_cases h2 : y / 2 = 0
    · obtain rfl : y = 1 := by omega
      decide +kernel
    · have := ih (y / 2) (by omega) (by rw [Nat.pow_succ] at h1; omega) (by omega)
      rw [Nat.add_comm, Nat.pow_succ]
      omega
theorem norm_of (y : Nat) (h0 : 0 < y) (hy : y < 18446744073709551616) : ∃ s : Nat, (64 - (Lib.bitLen y : Int) : Int) = (s : Int) ∧ s ≤ 63 ∧ y * 2 ^ s < 18446744073709551616 ∧ 9223372036854775808 ≤ y * 2 ^ s := by
  obtain ⟨h1, h2⟩ := bitLen_both 64 y h0 (by omega) (by omega)
  have h3 : Lib.bitLen y ≤ 64 := Lib.bitLen_le y 64 (by omega) (by omega)
  have h4 : Lib.bitLen y ≠ 0 := by intro e; rw [e] at h1; simp at h1; omega
  refine ⟨64 - Lib.bitLen y, by omega, by omega, ?_, ?_⟩
  · have e : 2 ^ Lib.bitLen y * 2 ^ (64 - Lib.bitLen y) = 18446744073709551616 := by rw [← Nat.pow_add, show Lib.bitLen y + (64 - Lib.bitLen y) = 64 by omega]
    rw [← e]
    exact Nat.mul_lt_mul_of_pos_right h1 (Nat.two_pow_pos _)
  · have e : 2 ^ Lib.bitLen y * 2 ^ (64 - Lib.bitLen y) = 18446744073709551616 := by rw [← Nat.pow_add, show Lib.bitLen y + (64 - Lib.bitLen y) = 64 by omega]
    have := Nat.mul_le_mul_right (2 ^ (64 - Lib.bitLen y)) h2
    rw [e, Nat.mul_assoc] at this
    omega
/-- One digit of the school division: what a trial may be. -/
structure Trial (A B D U : Nat) (q r : Nat) : Prop where
  sum : q * A + r = U
  least : (U * 4294967296 + D) / (A * 4294967296 + B) ≤ q
  most : q ≤ 4294967297
section
variable {A B D U q r : Nat}
theorem digit_lt (hU : U < A * 4294967296 + B) (hD : D < 4294967296) : (U * 4294967296 + D) / (A * 4294967296 + B) < 4294967296 := by
  refine Nat.div_lt_of_lt_mul ?_
  have := Nat.mul_le_mul_right 4294967296 (show U + 1 ≤ A * 4294967296 + B from hU)
  omega
theorem Trial.start (hA : 2147483648 ≤ A) (hB : B < 4294967296) (hD : D < 4294967296) (hU : U < A * 4294967296 + B) : Trial A B D U (U / A) (U % A) := by
  have h1 := Nat.div_add_mod' U A
  refine ⟨h1, ?_, ?_⟩
  · refine (Nat.le_div_iff_mul_le (by omega)).2 ?_
    obtain ⟨T, eT⟩ : ∃ T, T = (U * 4294967296 + D) / (A * 4294967296 + B) := ⟨_, rfl⟩
    rw [← eT]
    have h2 : T * (A * 4294967296 + B) ≤ U * 4294967296 + D := by rw [eT]; exact Nat.div_mul_le_self _ _
    rw [Nat.mul_add, ← Nat.mul_assoc] at h2
    obtain ⟨p, ep⟩ : ∃ p, p = T * A := ⟨_, rfl⟩
    obtain ⟨p', ep'⟩ : ∃ p', p' = T * B := ⟨_, rfl⟩
    rw [← ep, ← ep'] at h2
    rw [← ep]
    omega
  · have h3 : U / A ≤ (A * 4294967296 + 4294967296) / A := Nat.div_le_div_right (by omega)
    have h4 : (A * 4294967296 + 4294967296) / A = 4294967296 + 4294967296 / A := by rw [Nat.mul_add_div (by omega)]
    have h5 : 4294967296 / A ≤ 4294967296 / 2147483648 := Nat.div_le_div_left hA (by omega)
    have h6 : U / A < 4294967298 := by
      refine (Nat.div_lt_iff_lt_mul (by omega)).2 ?_
      omega
    omega
theorem Trial.less (h : Trial A B D U q r) (hD : D < 4294967296) (hU : U < A * 4294967296 + B) (ht : 4294967296 ≤ q ∨ 4294967296 * r + D < q * B) : 1 ≤ q ∧ Trial A B D U (q - 1) (r + A) := by
  have hlt := digit_lt hU hD
  obtain ⟨T, eT⟩ : ∃ T, T = (U * 4294967296 + D) / (A * 4294967296 + B) := ⟨_, rfl⟩
  have h2 : T * (A * 4294967296 + B) ≤ U * 4294967296 + D := by rw [eT]; exact Nat.div_mul_le_self _ _
  have hl := h.least
  have hs := h.sum
  have hm := h.most
  rw [← eT] at hlt hl
  have hne : T ≠ q := by
    rintro rfl
    rcases ht with ht | ht
    · omega
    · rw [Nat.mul_add, ← Nat.mul_assoc] at h2
      obtain ⟨p, ep⟩ : ∃ p, p = T * A := ⟨_, rfl⟩
      obtain ⟨p', ep'⟩ : ∃ p', p' = T * B := ⟨_, rfl⟩
      rw [← ep, ← ep'] at h2
      rw [← ep] at hs
      rw [← ep'] at ht
      omega
  refine ⟨by omega, ?_, by rw [← eT]; omega, by omega⟩
  obtain ⟨j, rfl⟩ : ∃ j, q = j + 1 := ⟨q - 1, by omega⟩
  rw [Nat.add_mul] at hs
  simp only [Nat.add_sub_cancel]
  omega
theorem Trial.right (h : Trial A B D U q r) (hY : 0 < A * 4294967296 + B) (ht : q * B ≤ 4294967296 * r + D) : q = (U * 4294967296 + D) / (A * 4294967296 + B) := by
  refine Nat.le_antisymm ?_ h.least
  refine (Nat.le_div_iff_mul_le hY).2 ?_
  have hs := h.sum
  rw [Nat.mul_add, ← Nat.mul_assoc]
  obtain ⟨p, ep⟩ : ∃ p, p = q * A := ⟨_, rfl⟩
  rw [← ep] at hs ⊢
  omega
theorem Trial.out (h : Trial A B D U q r) (hY : 0 < A * 4294967296 + B) (hB : B < 4294967296) (hq : q ≤ 4294967296) (hr : 4294967296 ≤ r) : q = (U * 4294967296 + D) / (A * 4294967296 + B) := by
  refine h.right hY ?_
  have := Nat.mul_le_mul hq (show B ≤ 4294967295 by omega)
  omega
end
open Go.Proofs.Mul64 in
/-- What is left behind a digit, as the program reckons it. -/
theorem rest_of {U D T Y : Nat} (hT : T = (U * 4294967296 + D) / Y) (hY : 0 < Y) (hy : Y < 18446744073709551616) :
    IntKind.u64.wrap ((((U * 4294967296 + D) % 18446744073709551616 : Nat) : Int) - (((T * Y) % 18446744073709551616 : Nat) : Int)) = (((U * 4294967296 + D) % Y : Nat) : Int) := by
  have h1 := Nat.div_add_mod' (U * 4294967296 + D) Y
  have h2 := Nat.mod_lt (U * 4294967296 + D) hY
  rw [← hT] at h1
  obtain ⟨p, ep⟩ : ∃ p, p = T * Y := ⟨_, rfl⟩
  obtain ⟨m, em⟩ : ∃ m, m = (U * 4294967296 + D) % Y := ⟨_, rfl⟩
  rw [← ep, ← em] at h1
  rw [← em] at h2
  rw [← ep, ← em, IntKind.wrap_u64]
  omega
/-- The whole of the division, in two digits. -/
theorem two_digits {U D1 D0 Y : Nat} (hY : 0 < Y) : (U * 18446744073709551616 + (D1 * 4294967296 + D0)) / Y = (U * 4294967296 + D1) / Y * 4294967296 + ((U * 4294967296 + D1) % Y * 4294967296 + D0) / Y ∧
    (U * 18446744073709551616 + (D1 * 4294967296 + D0)) % Y = ((U * 4294967296 + D1) % Y * 4294967296 + D0) % Y := by
  have h1 := Nat.div_add_mod' (U * 4294967296 + D1) Y
  obtain ⟨T, eT⟩ : ∃ T, T = (U * 4294967296 + D1) / Y := ⟨_, rfl⟩
  obtain ⟨m, em⟩ : ∃ m, m = (U * 4294967296 + D1) % Y := ⟨_, rfl⟩
  rw [← eT, ← em] at h1 ⊢
  have e : U * 18446744073709551616 + (D1 * 4294967296 + D0) = (m * 4294967296 + D0) + (T * 4294967296) * Y := by
    rw [Nat.mul_right_comm]
    obtain ⟨p, ep⟩ : ∃ p, p = T * Y := ⟨_, rfl⟩
    rw [← ep] at h1 ⊢
    omega
  rw [e, Nat.add_mul_div_right _ _ hY, Nat.add_mul_mod_self_right]
  exact ⟨by omega, rfl⟩
theorem shifted {hi lo y s : Nat} (hh : hi < y) (hl : lo < 18446744073709551616) (hs : s ≤ 63) (hy : y * 2 ^ s < 18446744073709551616) :
    hi * 2 ^ s < 18446744073709551616 ∧ lo / 2 ^ (64 - s) < 18446744073709551616 ∧ hi * 2 ^ s ||| lo / 2 ^ (64 - s) = hi * 2 ^ s + lo / 2 ^ (64 - s) ∧
      (hi * 18446744073709551616 + lo) * 2 ^ s = (hi * 2 ^ s + lo / 2 ^ (64 - s)) * 18446744073709551616 + lo * 2 ^ s % 18446744073709551616 ∧ hi * 2 ^ s + lo / 2 ^ (64 - s) < y * 2 ^ s := by
  have hp := Nat.two_pow_pos s
  have e64 : 2 ^ (64 - s) * 2 ^ s = 18446744073709551616 := by rw [← Nat.pow_add, show 64 - s + s = 64 by omega]
  have hb : lo / 2 ^ (64 - s) < 2 ^ s := by
    refine Nat.div_lt_of_lt_mul ?_
    rw [e64]; exact hl
  have h1 : hi * 2 ^ s + 2 ^ s ≤ y * 2 ^ s := by
    have := Nat.mul_le_mul_right (2 ^ s) (show hi + 1 ≤ y from hh)
    rwa [Nat.add_mul, Nat.one_mul] at this
  have hor : hi * 2 ^ s ||| lo / 2 ^ (64 - s) = hi * 2 ^ s + lo / 2 ^ (64 - s) := by
    rw [Nat.mul_comm hi]
    exact (Nat.two_pow_add_eq_or_of_lt hb hi).symm
  have hd : lo * 2 ^ s / 18446744073709551616 = lo / 2 ^ (64 - s) := by rw [← e64, Nat.mul_div_mul_right _ _ hp]
  have hm := Nat.div_add_mod' (lo * 2 ^ s) 18446744073709551616
  rw [hd] at hm
  refine ⟨by omega, by omega, hor, ?_, by omega⟩
  rw [Nat.add_mul, Nat.mul_right_comm]
  rw [Nat.add_mul, Nat.add_assoc, hm]
end Go.Proofs.YtclpebgjmgfigaaGreatDoor
namespace Go.Proofs.YtclpebgjmgfigaaGreatDoor

/-- Powers modulo m by squares. -/
def pm : Nat → Nat → Nat → Nat → Nat
  | 0, _, _, m => 1 % m
  | f + 1, a, n, m => if n % 2 = 1 then pm f (a * a % m) (n / 2) m * a % m else pm f (a * a % m) (n / 2) m
theorem pm_eq (f : Nat) : ∀ a n m, n < 2 ^ f → pm f a n m = a ^ n % m := by
  induction f with
  | zero => intro a n m h; have : n = 0 := by simpa using h
            subst this; rfl
  | succ f ih =>
    intro a n m h
    have h2 : n / 2 < 2 ^ f := by rw [Nat.pow_succ] at h; omega
    have e : (a * a % m) ^ (n / 2) % m = a ^ (2 * (n / 2)) % m := by
      rw [← Nat.pow_mod, ← Nat.pow_two, ← Nat.pow_mul]
    unfold pm
    rw [ih _ _ _ h2, e]
    split
    · rename_i h1
      have hn : n = 2 * (n / 2) + 1 := by omega
      conv => rhs; rw [hn, Nat.pow_succ]
      rw [Nat.mod_mul_mod]
    · have hn : n = 2 * (n / 2) := by omega
      conv => rhs; rw [hn]
/-- Among more values than there are places two coincide. -/
theorem pigeon : ∀ (n : Nat) (f : Nat → Nat), (∀ i, i ≤ n → f i < n) → ∃ i j, i < j ∧ j ≤ n ∧ f i = f j
  | 0, f, h => absurd (h 0 (Nat.le_refl _)) (by omega)
  | n + 1, f, h => by
    by_cases hx : ∃ i, i ≤ n ∧ f i = f (n + 1)
    · obtain ⟨i, hi, e⟩ := hx
      exact ⟨i, n + 1, by omega, Nat.le_refl _, e⟩
    · have hne : ∀ i, i ≤ n → f i ≠ f (n + 1) := fun i hi e => hx ⟨i, hi, e⟩
      have hb : f (n + 1) < n + 1 := h (n + 1) (Nat.le_refl _)
      obtain ⟨i, j, hij, hj, e⟩ := pigeon n (fun i => if f i = n then f (n + 1) else f i) (fun i hi => by
        have h1 := h i (by omega)
        have h2 := hne i hi
        show (if f i = n then f (n + 1) else f i) < n
        split
        · rename_i hin; omega
        · omega)
      refine ⟨i, j, hij, by omega, ?_⟩
      have h1 := hne i (by omega)
      have h2 := hne j hj
      split at e <;> split at e <;> omega
theorem pow_one_mul {a m x : Nat} (h : a ^ x % m = 1 % m) (y : Nat) : a ^ (x * y) % m = 1 % m := by
  rw [Nat.pow_mul, Nat.pow_mod, h, ← Nat.pow_mod, Nat.one_pow]
theorem pow_add_one {a m x : Nat} (h : a ^ x % m = 1 % m) (y : Nat) : a ^ (x + y) % m = a ^ y % m := by
  rw [Nat.pow_add, Nat.mul_mod, h, ← Nat.mul_mod, Nat.one_mul]
/-- Where a power is one, exponents may be lessened. -/
theorem pow_cancel {a m M i d : Nat} (hM : a ^ M % m = 1 % m) (hM0 : 0 < M) (h : a ^ i % m = a ^ (i + d) % m) : a ^ d % m = 1 % m := by
  have h1 : a ^ (i + i * (M - 1)) % m = a ^ (i + d + i * (M - 1)) % m := by
    rw [Nat.pow_add, Nat.mul_mod, h, ← Nat.mul_mod, ← Nat.pow_add]
  have e1 : i + i * (M - 1) = M * i := by
    obtain ⟨k, rfl⟩ : ∃ k, M = k + 1 := ⟨M - 1, by omega⟩
    rw [Nat.add_sub_cancel, Nat.add_mul, Nat.one_mul, Nat.mul_comm k i, Nat.add_comm]
  rw [show i + d + i * (M - 1) = M * i + d by omega, e1, pow_one_mul hM, pow_add_one (pow_one_mul hM i)] at h1
  exact h1.symm
/-- If two powers are one, so is that of their greatest common divisor. -/
theorem pow_gcd {a m : Nat} : ∀ (x y : Nat), a ^ x % m = 1 % m → a ^ y % m = 1 % m → 0 < x → a ^ (Nat.gcd x y) % m = 1 % m := by
  intro x
  induction x using Nat.strongRecOn with
  | _ x ih =>
    intro y hx hy h0
    rw [Nat.gcd_rec]
    by_cases hr : y % x = 0
    · rw [hr, Nat.gcd_zero_left]; exact hx
    · have hlt : y % x < x := Nat.mod_lt _ h0
      refine ih (y % x) hlt x ?_ hx (by omega)
      have e : y = x * (y / x) + y % x := (Nat.div_add_mod y x).symm
      rw [e, pow_add_one (pow_one_mul hx _)] at hy
      exact hy
/-- A number that has no divisor but one and itself. -/
def Pr (n : Nat) : Prop := 1 < n ∧ ∀ d, 0 < d → d < n → Nat.gcd d n = 1
theorem pr_of {n : Nat} (h1 : 1 < n) (h : ∀ p, 1 < p → p * p ≤ n → n % p ≠ 0) : Pr n := by
  refine ⟨h1, fun d hd0 hd => ?_⟩
  obtain ⟨g, eg⟩ : ∃ g, g = Nat.gcd d n := ⟨_, rfl⟩
  rw [← eg]
  have hgn : g ∣ n := by rw [eg]; exact Nat.gcd_dvd_right _ _
  have hgd : g ≤ d := by rw [eg]; exact Nat.le_of_dvd hd0 (Nat.gcd_dvd_left _ _)
  have hg0 : 0 < g := by rw [eg]; exact Nat.gcd_pos_of_pos_left _ hd0
  obtain ⟨q, hq⟩ := hgn
  rcases Nat.lt_or_ge 1 g with hg1 | hg1
  · exfalso
    have hq1 : 1 < q := by
      rcases Nat.lt_or_ge 1 q with h2 | h2
      · exact h2
      · have : q = 0 ∨ q = 1 := by omega
        rcases this with rfl | rfl <;> simp at hq <;> omega
    by_cases hle : g ≤ q
    · exact h g hg1 (by rw [hq]; exact Nat.mul_le_mul_left _ hle) (by rw [hq]; exact Nat.mul_mod_right _ _)
    · exact h q hq1 (by rw [hq]; exact Nat.mul_le_mul_right _ (by omega)) (by rw [hq]; exact Nat.mul_mod_left _ _)
  · omega
/-- A number with a great prime divisor of its predecessor is prime, if one power is one and another is not. -/
theorem pock {n f k a : Nat} (hf : Pr f) (hn : n = f * k + 1) (hk : 0 < k) (hff : n < f * f) (h1 : a ^ (n - 1) % n = 1) (h2 : Nat.gcd (a ^ k % n + (n - 1)) n = 1) : Pr n := by
  have hf1 := hf.1
  have hfk : 0 < f * k := Nat.mul_pos (by omega) hk
  refine pr_of (by omega) fun p hp hpp hdiv => ?_
  have hpf : p < f := by
    rcases Nat.lt_or_ge p f with h | h
    · exact h
    · have := Nat.mul_le_mul h h; omega
  have hpn : p ∣ n := Nat.dvd_of_mod_eq_zero hdiv
  have hM : a ^ (n - 1) % p = 1 % p := by
    have e : a ^ (n - 1) % n % p = a ^ (n - 1) % p := Nat.mod_mod_of_dvd _ hpn
    rw [← e, h1]
  obtain ⟨i, j, hij, hj, e⟩ := pigeon p (fun i => a ^ i % p) (fun i _ => Nat.mod_lt _ (by omega))
  have hd := pow_cancel (d := j - i) hM (by omega) (by rw [show i + (j - i) = j by omega]; exact e)
  have hg := pow_gcd (j - i) (n - 1) hd hM (by omega)
  obtain ⟨g, eg⟩ : ∃ g, g = Nat.gcd (j - i) (n - 1) := ⟨_, rfl⟩
  rw [← eg] at hg
  have hgle : g ≤ j - i := by rw [eg]; exact Nat.le_of_dvd (by omega) (Nat.gcd_dvd_left _ _)
  have hg0 : 0 < g := by rw [eg]; exact Nat.gcd_pos_of_pos_left _ (by omega)
  have hgd : g ∣ f * k := by rw [eg, show f * k = n - 1 by omega]; exact Nat.gcd_dvd_right _ _
  have hgk : g ∣ k := Nat.Coprime.dvd_of_dvd_mul_left (hf.2 g hg0 (by omega)) hgd
  obtain ⟨c, hc⟩ := hgk
  have hak : a ^ k % p = 1 % p := by rw [hc]; exact pow_one_mul hg c
  have hz : (a ^ k % n + (n - 1)) % p = 0 := by
    have e1 : a ^ k % n % p = 1 % p := by rw [Nat.mod_mod_of_dvd _ hpn]; exact hak
    rw [Nat.add_mod, e1, ← Nat.add_mod, show 1 + (n - 1) = n by omega]
    exact hdiv
  have hp1 : p ∣ Nat.gcd (a ^ k % n + (n - 1)) n := Nat.dvd_gcd (Nat.dvd_of_mod_eq_zero hz) hpn
  rw [h2] at hp1
  have := Nat.le_of_dvd (by omega) hp1
  omega
def noDiv (n : Nat) : Nat → Bool
  | 0 => true
  | k + 1 => (k + 1 ≤ 1 || n % (k + 1) != 0) && noDiv n k
theorem noDiv_spec {n : Nat} : ∀ k, noDiv n k = true → ∀ p, 1 < p → p ≤ k → n % p ≠ 0
  | 0, _, p, h1, h2 => by omega
  | k + 1, h, p, h1, h2 => by
    simp only [noDiv, Bool.and_eq_true, Bool.or_eq_true, decide_eq_true_eq, bne_iff_ne] at h
    by_cases e : p = k + 1
    · subst e
      rcases h.1 with h3 | h3
      · omega
      · exact h3
    · exact noDiv_spec k h.2 p h1 (by omega)
theorem pr95189 : Pr 95189 := pr_of (by omega) fun p h1 h2 => noDiv_spec (n := 95189) 400 (by decide +kernel) p h1 (by
  rcases Nat.lt_or_ge 400 p with h | h
  · have := Nat.mul_le_mul (show 401 ≤ p by omega) (show 401 ≤ p by omega); omega
  · exact h)
theorem pock' {n f k a : Nat} (hf : Pr f) (hn : n = f * k + 1) (hk : 0 < k) (hff : n < f * f) (hb : n - 1 < 2 ^ 64) (h1 : pm 64 a (n - 1) n = 1) (h2 : Nat.gcd (pm 64 a k n + (n - 1)) n = 1) (hkn : k < 2 ^ 64) : Pr n := by
  rw [pm_eq _ _ _ _ hb] at h1
  rw [pm_eq _ _ _ _ hkn] at h2
  exact pock hf hn hk hff h1 h2
theorem pr2835870689 : Pr 2835870689 := pock' (a := 2) (k := 29792) pr95189 rfl (by omega) (by omega) (by omega) (by decide +kernel) (by decide +kernel) (by omega)
theorem pr5671741379 : Pr 5671741379 := pock' (a := 2) (k := 2) pr2835870689 rfl (by omega) (by omega) (by omega) (by decide +kernel) (by decide +kernel) (by omega)
theorem pr288230376151711447 : Pr 288230376151711447 := pock' (a := 2) (k := 50818674) pr5671741379 rfl (by omega) (by omega) (by omega) (by decide +kernel) (by decide +kernel) (by omega)
theorem prQ : Pr 1152921504606845789 := pock' (a := 2) (k := 4) pr288230376151711447 rfl (by omega) (by omega) (by omega) (by decide +kernel) (by decide +kernel) (by omega)
end Go.Proofs.YtclpebgjmgfigaaGreatDoor
namespace Go.Proofs.YtclpebgjmgfigaaGreatDoor
def In (n : Int) : Prop := -9223372036854775808 ≤ n ∧ n ≤ 9223372036854775807
def digit (c : UInt8) : Prop := 48 ≤ c.toNat ∧ c.toNat ≤ 57
def dstep (v : Nat) (c : UInt8) : Nat := v * 10 + (c.toNat - 48)
theorem of_digit {d : Nat} (h : d < 10) : (UInt8.ofNat (48 + d)).toNat = 48 + d := by rw [UInt8.toNat_ofNat']; omega
theorem dec_spec : ∀ (k u : Nat), u < 10 ^ (k + 1) → (∀ c ∈ Lib.decDigits u, digit c) ∧ (Lib.decDigits u).foldl dstep 0 = u ∧ Lib.decDigits u ≠ [] := by
  intro k
  induction k with
  | zero =>
    intro u h
    have h10 : u < 10 := by simpa using h
    rw [dec_small h10]
    refine ⟨fun c hc => ?_, ?_, by simp⟩
    · obtain rfl := List.mem_singleton.1 hc
      unfold digit
      rw [of_digit h10]
      omega
    · simp only [List.foldl_cons, List.foldl_nil, dstep]
      rw [of_digit h10]
      omega
  | succ k ih =>
    intro u h
    by_cases h10 : u < 10
    · exact ih u (Nat.lt_of_lt_of_le h10 (by rw [Nat.pow_succ]; have := Nat.pow_pos (n := k) (show 0 < 10 by omega); omega))
    · obtain ⟨h1, h2, h3⟩ := ih (u / 10) (by rw [Nat.pow_succ] at h; omega)
      rw [dec_big h10]
      have hd : u % 10 < 10 := by omega
      refine ⟨fun c hc => ?_, ?_, by simp⟩
      · rcases List.mem_append.1 hc with hc | hc
        · exact h1 c hc
        · obtain rfl := List.mem_singleton.1 hc
          unfold digit
          rw [of_digit hd]
          omega
      · rw [List.foldl_append, h2]
        simp only [List.foldl_cons, List.foldl_nil, dstep]
        rw [of_digit hd]
        omega
theorem dec_ok {u : Nat} (h : u < 10000000000000000000) : (∀ c ∈ Lib.decDigits u, digit c) ∧ (Lib.decDigits u).foldl dstep 0 = u ∧ Lib.decDigits u ≠ [] := dec_spec 18 u (by omega)
theorem fold_ge (l : List UInt8) : ∀ v, v ≤ l.foldl dstep v := by
  induction l with
  | nil => intro v; exact Nat.le_refl _
  | cons c r ih => intro v; exact Nat.le_trans (by unfold dstep; omega) (ih (dstep v c))
theorem parseM_digits {M : Nat} (hM : M < 18446744073709551616) (l : List UInt8) : ∀ acc, (∀ c ∈ l, digit c) → l.foldl dstep acc ≤ M → Lib.parseUintM M acc l = .ok (l.foldl dstep acc) := by
  induction l with
  | nil => intro acc _ _; rfl
  | cons c r ih =>
    intro acc hd hv
    have hc := hd c (by simp)
    have hg := fold_ge r (dstep acc c)
    rw [List.foldl_cons] at hv
    have hs : dstep acc c ≤ M := by omega
    unfold dstep at hs
    rw [Lib.parseUintM, if_pos (show 48 ≤ c.toNat ∧ c.toNat ≤ 57 from hc), if_neg (by omega), if_neg (by omega)]
    exact ih _ (fun x hx => hd x (by simp [hx])) hv
theorem itoa_pos {n : Int} (h : 0 ≤ n) : Lib.itoa n = Lib.decDigits n.toNat := by unfold Lib.itoa; rw [if_neg (by omega)]
theorem itoa_min {n : Int} (h : n < 0) : Lib.itoa n = 45 :: Lib.decDigits n.natAbs := by unfold Lib.itoa; rw [if_pos h]
theorem digit_head {l : List UInt8} (h : ∀ c ∈ l, digit c) (hne : l ≠ []) : ∃ c r, l = c :: r ∧ digit c := by
  cases l with
  | nil => exact absurd rfl hne
  | cons c r => exact ⟨c, r, rfl, h c (by simp)⟩
/-- What was written is read. -/
theorem parse_itoa {n : Int} (h : In n) : Lib.parseIntB 64 (Lib.itoa n) = .ok n := by
  obtain ⟨h0, h1⟩ := h
  by_cases hn : n < 0
  · obtain ⟨hd, hv, hne⟩ := dec_ok (u := n.natAbs) (by omega)
    rw [itoa_min hn]
    have hp : Lib.parseUintB 64 (Lib.decDigits n.natAbs) = .ok n.natAbs := by
      unfold Lib.parseUintB
      rw [if_neg hne, parseM_digits (by omega) _ 0 hd (by rw [hv]; omega), hv]
    unfold Lib.parseIntB
    have e45 : (45 : UInt8).toNat = 45 := rfl
    simp only [e45, or_true, if_true, hp, not_true_eq_false, false_and, if_false, true_and]
    rw [if_neg (by omega)]
    congr 1
    omega
  · obtain ⟨hd, hv, hne⟩ := dec_ok (u := n.toNat) (by omega)
    rw [itoa_pos (by omega)]
    obtain ⟨c, r, hl, hc⟩ := digit_head hd hne
    have hp : Lib.parseUintB 64 (c :: r) = .ok n.toNat := by
      unfold Lib.parseUintB
      rw [← hl, if_neg hne, parseM_digits (by omega) _ 0 hd (by rw [hv]; omega), hv]
    rw [hl]
    unfold Lib.parseIntB
    unfold digit at hc
    have c45 : ¬ c.toNat = 45 := by omega
    have c43 : ¬ c.toNat = 43 := by omega
    simp only [c45, c43, or_self, if_false, hp, not_false_eq_true, true_and, false_and]
    rw [if_neg (by omega)]
    congr 1
    omega
theorem itoa_inj {n m : Int} (hn : In n) (hm : In m) (e : Lib.itoa n = Lib.itoa m) : n = m := by
  have h := parse_itoa hn
  rw [e, parse_itoa hm] at h
  cases h; rfl
theorem parse_in {l : List UInt8} {v : Int} (h : Lib.parseIntB 64 l = .ok v) : In v := by
  cases l with
  | nil => cases h
  | cons c r =>
    unfold Lib.parseIntB at h
    simp only at h
    generalize Lib.parseUintB 64 _ = q at h
    cases q with
    | ok u =>
      simp only at h
      split at h
      · cases h
      · split at h
        · cases h
        · cases h
          unfold In
          split <;> omega
    | _ => cases h
theorem itoa_nodot {n : Int} (h : In n) : ∀ c ∈ Lib.itoa n, c ≠ 46 := by
  obtain ⟨h0, h1⟩ := h
  have key : ∀ u : Nat, u < 10000000000000000000 → ∀ c ∈ Lib.decDigits u, c ≠ 46 := fun u hu c hc e => by
    have h2 := (dec_ok hu).1 c hc
    subst e
    unfold digit at h2
    have e46 : (46 : UInt8).toNat = 46 := rfl
    omega
  by_cases hn : n < 0
  · rw [itoa_min hn]
    intro c hc
    rcases List.mem_cons.1 hc with rfl | hc
    · decide
    · exact key _ (by omega) c hc
  · rw [itoa_pos (by omega)]
    exact key _ (by omega)
def textOf (r s : Int) : List UInt8 := Lib.itoa r ++ 46 :: Lib.itoa s
/-- This list is the text of this pair. -/
def IsText (l : List UInt8) (r s : Int) : Prop := In r ∧ In s ∧ l = textOf r s
theorem dot_first {a b : List UInt8} (h : ∀ c ∈ a, c ≠ 46) : Lib.index (a ++ 46 :: b) [46] = a.length := by
  refine Lib.index_first (by simp) ?_ ?_
  · unfold Lib.occAt
    rw [List.drop_left]
    simp
  · intro j hj
    unfold Lib.occAt
    rw [List.drop_append_of_le_length (by omega), List.drop_eq_getElem_cons hj]
    have := h a[j] (List.getElem_mem hj)
    simp only [List.cons_append, List.isPrefixOf_cons_cons]
    have e : ((46 : UInt8) == a[j]) = false := by simpa using fun e => this e.symm
    rw [e]; rfl
theorem cut_dot {a b : List UInt8} (h : ∀ c ∈ a, c ≠ 46) : Lib.cut (a ++ 46 :: b) [46] = (a, b, true) := by
  unfold Lib.cut
  rw [dot_first h, if_pos (by omega)]
  simp
theorem text_cut {r s : Int} (h : In r) : Lib.cut (textOf r s) [46] = (Lib.itoa r, Lib.itoa s, true) := cut_dot (itoa_nodot h)
theorem text_inj {l : List UInt8} {r s r' s' : Int} (h : IsText l r s) (k : IsText l r' s') : r = r' ∧ s = s' := by
  obtain ⟨h1, h2, rfl⟩ := h
  obtain ⟨k1, k2, e⟩ := k
  have c := text_cut (s := s) h1
  rw [e, text_cut k1] at c
  simp only [Prod.mk.injEq, and_true] at c
  exact ⟨itoa_inj h1 k1 c.1.symm, itoa_inj h2 k2 c.2.symm⟩
end Go.Proofs.YtclpebgjmgfigaaGreatDoor
namespace Go.Proofs.YtclpebgjmgfigaaGreatDoor
open Go.RowKit
theorem wrap_i (z : Int) : IntKind.i64.wrap z = (z + 9223372036854775808) % 18446744073709551616 - 9223372036854775808 := by
  have h : IntKind.i64.wrap z = if 9223372036854775808 ≤ z % 18446744073709551616 then z % 18446744073709551616 - 18446744073709551616 else z % 18446744073709551616 := by
    unfold IntKind.wrap
    simp [IntKind.bits, IntKind.signed]
  rw [h]
  split <;> omega
theorem wrap_in (z : Int) : In (IntKind.i64.wrap z) := by rw [wrap_i]; unfold In; omega
theorem wrap_of {z : Int} (h : In z) : IntKind.i64.wrap z = z := by obtain ⟨h0, h1⟩ := h; rw [wrap_i]; omega
end Go.Proofs.YtclpebgjmgfigaaGreatDoor
