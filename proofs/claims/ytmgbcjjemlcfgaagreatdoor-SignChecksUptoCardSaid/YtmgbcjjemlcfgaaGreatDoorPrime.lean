/- What is proved here: the order Q of the group is a prime, and what follows for powers modulo P; no program in sight. No conditions. -/
import Derived.Test.YtmgbcjjemlcfgaaGreatDoorRows
namespace Go.Proofs.YtmgbcjjemlcfgaaGreatDoor

/-- Powers modulo m by squares. -/
def pm : Nat → Nat → Nat → Nat → Nat
  | 0, _, _, m => 1 % m
  | f + 1, a, n, m => if n % 2 = 1 then pm f (a * a % m) (n / 2) m * a % m else pm f (a * a % m) (n / 2) m
theorem pm_eq (f : Nat) : ∀ a n m, n < 2 ^ f → pm f a n m = a ^ n % m := by
  induction f with
  | zero => intro a n m h; have : n = 0 := by simpa using h
            subst this; rfl
  | succ f ih =>
    intro a n m h
    have h2 : n / 2 < 2 ^ f := by rw [Nat.pow_succ] at h; omega
    have e : (a * a % m) ^ (n / 2) % m = a ^ (2 * (n / 2)) % m := by
      rw [← Nat.pow_mod, ← Nat.pow_two, ← Nat.pow_mul]
    unfold pm
    rw [ih _ _ _ h2, e]
    split
    · rename_i h1
      have hn : n = 2 * (n / 2) + 1 := by omega
      conv => rhs; rw [hn, Nat.pow_succ]
      rw [Nat.mod_mul_mod]
    · have hn : n = 2 * (n / 2) := by omega
      conv => rhs; rw [hn]
/-- Among more values than there are places two coincide. -/
theorem pigeon : ∀ (n : Nat) (f : Nat → Nat), (∀ i, i ≤ n → f i < n) → ∃ i j, i < j ∧ j ≤ n ∧ f i = f j
  | 0, f, h => absurd (h 0 (Nat.le_refl _)) (by omega)
  | n + 1, f, h => by
    by_cases hx : ∃ i, i ≤ n ∧ f i = f (n + 1)
    · obtain ⟨i, hi, e⟩ := hx
      exact ⟨i, n + 1, by omega, Nat.le_refl _, e⟩
    · have hne : ∀ i, i ≤ n → f i ≠ f (n + 1) := fun i hi e => hx ⟨i, hi, e⟩
      have hb : f (n + 1) < n + 1 := h (n + 1) (Nat.le_refl _)
      obtain ⟨i, j, hij, hj, e⟩ := pigeon n (fun i => if f i = n then f (n + 1) else f i) (fun i hi => by
        have h1 := h i (by omega)
        have h2 := hne i hi
        show (if f i = n then f (n + 1) else f i) < n
        split
        · rename_i hin; omega
        · omega)
      refine ⟨i, j, hij, by omega, ?_⟩
      have h1 := hne i (by omega)
      have h2 := hne j hj
      split at e <;> split at e <;> omega
theorem pow_one_mul {a m x : Nat} (h : a ^ x % m = 1 % m) (y : Nat) : a ^ (x * y) % m = 1 % m := by
  rw [Nat.pow_mul, Nat.pow_mod, h, ← Nat.pow_mod, Nat.one_pow]
theorem pow_add_one {a m x : Nat} (h : a ^ x % m = 1 % m) (y : Nat) : a ^ (x + y) % m = a ^ y % m := by
  rw [Nat.pow_add, Nat.mul_mod, h, ← Nat.mul_mod, Nat.one_mul]
/-- Where a power is one, exponents may be lessened. -/
theorem pow_cancel {a m M i d : Nat} (hM : a ^ M % m = 1 % m) (hM0 : 0 < M) (h : a ^ i % m = a ^ (i + d) % m) : a ^ d % m = 1 % m := by
  have h1 : a ^ (i + i * (M - 1)) % m = a ^ (i + d + i * (M - 1)) % m := by
    rw [Nat.pow_add, Nat.mul_mod, h, ← Nat.mul_mod, ← Nat.pow_add]
  have e1 : i + i * (M - 1) = M * i := by
    obtain ⟨k, rfl⟩ : ∃ k, M = k + 1 := ⟨M - 1, by omega⟩
    rw [Nat.add_sub_cancel, Nat.add_mul, Nat.one_mul, Nat.mul_comm k i, Nat.add_comm]
  rw [show i + d + i * (M - 1) = M * i + d by omega, e1, pow_one_mul hM, pow_add_one (pow_one_mul hM i)] at h1
  exact h1.symm
/-- If two powers are one, so is that of their greatest common divisor. -/
theorem pow_gcd {a m : Nat} : ∀ (x y : Nat), a ^ x % m = 1 % m → a ^ y % m = 1 % m → 0 < x → a ^ (Nat.gcd x y) % m = 1 % m := by
  intro x
  induction x using Nat.strongRecOn with
  | _ x ih =>
    intro y hx hy h0
    rw [Nat.gcd_rec]
    by_cases hr : y % x = 0
    · rw [hr, Nat.gcd_zero_left]; exact hx
    · have hlt : y % x < x := Nat.mod_lt _ h0
      refine ih (y % x) hlt x ?_ hx (by omega)
      have e : y = x * (y / x) + y % x := (Nat.div_add_mod y x).symm
      rw [e, pow_add_one (pow_one_mul hx _)] at hy
      exact hy
/-- A number that has no divisor but one and itself. -/
def Pr (n : Nat) : Prop := 1 < n ∧ ∀ d, 0 < d → d < n → Nat.gcd d n = 1
theorem pr_of {n : Nat} (h1 : 1 < n) (h : ∀ p, 1 < p → p * p ≤ n → n % p ≠ 0) : Pr n := by
  refine ⟨h1, fun d hd0 hd => ?_⟩
  obtain ⟨g, eg⟩ : ∃ g, g = Nat.gcd d n := ⟨_, rfl⟩
  rw [← eg]
  have hgn : g ∣ n := by rw [eg]; exact Nat.gcd_dvd_right _ _
  have hgd : g ≤ d := by rw [eg]; exact Nat.le_of_dvd hd0 (Nat.gcd_dvd_left _ _)
  have hg0 : 0 < g := by rw [eg]; exact Nat.gcd_pos_of_pos_left _ hd0
  obtain ⟨q, hq⟩ := hgn
  rcases Nat.lt_or_ge 1 g with hg1 | hg1
  · exfalso
    have hq1 : 1 < q := by
      rcases Nat.lt_or_ge 1 q with h2 | h2
      · exact h2
      · have : q = 0 ∨ q = 1 := by omega
        rcases this with rfl | rfl <;> simp at hq <;> omega
    by_cases hle : g ≤ q
    · exact h g hg1 (by rw [hq]; exact Nat.mul_le_mul_left _ hle) (by rw [hq]; exact Nat.mul_mod_right _ _)
    · exact h q hq1 (by rw [hq]; exact Nat.mul_le_mul_right _ (by omega)) (by rw [hq]; exact Nat.mul_mod_left _ _)
  · omega
/-- A number with a great prime divisor of its predecessor is prime, if one power is one and another is not. -/
theorem pock {n f k a : Nat} (hf : Pr f) (hn : n = f * k + 1) (hk : 0 < k) (hff : n < f * f) (h1 : a ^ (n - 1) % n = 1) (h2 : Nat.gcd (a ^ k % n + (n - 1)) n = 1) : Pr n := by
  have hf1 := hf.1
  have hfk : 0 < f * k := Nat.mul_pos (by omega) hk
  refine pr_of (by omega) fun p hp hpp hdiv => ?_
  have hpf : p < f := by
    rcases Nat.lt_or_ge p f with h | h
    · exact h
    · have := Nat.mul_le_mul h h; omega
  have hpn : p ∣ n := Nat.dvd_of_mod_eq_zero hdiv
  have hM : a ^ (n - 1) % p = 1 % p := by
    have e : a ^ (n - 1) % n % p = a ^ (n - 1) % p := Nat.mod_mod_of_dvd _ hpn
    rw [← e, h1]
  obtain ⟨i, j, hij, hj, e⟩ := pigeon p (fun i => a ^ i % p) (fun i _ => Nat.mod_lt _ (by omega))
  have hd := pow_cancel (d := j - i) hM (by omega) (by rw [show i + (j - i) = j by omega]; exact e)
  have hg := pow_gcd (j - i) (n - 1) hd hM (by omega)
  obtain ⟨g, eg⟩ : ∃ g, g = Nat.gcd (j - i) (n - 1) := ⟨_, rfl⟩
  rw [← eg] at hg
  have hgle : g ≤ j - i := by rw [eg]; exact Nat.le_of_dvd (by omega) (Nat.gcd_dvd_left _ _)
  have hg0 : 0 < g := by rw [eg]; exact Nat.gcd_pos_of_pos_left _ (by omega)
  have hgd : g ∣ f * k := by rw [eg, show f * k = n - 1 by omega]; exact Nat.gcd_dvd_right _ _
  have hgk : g ∣ k := Nat.Coprime.dvd_of_dvd_mul_left (hf.2 g hg0 (by omega)) hgd
  obtain ⟨c, hc⟩ := hgk
  have hak : a ^ k % p = 1 % p := by rw [hc]; exact pow_one_mul hg c
  have hz : (a ^ k % n + (n - 1)) % p = 0 := by
    have e1 : a ^ k % n % p = 1 % p := by rw [Nat.mod_mod_of_dvd _ hpn]; exact hak
    rw [Nat.add_mod, e1, ← Nat.add_mod, show 1 + (n - 1) = n by omega]
    exact hdiv
  have hp1 : p ∣ Nat.gcd (a ^ k % n + (n - 1)) n := Nat.dvd_gcd (Nat.dvd_of_mod_eq_zero hz) hpn
  rw [h2] at hp1
  have := Nat.le_of_dvd (by omega) hp1
  omega
def noDiv (n : Nat) : Nat → Bool
  | 0 => true
  | k + 1 => (k + 1 ≤ 1 || n % (k + 1) != 0) && noDiv n k
theorem noDiv_spec {n : Nat} : ∀ k, noDiv n k = true → ∀ p, 1 < p → p ≤ k → n % p ≠ 0
  | 0, _, p, h1, h2 => by omega
  | k + 1, h, p, h1, h2 => by
    simp only [noDiv, Bool.and_eq_true, Bool.or_eq_true, decide_eq_true_eq, bne_iff_ne] at h
    by_cases e : p = k + 1
    · subst e
      rcases h.1 with h3 | h3
      · omega
      · exact h3
    · exact noDiv_spec k h.2 p h1 (by omega)
theorem pr95189 : Pr 95189 := pr_of (by omega) fun p h1 h2 => noDiv_spec (n := 95189) 400 (by decide +kernel) p h1 (by
  rcases Nat.lt_or_ge 400 p with h | h
  · have := Nat.mul_le_mul (show 401 ≤ p by omega) (show 401 ≤ p by omega); omega
  · exact h)
theorem pock' {n f k a : Nat} (hf : Pr f) (hn : n = f * k + 1) (hk : 0 < k) (hff : n < f * f) (hb : n - 1 < 2 ^ 64) (h1 : pm 64 a (n - 1) n = 1) (h2 : Nat.gcd (pm 64 a k n + (n - 1)) n = 1) (hkn : k < 2 ^ 64) : Pr n := by
  rw [pm_eq _ _ _ _ hb] at h1
  rw [pm_eq _ _ _ _ hkn] at h2
  exact pock hf hn hk hff h1 h2
theorem pr2835870689 : Pr 2835870689 := pock' (a := 2) (k := 29792) pr95189 rfl (by omega) (by omega) (by omega) (by decide +kernel) (by decide +kernel) (by omega)
theorem pr5671741379 : Pr 5671741379 := pock' (a := 2) (k := 2) pr2835870689 rfl (by omega) (by omega) (by omega) (by decide +kernel) (by decide +kernel) (by omega)
theorem pr288230376151711447 : Pr 288230376151711447 := pock' (a := 2) (k := 50818674) pr5671741379 rfl (by omega) (by omega) (by omega) (by decide +kernel) (by decide +kernel) (by omega)
theorem prQ : Pr 1152921504606845789 := pock' (a := 2) (k := 4) pr288230376151711447 rfl (by omega) (by omega) (by omega) (by decide +kernel) (by decide +kernel) (by omega)
end Go.Proofs.YtmgbcjjemlcfgaaGreatDoor
