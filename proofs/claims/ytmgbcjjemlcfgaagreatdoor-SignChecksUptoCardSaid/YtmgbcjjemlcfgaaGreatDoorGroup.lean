/- What is proved here: the group of the squares modulo P in plain Lean: powers of four, members, signatures; no program in sight. No conditions. -/
import Derived.Test.YtmgbcjjemlcfgaaGreatDoorPrime
import Derived.Test.YtmgbcjjemlcfgaaGreatDoorFldB
namespace Go.Proofs.YtmgbcjjemlcfgaaGreatDoor
def P0 : Nat := 2305843009213691579
/-- The order of the group, behind a name that the kernel does not open (it would reckon powers to it). -/
theorem Q0_is : ∃ q : Nat, q = 1152921504606845789 := ⟨_, rfl⟩
noncomputable def Q0 : Nat := Classical.choose Q0_is
theorem P0_val : P0 = 2305843009213691579 := rfl
theorem Q0_val : Q0 = 1152921504606845789 := Classical.choose_spec Q0_is
theorem Q0_int : (Q0 : Int) = 1152921504606845789 := by rw [Q0_val]; rfl
theorem prQ0 : Pr Q0 := by rw [Q0_val]; exact prQ
theorem one_P : 1 % P0 = 1 := rfl
/-- A power modulo P. -/
def pw (a n : Nat) : Nat := a ^ n % P0
def gp (n : Nat) : Nat := pw 4 n
theorem gQ : pw 4 Q0 = 1 := by
  unfold pw
  rw [← pm_eq 64 4 Q0 P0 (by rw [Q0_val]; omega), Q0_val]
  decide +kernel
theorem pw_lt (a n : Nat) : pw a n < P0 := Nat.mod_lt _ (by rw [P0_val]; omega)
theorem pw_add (a m n : Nat) : pw a (m + n) = pw a m * pw a n % P0 := by unfold pw; rw [Nat.pow_add, Nat.mul_mod]
theorem pw_mul (a m n : Nat) : pw (pw a m) n = pw a (m * n) := by unfold pw; rw [← Nat.pow_mod, Nat.pow_mul]
theorem pw_one (n : Nat) : pw 1 n = 1 := by unfold pw; rw [Nat.one_pow]; rfl
theorem pw_zero (a : Nat) : pw a 0 = 1 := by unfold pw; rw [Nat.pow_zero]; rfl
theorem pw_base (a n : Nat) : pw (a % P0) n = pw a n := by unfold pw; rw [← Nat.pow_mod]
/-- Members: what is one to the power of Q. -/
def Mem (a : Nat) : Prop := 0 < a ∧ a < P0 ∧ pw a Q0 = 1
theorem gp_mem (n : Nat) : Mem (gp n) := by
  have h : pw (gp n) Q0 = 1 := by
    unfold gp
    rw [pw_mul, Nat.mul_comm, ← pw_mul, gQ, pw_one]
  refine ⟨?_, pw_lt _ _, h⟩
  rcases Nat.eq_zero_or_pos (gp n) with h0 | h0
  · rw [h0] at h
    unfold pw at h
    rw [Nat.zero_pow (by rw [Q0_val]; omega)] at h
    cases h
  · exact h0
theorem mem_pow {a : Nat} (h : Mem a) (n : Nat) : Mem (pw a n) := by
  have h1 : pw (pw a n) Q0 = 1 := by rw [pw_mul, Nat.mul_comm, ← pw_mul, h.2.2, pw_one]
  refine ⟨?_, pw_lt _ _, h1⟩
  rcases Nat.eq_zero_or_pos (pw a n) with h0 | h0
  · rw [h0] at h1
    unfold pw at h1
    rw [Nat.zero_pow (by rw [Q0_val]; omega)] at h1
    cases h1
  · exact h0
/-- Exponents count modulo Q. -/
theorem mem_mod {a : Nat} (h : Mem a) (n : Nat) : pw a (n % Q0) = pw a n := by
  conv => rhs; rw [← Nat.div_add_mod n Q0]
  rw [pw_add, ← pw_mul, h.2.2, pw_one, Nat.one_mul]
  exact (Nat.mod_eq_of_lt (pw_lt _ _)).symm
theorem gp_mod (n : Nat) : gp (n % Q0) = gp n := mem_mod (a := 4) ⟨by omega, by rw [P0_val]; omega, gQ⟩ n
theorem one_mod_P {x : Nat} (h : x % P0 = 1) : x % P0 = 1 % P0 := by rw [h]; rfl
/-- A power of a member that is one, below Q: the member is one, or the exponent is naught. -/
theorem mem_order {a d : Nat} (h : Mem a) (hd : d < Q0) (h0 : 0 < d) (h1 : pw a d = 1) : a = 1 := by
  have hg := pow_gcd d Q0 (a := a) (m := P0) (one_mod_P h1) (one_mod_P h.2.2) h0
  have hq : Nat.gcd d Q0 = 1 := prQ0.2 d h0 hd
  rw [hq, Nat.pow_one, Nat.mod_eq_of_lt h.2.1, one_P] at hg
  exact hg
/-- Two powers of a member are alike at exponents below Q only if these are alike, or the member is one. -/
theorem mem_inj {a i j : Nat} (h : Mem a) (hi : i < Q0) (hj : j < Q0) (e : pw a i = pw a j) : i = j ∨ a = 1 := by
  have key : ∀ i j : Nat, i < j → j < Q0 → pw a i = pw a j → a = 1 := fun i j hij hj e => by
    have hc := pow_cancel (a := a) (m := P0) (M := Q0) (i := i) (d := j - i) (one_mod_P h.2.2) (by rw [Q0_val]; omega) (by rw [show i + (j - i) = j by omega]; exact e)
    exact mem_order (d := j - i) h (by omega) (by omega) (by unfold pw; rw [hc]; rfl)
  rcases Nat.lt_trichotomy i j with h1 | h1 | h1
  · exact .inr (key i j h1 hj e)
  · exact .inl h1
  · exact .inr (key j i h1 hi e.symm)
theorem gp_inj {i j : Nat} (hi : i < Q0) (hj : j < Q0) (e : gp i = gp j) : i = j := by
  rcases mem_inj (a := 4) ⟨by omega, by rw [P0_val]; omega, gQ⟩ hi hj e with h | h
  · exact h
  · cases h
/-- A member may be struck out of a product. -/
theorem mem_cancel {r x y : Nat} (h : Mem r) (hx : x < P0) (hy : y < P0) (e : r * x % P0 = r * y % P0) : x = y := by
  have h1 : ∀ z, z < P0 → pw r (Q0 - 1) * (r * z) % P0 = z := fun z hz => by
    have e1 : pw r (Q0 - 1) * (r * z) % P0 = pw r (Q0 - 1) * r % P0 * z % P0 := by
      rw [← Nat.mul_assoc, Nat.mod_mul_mod]
    have e2 : pw r (Q0 - 1) * r % P0 = 1 := by
      have h2 := pw_add r (Q0 - 1) 1
      rw [show Q0 - 1 + 1 = Q0 by rw [Q0_val], h.2.2] at h2
      have h3 : pw r 1 = r % P0 := by unfold pw; rw [Nat.pow_one]
      rw [h3, Nat.mul_mod_mod] at h2
      exact h2.symm
    rw [e1, e2, Nat.one_mul, Nat.mod_eq_of_lt hz]
  rw [← h1 x hx, ← h1 y hy, ← Nat.mul_mod_mod, e, Nat.mul_mod_mod]
/-! ### Signatures -/
def bytes8 (n : Int) : List UInt8 := [7, 6, 5, 4, 3, 2, 1, 0].map fun k => UInt8.ofNat (n / 2 ^ (8 * k) % 256).toNat
theorem bytes8_len (n : Int) : (bytes8 n).length = 8 := by simp [bytes8]
/-- The exponent of a secret. -/
noncomputable def expo (x : Int) : Nat := (x % (Q0 : Int)).toNat
theorem expo_lt (x : Int) : expo x < Q0 := by
  unfold expo
  have := Int.emod_nonneg x (show (Q0 : Int) ≠ 0 by rw [Q0_val]; omega)
  have := Int.emod_lt_of_pos x (show (0 : Int) < Q0 by rw [Q0_val]; omega)
  omega
theorem expo_eq (x : Int) : (expo x : Int) = x % (Q0 : Int) := by
  unfold expo
  have := Int.emod_nonneg x (show (Q0 : Int) ≠ 0 by rw [Q0_val]; omega)
  omega
theorem expo_self {x : Nat} (h : x < Q0) : expo (x : Int) = x := by
  unfold expo
  rw [Int.emod_eq_of_lt (by omega) (by omega), Int.toNat_natCast]
noncomputable def pub (x : Int) : Nat := gp (expo x)
def hashS (letter : UInt8) (nums : List Int) (text : List UInt8) : List UInt8 := letter :: nums.flatMap bytes8 ++ text
noncomputable def chal (r key : Int) (text : List UInt8) : Nat := (hashF (Q0 : Int) (hashS 99 [r, key] text)).toNat
theorem hashF_in {p : Int} (hp : 0 < p) (l : List UInt8) : 0 ≤ hashF p l ∧ hashF p l < p := accF_in p hp _
theorem chal_eq (r key : Int) (text : List UInt8) : (chal r key text : Int) = hashF (Q0 : Int) (hashS 99 [r, key] text) := by
  have := (hashF_in (p := (Q0 : Int)) (by rw [Q0_val]; omega) (hashS 99 [r, key] text)).1
  unfold chal
  omega
theorem chal_lt (r key : Int) (text : List UInt8) : chal r key text < Q0 := by
  have := (hashF_in (p := (Q0 : Int)) (by rw [Q0_val]; omega) (hashS 99 [r, key] text)).2
  rw [← chal_eq] at this
  omega
noncomputable def nonce (x : Int) (text : List UInt8) : Nat := (hashF ((Q0 : Int) - 1) (hashS 110 [x] text)).toNat + 1
theorem nonce_eq (x : Int) (text : List UInt8) : (nonce x text : Int) = hashF ((Q0 : Int) - 1) (hashS 110 [x] text) + 1 := by
  have := (hashF_in (p := (Q0 : Int) - 1) (by rw [Q0_val]; omega) (hashS 110 [x] text)).1
  unfold nonce
  omega
theorem nonce_lt (x : Int) (text : List UInt8) : nonce x text < Q0 := by
  have := (hashF_in (p := (Q0 : Int) - 1) (by rw [Q0_val]; omega) (hashS 110 [x] text)).2
  have e := nonce_eq x text
  omega
/-- The secret of a seed. -/
noncomputable def keyOf (seed : List UInt8) : Nat := (hashF ((Q0 : Int) - 1) (107 :: seed)).toNat + 1
theorem keyOf_eq (seed : List UInt8) : (keyOf seed : Int) = hashF ((Q0 : Int) - 1) (107 :: seed) + 1 := by
  have := (hashF_in (p := (Q0 : Int) - 1) (by rw [Q0_val]; omega) (107 :: seed)).1
  unfold keyOf
  omega
theorem keyOf_lt (seed : List UInt8) : 0 < keyOf seed ∧ keyOf seed < Q0 := by
  have := (hashF_in (p := (Q0 : Int) - 1) (by rw [Q0_val]; omega) (107 :: seed)).2
  have e := keyOf_eq seed
  have : 0 < keyOf seed := by unfold keyOf; omega
  omega
/-- A signature with a given n: R and S. -/
def sigR (n : Nat) : Nat := gp n
noncomputable def sigS (x : Int) (text : List UInt8) (n : Nat) : Nat := (n + expo x * chal (gp n) (pub x) text) % Q0
theorem sigS_lt (x : Int) (text : List UInt8) (n : Nat) : sigS x text n < Q0 := Nat.mod_lt _ (by rw [Q0_val]; omega)
def memI (a : Int) : Prop := ∃ k : Nat, a = (k : Int) ∧ Mem k
/-- Whether a signature is accepted. -/
def Good (key : Int) (text : List UInt8) (r s : Int) : Prop :=
  memI key ∧ memI r ∧ 0 ≤ s ∧ s < (Q0 : Int) ∧ gp s.toNat = r.toNat * pw key.toNat (chal r key text) % P0
/-- What was signed is accepted, with every n. -/
theorem good_signed (x : Int) (text : List UInt8) (n : Nat) : Good (pub x) text (sigR n) (sigS x text n) := by
  refine ⟨⟨pub x, rfl, gp_mem _⟩, ⟨sigR n, rfl, gp_mem _⟩, by omega, by have := sigS_lt x text n; omega, ?_⟩
  rw [Int.toNat_natCast, Int.toNat_natCast, Int.toNat_natCast]
  unfold sigS sigR
  rw [gp_mod]
  unfold gp pub
  rw [pw_add, ← pw_mul]
  rfl
/-- At most one S. -/
theorem good_one {key : Int} {text : List UInt8} {r s t : Int} (h : Good key text r s) (k : Good key text r t) : s = t := by
  obtain ⟨_, _, s0, s1, e⟩ := h
  obtain ⟨_, _, t0, t1, f⟩ := k
  have := gp_inj (i := s.toNat) (j := t.toNat) (by omega) (by omega) (e.trans f.symm)
  omega
/-- One signature for two texts: their challenges are alike, or the key is one. -/
theorem good_two {key : Int} {a b : List UInt8} {r s : Int} (h : Good key a r s) (k : Good key b r s) : chal r key a = chal r key b ∨ key = 1 := by
  obtain ⟨⟨k1, hk, hm⟩, ⟨r1, hr, hrm⟩, _, _, e⟩ := h
  obtain ⟨_, _, _, _, f⟩ := k
  rw [e] at f
  rw [hr, Int.toNat_natCast] at f
  have f2 := mem_cancel hrm (pw_lt _ _) (pw_lt _ _) f
  rw [hk, Int.toNat_natCast] at f2
  rw [hr, hk]
  rcases mem_inj hm (chal_lt _ _ _) (chal_lt _ _ _) f2 with h1 | h1
  · exact .inl h1
  · exact .inr (by rw [h1]; rfl)
/-! ### Powers by squares -/
/-- The power of a residue. -/
def powI (a : Int) (n : Nat) (m : Int) : Nat := res a m ^ n % m.toNat
theorem pstep_odd {m o u v g : Nat} (h : o * u ^ v % m = g) (hv : v % 2 = 1) : o * u % m * (u * u % m) ^ (v / 2) % m = g := by
  rw [← h, Nat.mod_mul_mod, Nat.mul_mod, ← Nat.pow_mod, ← Nat.mul_mod, ← Nat.pow_two, ← Nat.pow_mul, Nat.mul_assoc, ← Nat.pow_succ']
  congr 3
  omega
theorem pstep_even {m o u v g : Nat} (h : o * u ^ v % m = g) (hv : v % 2 = 0) : o * (u * u % m) ^ (v / 2) % m = g := by
  rw [← h, Nat.mul_mod, ← Nat.pow_mod, ← Nat.mul_mod, ← Nat.pow_two, ← Nat.pow_mul]
  congr 3
  omega
/-- A bit more, from the top. -/
theorem bstep_two (x q m : Nat) : x ^ q % m * (x ^ q % m) % m = x ^ (2 * q) % m := by
  rw [← Nat.mul_mod, ← Nat.pow_add]
  congr 2
  omega
theorem bstep_one (x q m : Nat) : x ^ (2 * q) % m * x % m = x ^ (2 * q + 1) % m := by
  rw [Nat.mod_mul_mod, Nat.pow_succ]
end Go.Proofs.YtmgbcjjemlcfgaaGreatDoor
