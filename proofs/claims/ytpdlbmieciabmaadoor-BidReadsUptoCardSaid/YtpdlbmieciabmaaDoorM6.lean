/- What is proved here: several parts. the group of the squares modulo P in plain Lean: powers of four, members, signatures; no program in sight. No conditions. · powers in the field, by the reference. Conditions: the modulus is positive, the exponent is not negative. · the binary digits of a number, most significant first, as an iterator visits them. Conditions: the number is not negative. · powers in the field, by the program. Conditions: the modulus is positive, the exponent is not negative. -/
import Derived.Test.YtpdlbmieciabmaaDoorM4
import Derived.Test.YtpdlbmieciabmaaDoorM5
import Derived.Test.YtpdlbmieciabmaaDoorM2
import Derived.Lib.ItoaNum
namespace Go.Proofs.YtpdlbmieciabmaaDoor
def P0 : Nat := 2305843009213691579
/-- The order of the group, behind a name that the kernel does not open (it would reckon powers to it). -/
theorem Q0_is : ∃ q : Nat, q = 1152921504606845789 := ⟨_, rfl⟩
noncomputable def Q0 : Nat := Classical.choose Q0_is
theorem P0_val : P0 = 2305843009213691579 := rfl
theorem Q0_val : Q0 = 1152921504606845789 := Classical.choose_spec Q0_is
theorem Q0_int : (Q0 : Int) = 1152921504606845789 := by rw [Q0_val]; rfl
theorem prQ0 : Pr Q0 := by rw [Q0_val]; exact prQ
theorem one_P : 1 % P0 = 1 := rfl
/-- A power modulo P. -/
def pw (a n : Nat) : Nat := a ^ n % P0
def gp (n : Nat) : Nat := pw 4 n
theorem gQ : pw 4 Q0 = 1 := by
  unfold pw
  rw [← pm_eq 64 4 Q0 P0 (by rw [Q0_val]; omega), Q0_val]
  decide +kernel
theorem pw_lt (a n : Nat) : pw a n < P0 := Nat.mod_lt _ (by rw [P0_val]; omega)
theorem pw_add (a m n : Nat) : pw a (m + n) = pw a m * pw a n % P0 := by unfold pw; rw [Nat.pow_add, Nat.mul_mod]
theorem pw_mul (a m n : Nat) : pw (pw a m) n = pw a (m * n) := by unfold pw; rw [← Nat.pow_mod, Nat.pow_mul]
theorem pw_one (n : Nat) : pw 1 n = 1 := by unfold pw; rw [Nat.one_pow]; rfl
theorem pw_zero (a : Nat) : pw a 0 = 1 := by unfold pw; rw [Nat.pow_zero]; rfl
theorem pw_base (a n : Nat) : pw (a % P0) n = pw a n := by unfold pw; rw [← Nat.pow_mod]
/-- Members: what is one to the power of Q. -/
def Mem (a : Nat) : Prop := 0 < a ∧ a < P0 ∧ pw a Q0 = 1
theorem gp_mem (n : Nat) : Mem (gp n) := by
  have h : pw (gp n) Q0 = 1 := by
    unfold gp
    rw [pw_mul, Nat.mul_comm, ← pw_mul, gQ, pw_one]
  refine ⟨?_, pw_lt _ _, h⟩
  rcases Nat.eq_zero_or_pos (gp n) with h0 | h0
  · rw [h0] at h
    unfold pw at h
    rw [Nat.zero_pow (by rw [Q0_val]; omega)] at h
    cases h
  · exact h0
theorem mem_pow {a : Nat} (h : Mem a) (n : Nat) : Mem (pw a n) := by
  have h1 : pw (pw a n) Q0 = 1 := by rw [pw_mul, Nat.mul_comm, ← pw_mul, h.2.2, pw_one]
  refine ⟨?_, pw_lt _ _, h1⟩
  rcases Nat.eq_zero_or_pos (pw a n) with h0 | h0
  · rw [h0] at h1
    unfold pw at h1
    rw [Nat.zero_pow (by rw [Q0_val]; omega)] at h1
    cases h1
  · exact h0
/-- Exponents count modulo Q. -/
theorem mem_mod {a : Nat} (h : Mem a) (n : Nat) : pw a (n % Q0) = pw a n := by
  conv => rhs; rw [← Nat.div_add_mod n Q0]
  rw [pw_add, ← pw_mul, h.2.2, pw_one, Nat.one_mul]
  exact (Nat.mod_eq_of_lt (pw_lt _ _)).symm
theorem gp_mod (n : Nat) : gp (n % Q0) = gp n := mem_mod (a := 4) ⟨by omega, by rw [P0_val]; omega, gQ⟩ n
theorem one_mod_P {x : Nat} (h : x % P0 = 1) : x % P0 = 1 % P0 := by rw [h]; rfl
/-- A power of a member that is one, below Q: the member is one, or the exponent is naught. -/
theorem mem_order {a d : Nat} (h : Mem a) (hd : d < Q0) (h0 : 0 < d) (h1 : pw a d = 1) : a = 1 := by
  have hg := pow_gcd d Q0 (a := a) (m := P0) (one_mod_P h1) (one_mod_P h.2.2) h0
  have hq : Nat.gcd d Q0 = 1 := prQ0.2 d h0 hd
  rw [hq, Nat.pow_one, Nat.mod_eq_of_lt h.2.1, one_P] at hg
  exact hg
/-- Two powers of a member are alike at exponents below Q only if these are alike, or the member is one. -/
theorem mem_inj {a i j : Nat} (h : Mem a) (hi : i < Q0) (hj : j < Q0) (e : pw a i = pw a j) : i = j ∨ a = 1 := by
  have key : ∀ i j : Nat, i < j → j < Q0 → pw a i = pw a j → a = 1 := fun i j hij hj e => by
    have hc := pow_cancel (a := a) (m := P0) (M := Q0) (i := i) (d := j - i) (one_mod_P h.2.2) (by rw [Q0_val]; omega) (by rw [show i + (j - i) = j by omega]; exact e)
    exact mem_order (d := j - i) h (by omega) (by omega) (by unfold pw; rw [hc]; rfl)
  rcases Nat.lt_trichotomy i j with h1 | h1 | h1
  · exact .inr (key i j h1 hj e)
  · exact .inl h1
  · exact .inr (key j i h1 hi e.symm)
theorem gp_inj {i j : Nat} (hi : i < Q0) (hj : j < Q0) (e : gp i = gp j) : i = j := by
  rcases mem_inj (a := 4) ⟨by omega, by rw [P0_val]; omega, gQ⟩ hi hj e with h | h
  · exact h
  · cases h
/-- A member may be struck out of a product. -/
theorem mem_cancel {r x y : Nat} (h : Mem r) (hx : x < P0) (hy : y < P0) (e : r * x % P0 = r * y % P0) : x = y := by
  have h1 : ∀ z, z < P0 → pw r (Q0 - 1) * (r * z) % P0 = z := fun z hz => by
    have e1 : pw r (Q0 - 1) * (r * z) % P0 = pw r (Q0 - 1) * r % P0 * z % P0 := by
      rw [← Nat.mul_assoc, Nat.mod_mul_mod]
    have e2 : pw r (Q0 - 1) * r % P0 = 1 := by
      have h2 := pw_add r (Q0 - 1) 1
      rw [show Q0 - 1 + 1 = Q0 by rw [Q0_val], h.2.2] at h2
      have h3 : pw r 1 = r % P0 := by unfold pw; rw [Nat.pow_one]
      rw [h3, Nat.mul_mod_mod] at h2
      exact h2.symm
    rw [e1, e2, Nat.one_mul, Nat.mod_eq_of_lt hz]
  rw [← h1 x hx, ← h1 y hy, ← Nat.mul_mod_mod, e, Nat.mul_mod_mod]
/-! ### Signatures -/
def bytes8 (n : Int) : List UInt8 := [7, 6, 5, 4, 3, 2, 1, 0].map fun k => UInt8.ofNat (n / 2 ^ (8 * k) % 256).toNat
theorem bytes8_len (n : Int) : (bytes8 n).length = 8 := by simp [bytes8]
/-- The exponent of a secret. -/
noncomputable def expo (x : Int) : Nat := (x % (Q0 : Int)).toNat
theorem expo_lt (x : Int) : expo x < Q0 := by
  unfold expo
  have := Int.emod_nonneg x (show (Q0 : Int) ≠ 0 by rw [Q0_val]; omega)
  have := Int.emod_lt_of_pos x (show (0 : Int) < Q0 by rw [Q0_val]; omega)
  omega
theorem expo_eq (x : Int) : (expo x : Int) = x % (Q0 : Int) := by
  unfold expo
  have := Int.emod_nonneg x (show (Q0 : Int) ≠ 0 by rw [Q0_val]; omega)
  omega
theorem expo_self {x : Nat} (h : x < Q0) : expo (x : Int) = x := by
  unfold expo
  rw [Int.emod_eq_of_lt (by omega) (by omega), Int.toNat_natCast]
noncomputable def pub (x : Int) : Nat := gp (expo x)
def hashS (letter : UInt8) (nums : List Int) (text : List UInt8) : List UInt8 := letter :: nums.flatMap bytes8 ++ text
noncomputable def chal (r key : Int) (text : List UInt8) : Nat := (hashF (Q0 : Int) (hashS 99 [r, key] text)).toNat
theorem hashF_in {p : Int} (hp : 0 < p) (l : List UInt8) : 0 ≤ hashF p l ∧ hashF p l < p := accF_in p hp _
theorem chal_eq (r key : Int) (text : List UInt8) : (chal r key text : Int) = hashF (Q0 : Int) (hashS 99 [r, key] text) := by
  have := (hashF_in (p := (Q0 : Int)) (by rw [Q0_val]; omega) (hashS 99 [r, key] text)).1
  unfold chal
  omega
theorem chal_lt (r key : Int) (text : List UInt8) : chal r key text < Q0 := by
  have := (hashF_in (p := (Q0 : Int)) (by rw [Q0_val]; omega) (hashS 99 [r, key] text)).2
  rw [← chal_eq] at this
  omega
noncomputable def nonce (x : Int) (text : List UInt8) : Nat := (hashF ((Q0 : Int) - 1) (hashS 110 [x] text)).toNat + 1
theorem nonce_eq (x : Int) (text : List UInt8) : (nonce x text : Int) = hashF ((Q0 : Int) - 1) (hashS 110 [x] text) + 1 := by
  have := (hashF_in (p := (Q0 : Int) - 1) (by rw [Q0_val]; omega) (hashS 110 [x] text)).1
  unfold nonce
  omega
theorem nonce_lt (x : Int) (text : List UInt8) : nonce x text < Q0 := by
  have := (hashF_in (p := (Q0 : Int) - 1) (by rw [Q0_val]; omega) (hashS 110 [x] text)).2
  have e := nonce_eq x text
  omega
/-- The secret of a seed. -/
noncomputable def keyOf (seed : List UInt8) : Nat := (hashF ((Q0 : Int) - 1) (107 :: seed)).toNat + 1
theorem keyOf_eq (seed : List UInt8) : (keyOf seed : Int) = hashF ((Q0 : Int) - 1) (107 :: seed) + 1 := by
  have := (hashF_in (p := (Q0 : Int) - 1) (by rw [Q0_val]; omega) (107 :: seed)).1
  unfold keyOf
  omega
theorem keyOf_lt (seed : List UInt8) : 0 < keyOf seed ∧ keyOf seed < Q0 := by
  have := (hashF_in (p := (Q0 : Int) - 1) (by rw [Q0_val]; omega) (107 :: seed)).2
  have e := keyOf_eq seed
  have : 0 < keyOf seed := by unfold keyOf; omega
  omega
/-- A signature with a given n: R and S. -/
def sigR (n : Nat) : Nat := gp n
noncomputable def sigS (x : Int) (text : List UInt8) (n : Nat) : Nat := (n + expo x * chal (gp n) (pub x) text) % Q0
theorem sigS_lt (x : Int) (text : List UInt8) (n : Nat) : sigS x text n < Q0 := Nat.mod_lt _ (by rw [Q0_val]; omega)
def memI (a : Int) : Prop := ∃ k : Nat, a = (k : Int) ∧ Mem k
/-- Whether a signature is accepted. -/
def Good (key : Int) (text : List UInt8) (r s : Int) : Prop :=
  memI key ∧ memI r ∧ 0 ≤ s ∧ s < (Q0 : Int) ∧ gp s.toNat = r.toNat * pw key.toNat (chal r key text) % P0
/-- What was signed is accepted, with every n. -/
theorem good_signed (x : Int) (text : List UInt8) (n : Nat) : Good (pub x) text (sigR n) (sigS x text n) := by
  refine ⟨⟨pub x, rfl, gp_mem _⟩, ⟨sigR n, rfl, gp_mem _⟩, by omega, by have := sigS_lt x text n; omega, ?_⟩
  rw [Int.toNat_natCast, Int.toNat_natCast, Int.toNat_natCast]
  unfold sigS sigR
  rw [gp_mod]
  unfold gp pub
  rw [pw_add, ← pw_mul]
  rfl
/-- At most one S. -/
theorem good_one {key : Int} {text : List UInt8} {r s t : Int} (h : Good key text r s) (k : Good key text r t) : s = t := by
  obtain ⟨_, _, s0, s1, e⟩ := h
  obtain ⟨_, _, t0, t1, f⟩ := k
  have := gp_inj (i := s.toNat) (j := t.toNat) (by omega) (by omega) (e.trans f.symm)
  omega
/-- One signature for two texts: their challenges are alike, or the key is one. -/
theorem good_two {key : Int} {a b : List UInt8} {r s : Int} (h : Good key a r s) (k : Good key b r s) : chal r key a = chal r key b ∨ key = 1 := by
  obtain ⟨⟨k1, hk, hm⟩, ⟨r1, hr, hrm⟩, _, _, e⟩ := h
  obtain ⟨_, _, _, _, f⟩ := k
  rw [e] at f
  rw [hr, Int.toNat_natCast] at f
  have f2 := mem_cancel hrm (pw_lt _ _) (pw_lt _ _) f
  rw [hk, Int.toNat_natCast] at f2
  rw [hr, hk]
  rcases mem_inj hm (chal_lt _ _ _) (chal_lt _ _ _) f2 with h1 | h1
  · exact .inl h1
  · exact .inr (by rw [h1]; rfl)
/-! ### Powers by squares -/
/-- The power of a residue. -/
def powI (a : Int) (n : Nat) (m : Int) : Nat := res a m ^ n % m.toNat
theorem pstep_odd {m o u v g : Nat} (h : o * u ^ v % m = g) (hv : v % 2 = 1) : o * u % m * (u * u % m) ^ (v / 2) % m = g := by
  rw [← h, Nat.mod_mul_mod, Nat.mul_mod, ← Nat.pow_mod, ← Nat.mul_mod, ← Nat.pow_two, ← Nat.pow_mul, Nat.mul_assoc, ← Nat.pow_succ']
  congr 3
  omega
theorem pstep_even {m o u v g : Nat} (h : o * u ^ v % m = g) (hv : v % 2 = 0) : o * (u * u % m) ^ (v / 2) % m = g := by
  rw [← h, Nat.mul_mod, ← Nat.pow_mod, ← Nat.mul_mod, ← Nat.pow_two, ← Nat.pow_mul]
  congr 3
  omega
/-- A bit more, from the top. -/
theorem bstep_two (x q m : Nat) : x ^ q % m * (x ^ q % m) % m = x ^ (2 * q) % m := by
  rw [← Nat.mul_mod, ← Nat.pow_add]
  congr 2
  omega
theorem bstep_one (x q m : Nat) : x ^ (2 * q) % m * x % m = x ^ (2 * q + 1) % m := by
  rw [Nat.mod_mul_mod, Nat.pow_succ]
end Go.Proofs.YtpdlbmieciabmaaDoor
namespace Go.Proofs.YtpdlbmieciabmaaDoor
open Go.RowKit Go.Shelf
theorem res_nat (a : Int) (M : Nat) (hM : 0 < M) : ((res a (M : Int) : Nat) : Int) = a % (M : Int) := res_eq (by omega)
end Go.Proofs.YtpdlbmieciabmaaDoor
namespace Go.Proofs.YtpdlbmieciabmaaDoor
open Go.RowKit Go.Shelf
attribute [local go_sem] Oper.semAt_some
/-- One block lies as it lay. -/
def KeptA (A : Nat) (W W' : World) : Prop := W'.heap[A]? = W.heap[A]?
theorem keptA_t {A : Nat} {X Y Z : World} (h : KeptA A X Y) (k : KeptA A Y Z) : KeptA A X Z := Eq.trans k h
theorem keptA_b {A : Nat} {w : World} (hA : A < w.heap.size) (W : World) (l : Nat) (o o' : Obj) (hl : w.heap.size ≤ l) (_ : W.heap[l]? = some o) (_ : o.isCells = false) (_ : o.isWalk = false) : KeptA A W (W.putObj l o') :=
  World.putObj_heap_other (by omega)
theorem KeptA.cell {A : Nat} {W W' : World} (h : KeptA A W W') (o : Nat) : W'.cell? ⟨A, o, none⟩ = W.cell? ⟨A, o, none⟩ := World.cell?_of_block h
/-- The binary digit at a place. -/
def bitAt (n k : Nat) : Bool := decide (n / 2 ^ k % 2 = 1)
theorem and_one (y : Nat) : bits .and .i64 (y : Int) 1 = ((y % 2 : Nat) : Int) := by
  show IntKind.i64.wrap ((BitVec.ofInt 64 (y : Int) &&& BitVec.ofInt 64 1).toNat : Int) = _
  have e : (BitVec.ofInt 64 (y : Int) &&& BitVec.ofInt 64 1).toNat = y % 2 := by
    rw [BitVec.toNat_and, show (BitVec.ofInt 64 1).toNat = 1 from by decide, Nat.and_one_is_mod, show BitVec.ofInt 64 (y : Int) = BitVec.ofNat 64 y by simp, BitVec.toNat_ofNat]
    omega
  rw [e, IntKind.wrap_i64]
  omega
theorem bit_run (n k : Nat) : (bits .and .i64 ((n : Int) / 2 ^ k) 1 == 1) = bitAt n k := by
  have e : (n : Int) / 2 ^ k = ((n / 2 ^ k : Nat) : Int) := by
    rw [Int.natCast_ediv]; congr 1
  rw [e, and_one, bitAt, Bool.eq_iff_iff]
  simp
  omega
end Go.Proofs.YtpdlbmieciabmaaDoor
namespace Go.Proofs.YtpdlbmieciabmaaDoor
open Go.RowKit Go.Shelf
attribute [local go_sem] Oper.semAt_some
theorem cells_stay {X Y : World} {row : Option Nat} (hg : X.grownBy Y row) (hr : ∀ r, row = some r → ∃ o : Obj, X.heap[r]? = some o ∧ o.isCells = false) {k : Nat} {cs : Array Value} {t : TypeId} {fr : Nat × Nat} (h : X.heap[k]? = some (.cells cs t fr)) : Y.heap[k]? = X.heap[k]? :=
  hg.block k (Array.getElem?_eq_some_iff.1 h).1 (fun e => by
    obtain ⟨o, ho, hc⟩ := hr k e.symm
    rw [h] at ho; cases ho; cases hc)
/-- What holds between two digits. -/
structure PowI (w0 : World) (B : Nat) (x M o : Nat) (W : World) : Prop where
  bx : Blk W B 117 #[.int .u64 (x : Int)]
  bm : Blk W (B + 1) 117 #[.int .u64 (M : Int)]
  bo : Blk W (B + 2) 117 #[.int .u64 (o : Int)]
  rest : Only NoneOf w0 W
  new : w0.heap.size ≤ B
theorem PowI.grown {w0 : World} {B x M o : Nat} {X Y : World} {row : Option Nat} (h : PowI w0 B x M o X) (hg : X.grownBy Y row) (hr : ∀ r, row = some r → w0.heap.size ≤ r ∧ ∃ o : Obj, X.heap[r]? = some o ∧ o.isCells = false) : PowI w0 B x M o Y :=
  ⟨(cells_stay hg (fun r e => (hr r e).2) h.bx).trans h.bx, (cells_stay hg (fun r e => (hr r e).2) h.bm).trans h.bm, (cells_stay hg (fun r e => (hr r e).2) h.bo).trans h.bo, h.rest.grown hg (fun k hk => .inr (hr k hk).1), h.new⟩
theorem PowI.drewN {w0 : World} {B x M o : Nat} {X : World} (h : PowI w0 B x M o X) (k : Nat) : PowI w0 B x M o (X.drewN k) := ⟨h.bx, h.bm, h.bo, h.rest.drewN k, h.new⟩
theorem PowI.set {w0 : World} {B x M o : Nat} {X : World} (h : PowI w0 B x M o X) (v : Nat) : PowI w0 B x M v (X.setCell ⟨B + 2, 0, none⟩ (.int .u64 (v : Int))) :=
  ⟨h.bx.far (p := ⟨B + 2, 0, none⟩) (by show B ≠ B + 2; omega) _, h.bm.far (p := ⟨B + 2, 0, none⟩) (by show B + 1 ≠ B + 2; omega) _, h.bo.set_ 0 _, h.rest.setCell (p := ⟨B + 2, 0, none⟩) (.inr (by have := h.new; show _ ≤ B + 2; omega)) _, h.new⟩
/-- The power of the first k digits. -/
def pk (x n m M k : Nat) : Nat := x ^ (n / 2 ^ (m - k)) % M
theorem pk_next {x n m M k : Nat} (h : k < m) : pk x n m M (k + 1) = if bitAt n (m - 1 - k) then pk x n m M k * pk x n m M k % M * x % M else pk x n m M k * pk x n m M k % M := by
  unfold pk bitAt
  obtain ⟨j, ej⟩ : ∃ j, j = m - 1 - k := ⟨_, rfl⟩
  rw [← ej, show m - (k + 1) = j by omega, show m - k = j + 1 by omega, bstep_two]
  have e : n / 2 ^ (j + 1) = n / 2 ^ j / 2 := by rw [Nat.pow_succ, Nat.div_div_eq_div_mul]
  rw [e]
  by_cases hb : n / 2 ^ j % 2 = 1
  · rw [if_pos (by simpa using hb), bstep_one, show 2 * (n / 2 ^ j / 2) + 1 = n / 2 ^ j by omega]
  · rw [if_neg (by simpa using hb), show 2 * (n / 2 ^ j / 2) = n / 2 ^ j by omega]
theorem pk_zero {x n M : Nat} (hn : n < 2 ^ 64) : pk x n (Lib.bitLen n) M 0 = 1 % M := by
  unfold pk
  rw [Nat.sub_zero]
  by_cases h0 : n = 0
  · subst h0; simp
  · have := (Lib.bitLenAux_bounds 64 n hn h0).2.2
    unfold Lib.bitLen
    rw [Nat.div_eq_of_lt this, Nat.pow_zero]
theorem pk_all (x n m M : Nat) : pk x n m M m = x ^ n % M := by unfold pk; rw [Nat.sub_self, Nat.pow_zero, Nat.div_one]
def stepP (x M : Nat) (b : Bool) (o : Nat) : Nat := if b then o * o % M * x % M else o * o % M
theorem stepP_lt {x M : Nat} (hM : 0 < M) (b : Bool) (o : Nat) : stepP x M b o < M := by
  unfold stepP
  split <;> exact Nat.mod_lt _ hM
/-- The power when these digits have been seen. -/
def foldP (x n M : Nat) {m : Nat} (pre : List (Fin m)) : Nat := pre.foldl (fun o i => stepP x M (bitAt n (m - 1 - i.val)) o) (1 % M)
theorem foldP_snoc (x n M : Nat) {m : Nat} (pre : List (Fin m)) (i : Fin m) : foldP x n M (pre ++ [i]) = stepP x M (bitAt n (m - 1 - i.val)) (foldP x n M pre) := by simp [foldP]
theorem foldP_lt {x n M : Nat} (hM : 0 < M) {m : Nat} (pre : List (Fin m)) : foldP x n M pre < M := by
  rcases List.eq_nil_or_concat pre with e | ⟨l, i, e⟩
  · subst e; exact Nat.mod_lt _ hM
  · rw [e, List.concat_eq_append, foldP_snoc]; exact stepP_lt hM _ _
theorem foldP_take {x n M m : Nat} (hn : n < 2 ^ 64) (hm : m = Lib.bitLen n) : ∀ k, k ≤ m → foldP x n M ((List.finRange m).take k) = pk x n m M k := by
  intro k
  induction k with
  | zero => intro _; rw [hm, pk_zero hn]; rfl
  | succ k ih =>
    intro hk
    rw [fin_take (show k < m by omega), foldP_snoc, ih (by omega), pk_next (show k < m by omega)]
    rfl
theorem foldP_all {x n M m : Nat} (hn : n < 2 ^ 64) (hm : m = Lib.bitLen n) : foldP x n M (List.finRange m) = x ^ n % M := by
  have h := foldP_take (x := x) (M := M) hn hm m (Nat.le_refl _)
  rwa [fin_all, pk_all] at h
end Go.Proofs.YtpdlbmieciabmaaDoor
