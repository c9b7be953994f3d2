/- What is proved here: the law on the least number answers true. Condition: the table of powers of ten reads as its initialiser lays it. -/
import Derived.Test.YtoehfainhmfghaaDoorQSa
import Derived.Test.YtoehfainhmfghaaDoorQNd
import Derived.Laws.BitsLemmas
namespace Go.Proofs.YtoehfainhmfghaaDoor
open Go.RowKit Go.Shelf
/-- A number's last twenty bits. -/
theorem low_bits (n : Int) : 0 ≤ bits .and .i64 n 1048575 ∧ bits .and .i64 n 1048575 ≤ 1048575 := by
  have e : (BitVec.ofInt IntKind.i64.bits 1048575).toNat = 1048575 := by decide
  have h : ((BitVec.ofInt IntKind.i64.bits n) &&& (BitVec.ofInt IntKind.i64.bits 1048575)).toNat ≤ 1048575 := by
    rw [BitVec.toNat_and, e]
    exact Nat.and_le_right
  obtain ⟨x, hx⟩ : ∃ x, x = ((BitVec.ofInt IntKind.i64.bits n) &&& (BitVec.ofInt IntKind.i64.bits 1048575)).toNat := ⟨_, rfl⟩
  have e2 : bits .and .i64 n 1048575 = IntKind.i64.wrap (x : Nat) := by rw [hx]; rfl
  rw [← hx] at h
  rw [e2, IntKind.wrap_i64]
  omega
set_option maxRecDepth 100000 in
set_option maxHeartbeats 4000000 in
theorem qneed_law (n : Int) (iw : In n) (w : World) (ht : Tab w) : Calls Tryd.prog 3 #[.int .i64 n] w fun e w' => e = .returned (.bool true) ∧ Only NoneOf w w' := by
  have hsa : Calls Tryd.prog 4 #[] w fun e w' => e = .returned (.bool true) ∧ Only NoneOf w w' := sanity29 w ht
  have f1 : ∀ k, In k → ∀ W, Calls Tryd.prog 5 #[.int .i64 k] W fun e w' => e = .returned (.int .i64 (needI k)) ∧ w' = W := fun k hk W => qneed_any k hk W
  have f2 : ∀ W, Calls Tryd.prog 6 #[.int .i64 n] W fun e w' => e = .returned (.int .i64 (needI n)) ∧ w' = W := fun W => rqneed_any n iw W
  have HSA := Lib.hid hsa
  have F1 := Lib.hid f1
  have F2 := Lib.hid f2
  have IW := Lib.hid iw
  clear hsa f1 f2 ht iw
  go_enter Tryd.func3, Tryd.ntmps3
  go_wp2_with fail
  refine HSA.out.mono ?_
  rintro e1 w1 ⟨rfl, ho1⟩
  have HO1 := Lib.hid ho1
  clear ho1
  go_wp2_with fail
  obtain ⟨hm0, hm1⟩ := low_bits n
  generalize bits .and .i64 n 1048575 = m at hm0 hm1 ⊢
  have hneed : needI m = 2 * (m / 3) + m % 3 * 2 / 3 + 1 := by unfold needI; split <;> omega
  refine (F1.out m ⟨by omega, by omega⟩ _).mono ?_
  rintro e2 w2 ⟨rfl, rfl⟩
  generalize needI m = d at hneed
  go_wp2_with fail
  refine (F1.out n IW.out _).mono ?_
  rintro e3 w3 ⟨rfl, rfl⟩
  go_wp2_with fail
  refine (F2.out _).mono ?_
  rintro e4 w4 ⟨rfl, rfl⟩
  go_wp2_with fail
  have hq : decide (3 * (2 * (m / 3) + m % 3 * 2 / 3) ≤ 2 * m) = true := decide_eq_true (by omega)
  rw [hq]
  go_ret
  exact ⟨rfl, HO1.out⟩
end Go.Proofs.YtoehfainhmfghaaDoor
