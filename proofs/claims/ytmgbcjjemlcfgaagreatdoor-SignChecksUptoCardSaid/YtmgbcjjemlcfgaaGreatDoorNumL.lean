/- What is proved here: small laws on decimal numerals and on strings that calls return; no function of the program. No conditions. -/
import Derived.Test.YtmgbcjjemlcfgaaGreatDoorMem
import Derived.Lib.ItoaNum
namespace Go.Proofs.YtmgbcjjemlcfgaaGreatDoor
open Go.RowKit

/-- The call returned a string with these bytes, and all that lay lies as it lay. -/
def RetStr (l : List UInt8) (w : World) (e : Ending) (w' : World) : Prop := ∃ t : ByteArray, e = .returned (.string t) ∧ t.data.toList = l ∧ Only NoneOf w w'
theorem RetStr.mk {l : List UInt8} {w w' : World} {t : ByteArray} (h : t.data.toList = l) (ho : Only NoneOf w w') : RetStr l w (.returned (.string t)) w' := ⟨t, rfl, h, ho⟩
theorem size_list (t : ByteArray) : t.size = t.data.toList.length := by simp
theorem dec_len (k : Nat) : ∀ u, u < 10 ^ (k + 1) → (Lib.decDigits u).length ≤ k + 1 := by
  induction k with
  | zero => intro u h; rw [Lib.decDigits, dif_pos (by simpa using h)]; simp
  | succ k ih =>
    intro u h
    rw [Lib.decDigits]
    split
    · simp
    · rw [List.length_append]
      have := ih (u / 10) (by rw [Nat.pow_succ] at h; omega)
      simp; omega
theorem dec_small {u : Nat} (h : u < 10) : Lib.decDigits u = [UInt8.ofNat (48 + u)] := by rw [Lib.decDigits, dif_pos h]
theorem dec_big {u : Nat} (h : ¬ u < 10) : Lib.decDigits u = Lib.decDigits (u / 10) ++ [UInt8.ofNat (48 + u % 10)] := by
  conv => lhs; rw [Lib.decDigits, dif_neg h]
theorem dec_len20 {u : Nat} (h : u < 18446744073709551616) : (Lib.decDigits u).length ≤ 20 := dec_len 19 u (by omega)
theorem itoa_len {n : Int} (h0 : -9223372036854775808 ≤ n) (h1 : n ≤ 9223372036854775807) : (Lib.itoa n).length ≤ 21 := by
  unfold Lib.itoa
  split
  · have := dec_len20 (u := n.natAbs) (by omega); simp; omega
  · have := dec_len20 (u := n.toNat) (by omega); omega
end Go.Proofs.YtmgbcjjemlcfgaaGreatDoor
