/- What is proved here: numbers that wrap around, in plain Lean. No conditions. -/
import Derived.Test.YtmgbcjjemlcfgaaGreatDoorSigTx
namespace Go.Proofs.YtmgbcjjemlcfgaaGreatDoor
open Go.RowKit
theorem wrap_i (z : Int) : IntKind.i64.wrap z = (z + 9223372036854775808) % 18446744073709551616 - 9223372036854775808 := by
  have h : IntKind.i64.wrap z = if 9223372036854775808 ≤ z % 18446744073709551616 then z % 18446744073709551616 - 18446744073709551616 else z % 18446744073709551616 := by
    unfold IntKind.wrap
    simp [IntKind.bits, IntKind.signed]
  rw [h]
  split <;> omega
theorem wrap_in (z : Int) : In (IntKind.i64.wrap z) := by rw [wrap_i]; unfold In; omega
theorem wrap_of {z : Int} (h : In z) : IntKind.i64.wrap z = z := by obtain ⟨h0, h1⟩ := h; rw [wrap_i]; omega
end Go.Proofs.YtmgbcjjemlcfgaaGreatDoor
