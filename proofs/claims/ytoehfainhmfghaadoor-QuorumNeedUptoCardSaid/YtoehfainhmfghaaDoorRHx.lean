/- What is proved here: the reference's hash as text. Conditions: none. -/
import Derived.Test.YtoehfainhmfghaaDoorB1
import Derived.Test.YtoehfainhmfghaaDoorM9
import Derived.Deep.DeepCutAuto
import Derived.Deep.RegionHeld3
namespace Go.Proofs.YtoehfainhmfghaaDoor
open Go.RowKit Go.Shelf
theorem hexC_ext : ∀ n : Nat, n < 16 → ((⟨#[48, 49, 50, 51, 52, 53, 54, 55, 56, 57, 97, 98, 99, 100, 101, 102]⟩ : ByteArray).extract n (n + 1)).data.toList = [hexC n] := by decide +kernel
end Go.Proofs.YtoehfainhmfghaaDoor
