/- What is proved here: a region that draws its order and whose calls leave a class of worlds: one walk, in the order of the text, the class told as a family of worlds; no function of the program. No conditions. -/
import Derived.Test.YtoehfainhmfghaaGreatDoorRows
import Derived.BigQuiet
namespace Go.Proofs.YtoehfainhmfghaaGreatDoor
open Go.RowKit
/-- A class of worlds as a family. -/
theorem family (S : World → Prop) {W0 : World} (h0 : S W0) : ∃ (I : Type) (f : I → World), Nonempty I ∧ (∃ x, W0 = f x) ∧ (∀ W, S W ↔ ∃ x, W = f x) ∧ ∀ x, S (f x) :=
  ⟨{W // S W}, Subtype.val, ⟨⟨W0, h0⟩⟩, ⟨⟨W0, h0⟩, rfl⟩, fun W => ⟨fun h => ⟨⟨W, h⟩, rfl⟩, fun ⟨x, hx⟩ => hx ▸ x.2⟩, fun x => x.2⟩
theorem wp_region_family {P : Program} {id : Nat} {Q : Exit → Act → World → Prop} {a : Act} {w : World} {l : List Oper} {I : Type} (f : I → World) (hm : P.follows .mixedOrders = true) (hB : Region.lexB .any l.toArray = true) (hC : ∃ x, w.drew = f x)
    (h : wpQuiet P l.toArray (fun w' => ∃ x, w' = f x) (fun a' => ∀ w', (∃ x, w' = f x) → Q .normal a' w') l a) : (Code.region id l.toArray true).wp P Q a w :=
  wp_region_quiet (C := fun w' => ∃ x, w' = f x) hm hB hC (by simpa using h)
end Go.Proofs.YtoehfainhmfghaaGreatDoor
