/- What is proved here: a region that draws its order and whose calls leave a class of worlds: one walk, in the order of the text, the class told as a family of worlds; no function of the program. No conditions. -/
import Derived.Test.YtpdlbmieciabmaaGreatDoorM3
import Derived.Test.YtpdlbmieciabmaaGreatDoorRows
import Derived.BigQuiet
namespace Go.Proofs.YtpdlbmieciabmaaGreatDoor
open Go.RowKit
/-- A class of worlds as a family. -/
theorem family (S : World → Prop) {W0 : World} (h0 : S W0) : ∃ (I : Type) (f : I → World), Nonempty I ∧ (∃ x, W0 = f x) ∧ (∀ W, S W ↔ ∃ x, W = f x) ∧ ∀ x, S (f x) :=
  ⟨{W // S W}, Subtype.val, ⟨⟨W0, h0⟩⟩, ⟨⟨W0, h0⟩, rfl⟩, fun W => ⟨fun h => ⟨⟨W, h⟩, rfl⟩, fun ⟨x, hx⟩ => hx ▸ x.2⟩, fun x => x.2⟩
theorem wp_region_family {P : Program} {id : Nat} {Q : Exit → Act → World → Prop} {a : Act} {w : World} {l : List Oper} {I : Type} (f : I → World) (hm : P.follows .mixedOrders = true) (hB : Region.lexB .any l.toArray = true) (hC : ∃ x, w.drew = f x)
    (h : wpQuiet P l.toArray (fun w' => ∃ x, w' = f x) (fun a' => ∀ w', (∃ x, w' = f x) → Q .normal a' w') l a) : (Code.region id l.toArray true).wp P Q a w :=
  wp_region_quiet (C := fun w' => ∃ x, w' = f x) hm hB hC (by simpa using h)
/-- The same with a tail in a forced order (a store, say), told of every world of the class. -/
theorem wp_region_family_tail {P : Program} {id : Nat} {Q : Exit → Act → World → Prop} {a : Act} {w : World} {l : List Oper} {I : Type} (f : I → World) (n : Nat) (hm : P.follows .mixedOrders = true) (hB : Region.lexTailB .any l.toArray n = true) (hC : ∃ x, w.drew = f x)
    (h : wpQuiet P l.toArray (fun w' => ∃ x, w' = f x) (fun a' => ∀ w', (∃ x, w' = f x) → wpList P l.toArray Q (l.drop n) a' w') (l.take n) a) : (Code.region id l.toArray true).wp P Q a w := by
  simp only [Region.lexTailB, Bool.and_eq_true, decide_eq_true_eq] at hB
  obtain ⟨⟨⟨⟨hsel, hn⟩, hs⟩, hc⟩, hlex⟩ := hB
  have hn' : n < l.length := by simpa using hn
  have htl : (l.take n).length = n := by rw [List.length_take]; omega
  have hdl : (l.drop n).length = l.toArray.size - n := by simp
  have inv0 : HeadInv .any l.toArray n (Array.replicate l.toArray.size false) :=
    ⟨by simp, fun j _ _ hl => (by rw [getD_replicate_false] at hl; cases hl), fun t _ ht => getD_in (by simpa using ht) (getD_replicate_false _ _)⟩
  have H := head_lex (g := l.toArray.size - n) hsel hs hc hn (l.take n) 0 _ a (fun j hj => by
    have : j < n := by rwa [htl] at hj
    simp [this]) (by simpa using htl) inv0 (by rw [htl]; exact hlex) h
  refine wp_region_any hm ?_
  have key := any_of_head (Q := Q) (g := l.toArray.size - n) (fun done a' w' hw' hL => by
    have := wpAny_of_seq (md := .any) (Q' := Q) (l.drop n) n done a' w' (fun j => by simp [List.getElem?_drop]) (by rw [hdl]; exact hL.1) (hL.2 w' hw')
    rwa [hdl] at this) _ _ _ { w with drawn := w.drawn + 1 } hC H
  rw [htl, show n + (l.toArray.size - n) = l.toArray.size by omega] at key
  exact key
end Go.Proofs.YtpdlbmieciabmaaGreatDoor
