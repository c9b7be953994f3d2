/- What is proved here: how a slice, or a struct, that comes in is opened to plain records. Conditions: what comes in can be read. -/
import Derived.Test.YtoaddfmbjehhoaaLib
import Derived.ProofKit
import Derived.Deep.Slices
import Derived.Deep.Fields
import Derived.Lib.SmallJoins
namespace Go.Proofs.Ytoaddfmbjehhoaa
open Go.ChangeShapes Go.WideShapes Go.ChangeAt Go.RowKit Go.Deep

/-- A slice that came in, which reads as a list of records of s cells. -/
def Arg {α : Type} (f : α → List Value) (s : Nat) (w : World) (A : Option Addr) (n : Nat) (L : List α) : Prop :=
  L.length = n ∧ ∀ (i : Nat) (t : α), L[i]? = some t → ∃ bk off, A = some ⟨bk, off, none⟩ ∧ bk < w.heap.size ∧ ∀ j, j < s → w.cell? ⟨bk, off + i * s + j, none⟩ = (f t)[j]?
theorem Arg.keep {α : Type} {f : α → List Value} {s : Nat} {w w' : World} {A : Option Addr} {n : Nat} {L : List α} (h : Arg f s w A n L) (hb : Below w.heap.size w w') : Arg f s w' A n L := by
  refine ⟨h.1, fun i t ht => ?_⟩
  obtain ⟨bk, off, hA, hlt, hc⟩ := h.2 i t ht
  exact ⟨bk, off, hA, by have := hb.size; omega, fun j hj => by rw [hb.cell (p := ⟨bk, _, none⟩) hlt]; exact hc j hj⟩

theorem add_off (a : Addr) (n : Nat) : (a.add n).off = a.off + n ∧ (a.add n).block = a.block := by
  unfold Addr.add; split <;> simp_all
theorem cell_spot {w : World} {a : Addr} {v : Value} (h : w.cell? a = some v) : a.spot = none := by
  unfold World.cell? at h
  split at h
  · split at h
    · cases h
    · rename_i hs; simpa using hs
  · cases h
theorem addr_none {a : Addr} (h : a.spot = none) : a = ⟨a.block, a.off, none⟩ := by cases a; simp_all

theorem list_of {α : Type} {R : Nat → α → Prop} (k : Nat) (h : ∀ i, i < k → ∃ y, R i y) : ∃ L : List α, L.length = k ∧ ∀ i y, L[i]? = some y → R i y := by
  induction k with
  | zero => exact ⟨[], rfl, fun i y h => by simp at h⟩
  | succ k ih =>
    obtain ⟨L, hL, hg⟩ := ih (fun i hi => h i (by omega))
    obtain ⟨y, hy⟩ := h k (by omega)
    refine ⟨L ++ [y], by simp [hL], fun i z hz => ?_⟩
    by_cases hi : i < L.length
    · rw [List.getElem?_append_left hi] at hz
      exact hg i z hz
    · rw [List.getElem?_append_right (by omega)] at hz
      have hik : i - L.length = 0 := by
        rcases Nat.eq_zero_or_pos (i - L.length) with h0 | h0
        · exact h0
        · rw [List.getElem?_eq_none (by simp; omega)] at hz; cases hz
      rw [hik] at hz
      simp at hz
      subst hz
      have : i = k := by omega
      rw [this]; exact hy
section
variable {H : Type} {enc : TypeId × Value → H} {P : Program} {w : World} {base : Nat} {spare : Nat → Bool} {held : Bool}
theorem open_arg {α : Type} {Q : α → Prop} (f : α → List Value) (s : Nat) (hs0 : 0 < s) {t e : TypeId} {r : Reach} {b0 : Nat} {v : Value} {d : DataW H} {p : List MemPlace} (hf : ∀ x, (f x).length = s) (ht : P.underlying t = some (.slice e)) (hC : P.cellsOf e = s)
    (hread : ∀ n cs x, DataW.trod enc P w base spare held n e cs = some x → ∃ y : α, cs = f y ∧ Q y)
    (hv : Value.okWide P w r b0 t v) (h : DataW.Trod enc P w base spare held t v d p) : ∃ A n c L, v = .slice A n c ∧ Arg f s w A n L ∧ n ≤ maxLen ∧ n ≤ c ∧ ∀ y ∈ L, Q y := by
  obtain ⟨a0, len, cap, rfl⟩ := okWide_slice ht hv
  obtain ⟨fuel, hf0⟩ := h
  rcases open_slice ht hf0 with ⟨hcs, _⟩ | ⟨a, len', cap', m, n, D, Pl, hcs, hb, hl, hm, hmm, hx, hi⟩
  · simp [Value.cells] at hcs
    obtain ⟨rfl, rfl, rfl⟩ := hcs
    exact ⟨none, 0, 0, [], rfl, ⟨rfl, fun i t h => by simp at h⟩, by unfold maxLen; omega, Nat.le_refl _, fun y hy => by cases hy⟩
  · simp [Value.cells] at hcs
    obtain ⟨rfl, rfl, rfl⟩ := hcs
    have hml : len ≤ m := by rw [hmm]; split <;> omega
    have hspot0 : 0 < len → a.spot = none := fun hl0 => by
      obtain ⟨cs', hc, htr⟩ := hi 0 (by omega)
      obtain ⟨y, rfl, hq⟩ := hread _ _ _ htr
      rw [hC] at hc
      obtain ⟨_, hcl, hat⟩ := World.cells?_some hc
      have h1 : w.cell? ((a.add (0 * s)).add 0) = (f y)[0]? := hat 0 hs0
      rw [List.getElem?_eq_getElem (by rw [hf]; exact hs0)] at h1
      have h2 := cell_spot h1
      simpa [Addr.add] using h2
    have key : ∀ i, i < len → ∃ y : α, Q y ∧ a.spot = none ∧ a.block < w.heap.size ∧ ∀ j, j < s → w.cell? ⟨a.block, a.off + i * s + j, none⟩ = (f y)[j]? := by
      intro i hil
      obtain ⟨cs', hc, htr⟩ := hi i (by omega)
      obtain ⟨y, rfl, hq⟩ := hread _ _ _ htr
      rw [hC] at hc
      obtain ⟨_, hcl, hat⟩ := World.cells?_some hc
      have hcell : ∀ j, j < s → w.cell? ((a.add (i * s)).add j) = (f y)[j]? := fun j hj => hat j hj
      have hspot : ∀ j, j < s → ((a.add (i * s)).add j).spot = none := fun j hj => by
        have h1 := hcell j hj
        rw [List.getElem?_eq_getElem (by rw [hf]; exact hj)] at h1
        exact cell_spot h1
      have hblk : a.block < w.heap.size := by
        have h1 := hcell 0 hs0
        rw [List.getElem?_eq_getElem (by rw [hf]; exact hs0)] at h1
        have := World.block_lt_of_cell? w _ h1
        rw [(add_off _ _).2, (add_off _ _).2] at this
        exact this
      refine ⟨y, hq, ?_, hblk, fun j hj => ?_⟩
      · exact hspot0 (by omega)
      · rw [← hcell j hj, addr_none (hspot j hj), (add_off _ _).1, (add_off _ _).2, (add_off _ _).1, (add_off _ _).2]
    obtain ⟨L, hL, hget⟩ := list_of len key
    refine ⟨some a, len, cap, L, rfl, ⟨hL, fun i y hy => ?_⟩, by omega, hl, fun y hy => ?_⟩
    · obtain ⟨_, h1, h2, h3⟩ := hget i y hy
      exact ⟨a.block, a.off, by rw [← addr_none h1], h2, h3⟩
    · obtain ⟨i, hi'⟩ := List.getElem?_of_mem hy
      exact (hget i y hi').1
end
end Go.Proofs.Ytoaddfmbjehhoaa
