/- What is proved here: persons in memory, those that come in and those that a call makes. No conditions. -/
import Derived.Test.YtoehfainhmfghaaDoorM1
import Derived.Deep.MidRow
import Derived.Deep.RegionLaw
import Derived.Deep.AppendLies
namespace Go.Proofs.YtoehfainhmfghaaDoor
open Go.RowKit
theorem rng_only {w w' : World} {g o : Nat} {cs : List Value} (h : w.rangeAt g o cs) (ho : Only NoneOf w w') : w'.rangeAt g o cs := fun j v hj => ho.cell_some (h j v hj) (fun e => e)
/-- A person. -/
structure Pers where
  id : Int
  role : Int
  pub : Int
def persC (p : Pers) : List Value := [.int .i64 p.id, .int .i64 p.role, .int .i64 p.pub]
/-- A slice that reads as these persons. -/
def PerSl (w : World) (v : Value) (P : List Pers) : Prop :=
  ∃ A cap, v = .slice A P.length cap ∧ P.length ≤ cap ∧ cap ≤ 9223372036854775807 ∧ ∀ (i : Nat) (p : Pers), P[i]? = some p → ∃ g o, A = some ⟨g, o, none⟩ ∧ g < w.heap.size ∧ w.rangeAt g (o + i * 3) (persC p)
theorem PerSl.only {w w' : World} {v : Value} {P : List Pers} (h : PerSl w v P) (ho : Only NoneOf w w') : PerSl w' v P := by
  obtain ⟨A, cap, hv, h1, h2, h3⟩ := h
  refine ⟨A, cap, hv, h1, h2, fun i p hp => ?_⟩
  obtain ⟨g, o, hA, hg, hr⟩ := h3 i p hp
  exact ⟨g, o, hA, Nat.lt_of_lt_of_le hg ho.size, rng_only hr ho⟩
theorem persC_len (p : Pers) : (persC p).length = 3 := rfl
/-- Persons that the call made. -/
def PerOwn (w : World) (base : Nat) (v : Value) (n : Nat) (P : List Pers) : Prop := w.ownsRow base 45 3 v n (P.flatMap persC)
theorem PerOwn.sl {w : World} {base : Nat} {v : Value} {P : List Pers} (h : PerOwn w base v P.length P) : PerSl w v P := by
  rcases h.2 with ⟨rfl, h0⟩ | ⟨g, cap, cur, rfl, hb, hh, hc, hm, hs, ht⟩
  · have hP0 : P = [] := List.eq_nil_of_length_eq_zero h0
    subst hP0
    exact ⟨none, 0, rfl, Nat.le_refl _, by omega, fun i e he => by simp at he⟩
  · rw [maxLen_val] at hm
    refine ⟨some ⟨g, 0, none⟩, cap, rfl, hc, hm, fun i p hp => ⟨g, 0, rfl, Blk.lt (t := 45) hh, fun j x hj => ?_⟩⟩
    have hj2 : j < 3 := (List.getElem?_eq_some_iff.1 hj).1
    have h1 := flat_get persC_len P i j hj2 p hp
    have h2 := World.ownsRow.cells h rfl (i * 3 + j) x (h1.trans hj)
    rw [Addr.add_mid, Nat.zero_add] at h2
    rw [Nat.zero_add]
    exact h2
theorem pers_info3 : ∃ ie z, Tryd.prog.info? 45 = some ie ∧ ie.size = 3 ∧ ie.zero = some z ∧ z.cells.size = 3 ∧ ie.bytes = 24 := by
  have h1 : (Tryd.prog.info? 45).map (·.size) = some 3 := by kernel_rfl
  have h2 : ((Tryd.prog.info? 45).bind (·.zero)).isSome = true := by kernel_rfl
  have h3 : (Tryd.prog.info? 45).map (·.bytes) = some 24 := by kernel_rfl
  have h4 : ((Tryd.prog.info? 45).bind (·.zero)).map (fun z => z.cells.size) = some 3 := by kernel_rfl
  cases hie : Tryd.prog.info? 45 with
  | none => simp [hie] at h1
  | some ie =>
    simp only [hie, Option.map_some, Option.some.injEq, Option.bind_some] at h1 h2 h3 h4
    obtain ⟨z, hz⟩ := Option.isSome_iff_exists.1 h2
    simp only [hz, Option.map_some, Option.some.injEq] at h4
    exact ⟨ie, z, rfl, h1, hz, h4, h3⟩
end Go.Proofs.YtoehfainhmfghaaDoor
