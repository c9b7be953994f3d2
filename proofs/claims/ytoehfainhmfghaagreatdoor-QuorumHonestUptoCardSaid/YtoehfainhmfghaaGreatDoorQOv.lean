/- What is proved here: lists of votes that a law makes by appending: one list, two lists. Conditions: the votes' numbers are ints, their roots have 32 bytes. -/
import Derived.Test.YtoehfainhmfghaaGreatDoorN6
namespace Go.Proofs.YtoehfainhmfghaaGreatDoor
open Go.RowKit
/-- What loops keep that append votes to those of a list. -/
structure OvS (X : World) (M : List Vt) (ov : Value) (W : World) : Prop where
  own : VtOwn W X.heap.size ov M.length M
  ok : VtsOk M
  only : Only NoneOf X W
theorem OvS.keep {X : World} {M : List Vt} {ov : Value} {W W' : World} (h : OvS X M ov W) (ho : Only NoneOf W W') : OvS X M ov W' :=
  ⟨own_only h.own ho (fun _ _ e => e), h.ok, h.only.trans ho⟩
theorem OvS.size {X : World} {M : List Vt} {ov : Value} {W : World} (h : OvS X M ov W) : X.heap.size ≤ W.heap.size := h.only.size
/-- One vote more. -/
theorem OvS.app {X : World} {M : List Vt} {ov : Value} {W w3 : World} {g3 cap3 : Nat} {V : Vt} (h : OvS X M ov W) (hV : V.Ok) (o : Obj) (hown : w3.ownsRow X.heap.size 30 36 (.slice (some ⟨g3, 0, none⟩) (M.length + 1) cap3) (M.length + 1) (M.flatMap vtC ++ vtC V)) (hg : (W.alloc o).grownBy w3 ov.ownBlock) : OvS X (M ++ [V]) (.slice (some ⟨g3, 0, none⟩) (M.length + 1) cap3) w3 := by
  refine ⟨?_, fun v hv => ?_, (h.only.alloc _).grown hg (fun j e => .inr (own_ge h.own e).1)⟩
  · unfold VtOwn
    rw [List.flatMap_append, List.length_append]
    simpa using hown
  · rcases List.mem_append.1 hv with hv | hv
    · exact h.ok v hv
    · rw [List.mem_singleton.1 hv]; exact hV
/-- Slice literals of two votes and of none, under names that the walk does not open. -/
def vtBs2 (parts : Array (Nat × Value)) : Sem Value := Instr.buildSlice 41 2 parts
theorem vtBs2_eq (parts : Array (Nat × Value)) : Instr.buildSlice 41 2 parts = vtBs2 parts := rfl
theorem bs2v_run (v u : Vt) (hl : v.head.root.length = 32) (hu : u.head.root.length = 32) (W : World) : (vtBs2 #[(0, .agg (vtC v).toArray), (1, .agg (vtC u).toArray)]).run Tryz.prog W = .ok (.slice (some ⟨W.heap.size, 0, none⟩) 2 2) (W.alloc (.cells (vtC v ++ vtC u).toArray 30)) := by
  obtain ⟨ie, z, hie, hsz, hz, hzc, hby⟩ := vt_info
  have h36 : (vtC v).length = 36 := vtC_len hl
  have h37 : (vtC u).length = 36 := vtC_len hu
  have e : ([Value.agg (vtC v).toArray, Value.agg (vtC u).toArray].flatMap fun u => u.cells.toList).toArray = (vtC v ++ vtC u).toArray := by simp [Value.cells]
  have h9 : ∀ C : Array Value, C.size = 72 → Instr.fill (fun i => some (i * 36, 36)) C [(0, Value.agg (vtC v).toArray), (1, Value.agg (vtC u).toArray)] = some (vtC v ++ vtC u).toArray := fun C hC => by
    have h8 := Great.fill_whole (s := 36) (by omega) [Value.agg (vtC v).toArray, Value.agg (vtC u).toArray] C (by intro x hx; simp only [List.mem_cons, List.not_mem_nil, or_false] at hx; rcases hx with rfl | rfl <;> (show (vtC _).toArray.size = 36; rw [List.size_toArray]; assumption)) (by rw [hC]; rfl)
    rw [e] at h8
    exact h8
  exact run_buildSlice (P := Tryz.prog) W 41 30 2 #[(0, .agg (vtC v).toArray), (1, .agg (vtC u).toArray)] (vtC v ++ vtC u).toArray ie z Tryz.underlying41 hie hz (by rw [hsz]; omega) (by rw [hsz]; omega) (by rw [hsz]; exact h9 _ (by simp))
theorem NewB2.new (W : World) (v u : Vt) : (W.alloc (.cells (vtC v ++ vtC u).toArray 30)).heap[W.heap.size]? = some (.cells (vtC v ++ vtC u).toArray 30 (0, 0)) := Blk.new W _ _
theorem NewB2.newd (W : World) (v u : Vt) : (W.alloc (.cells (vtC v ++ vtC u).toArray 30)).drew.heap[W.heap.size]? = some (.cells (vtC v ++ vtC u).toArray 30 (0, 0)) := Blk.new W _ _
theorem two_one (v u : Vt) : ∀ x ∈ vtC v ++ vtC u, x.oneCell' = true := fun x hx => by
  rcases List.mem_append.1 hx with hx | hx
  · exact vtC_one v x hx
  · exact vtC_one u x hx
theorem vts_one (L : List Vt) (v : Vt) : ∀ u ∈ L.flatMap vtC ++ vtC v, u.oneCell' = true := fun u hu => by
  rcases List.mem_append.1 hu with hu | hu
  · obtain ⟨x, _, h⟩ := List.mem_flatMap.1 hu
    exact vtC_one x u h
  · exact vtC_one v u hu
/-- What a loop keeps that makes two lists. -/
structure Ov2 (X : World) (T G : List Vt) (tv gv : Value) (W : World) : Prop where
  t : VtOwn W X.heap.size tv T.length T
  g : VtOwn W X.heap.size gv G.length G
  okT : VtsOk T
  okG : VtsOk G
  apart : ∀ g, tv.ownBlock = some g → gv.ownBlock ≠ some g
  only : Only NoneOf X W
section
variable {X W w3 : World} {T G N : List Vt} {tv gv : Value} {g3 cap3 : Nat}
theorem Ov2.start (X : World) : Ov2 X [] [] (.slice none 0 0) (.slice none 0 0) X :=
  ⟨⟨rfl, .inl ⟨rfl, rfl⟩⟩, ⟨rfl, .inl ⟨rfl, rfl⟩⟩, fun _ h => (by cases h), fun _ h => (by cases h), fun _ h => (by cases h), Only.refl _ _⟩
theorem Ov2.keep {W' : World} (h : Ov2 X T G tv gv W) (ho : Only NoneOf W W') : Ov2 X T G tv gv W' :=
  ⟨own_only h.t ho (fun _ _ e => e), own_only h.g ho (fun _ _ e => e), h.okT, h.okG, h.apart, h.only.trans ho⟩
theorem Ov2.swap (h : Ov2 X T G tv gv W) : Ov2 X G T gv tv W := ⟨h.g, h.t, h.okG, h.okT, fun g a b => h.apart g b a, h.only⟩
theorem Ov2.size (h : Ov2 X T G tv gv W) : X.heap.size ≤ W.heap.size := h.only.size
theorem Ov2.appT (h : Ov2 X T G tv gv W) (hN : VtsOk N) (hown : w3.ownsRow X.heap.size 30 36 (.slice (some ⟨g3, 0, none⟩) (T.length + N.length) cap3) (T.length + N.length) (T.flatMap vtC ++ N.flatMap vtC)) (hg : W.grownBy w3 tv.ownBlock) (hat : tv.ownBlock = some g3 ∨ g3 = W.heap.size) : Ov2 X (T ++ N) G (.slice (some ⟨g3, 0, none⟩) (T.length + N.length) cap3) gv w3 := by
  have hne : gv.ownBlock = none ∨ gv.ownBlock ≠ tv.ownBlock := by
    cases hl : tv.ownBlock with
    | none =>
      cases ha : gv.ownBlock with
      | none => exact .inl rfl
      | some g => exact .inr (by simp)
    | some g0 => exact .inr (h.apart g0 hl)
  refine ⟨?_, World.ownsRow.kept h.g hg hne, fun v hv => ?_, h.okG, fun g' e ha => ?_, h.only.grown hg (fun j e => .inr (own_ge h.t e).1)⟩
  · unfold VtOwn
    rw [List.flatMap_append, List.length_append]
    exact hown
  · rcases List.mem_append.1 hv with hv | hv
    · exact h.okT v hv
    · exact hN v hv
  · have e2 : g3 = g' := by simpa [Value.ownBlock] using e
    subst e2
    rcases hat with h1 | h1
    · exact h.apart g3 h1 ha
    · have := (own_ge h.g ha).2
      omega
end
end Go.Proofs.YtoehfainhmfghaaGreatDoor
