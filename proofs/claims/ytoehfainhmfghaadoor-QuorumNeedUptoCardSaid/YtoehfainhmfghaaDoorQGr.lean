/- What is proved here: votes grouped by a key: what the map and its slices hold, and what one more vote does to them. Conditions: the votes' numbers are ints, their roots have 32 bytes. -/
import Derived.Test.YtoehfainhmfghaaDoorQOf
import Derived.Test.YtoehfainhmfghaaDoorVtO
import Derived.Test.YtoehfainhmfghaaDoorQDl
import Derived.Great.BuildSlice
namespace Go.Proofs.YtoehfainhmfghaaDoor
open Go.RowKit
open Go.Maps (Keyed)
/-- The votes at a key. -/
noncomputable def grp (kf : Vt → Value) (l : List Vt) (x : Value) : List Vt := l.filter (fun v => eqv (kf v) x)
theorem grp_ok {kf : Vt → Value} {l : List Vt} (h : VtsOk l) (x : Value) : VtsOk (grp kf l x) := fun v hv => h v (List.mem_filter.1 hv).1
theorem grp_len (kf : Vt → Value) (l : List Vt) (x : Value) : (grp kf l x).length ≤ l.length := List.length_filter_le _ _
theorem grp_same (kf : Vt → Value) (l : List Vt) (v : Vt) : grp kf (l ++ [v]) (kf v) = grp kf l (kf v) ++ [v] := by
  unfold grp; rw [List.filter_append]; simp [eqv_self]
theorem grp_other {kf : Vt → Value} {v : Vt} {x : Value} (h : kf v ≠ x) (l : List Vt) : grp kf (l ++ [v]) x = grp kf l x := by
  unfold grp; rw [List.filter_append]; simp [eqv_false.2 h]
/-- Block b groups the votes l. -/
structure GrpO (w0 : World) (k : TypeId) (kf : Vt → Value) (b n : Nat) (l : List Vt) (f : Value → Option Value) (W : World) : Prop where
  map : MapV W Tryd.prog k b n f
  dom : ∀ x, f x = none ↔ ∀ v ∈ l, kf v ≠ x
  own : ∀ x sl, f x = some sl → VtOwn W w0.heap.size sl (grp kf l x).length (grp kf l x)
  apart : ∀ x y sl sl', f x = some sl → f y = some sl' → x ≠ y → sl.ownBlock ≠ sl'.ownBlock
  only : Only NoneOf w0 W
section
variable {w0 W : World} {k : TypeId} {kf : Vt → Value} {b n : Nat} {l : List Vt} {f : Value → Option Value}
theorem GrpO.keep {W' : World} (h : GrpO w0 k kf b n l f W) (ho : Only NoneOf W W') : GrpO w0 k kf b n l f W' :=
  ⟨h.map.only ho (fun e => e), h.dom, fun x sl hx => own_only (h.own x sl hx) ho (fun _ _ e => e), h.apart, h.only.trans ho⟩
/-- The slice at a key, nil where there is none. -/
def slAt (f : Value → Option Value) (x : Value) : Value := (f x).getD (.slice none 0 0)
theorem GrpO.at_ (h : GrpO w0 k kf b n l f W) (x : Value) : VtOwn W w0.heap.size (slAt f x) (grp kf l x).length (grp kf l x) := by
  unfold slAt
  cases hf : f x with
  | none =>
    have h1 : grp kf l x = [] := by
      unfold grp
      rw [List.filter_eq_nil_iff]
      intro v hv
      have := (h.dom x).1 hf v hv
      simp [eqv_false.2 this]
    rw [h1]
    exact ⟨rfl, .inl ⟨rfl, rfl⟩⟩
  | some s => exact h.own x s hf
theorem GrpO.lt (h : GrpO w0 k kf b n l f W) (x : Value) : ∀ g, (slAt f x).ownBlock = some g → w0.heap.size ≤ g ∧ g < W.heap.size := fun _ hg => own_ge (h.at_ x) hg
/-- One more vote is in its slice, but not yet in the map. -/
structure AppD (w0 : World) (k : TypeId) (kf : Vt → Value) (b n : Nat) (l : List Vt) (f : Value → Option Value) (v : Vt) (sl : Value) (W : World) : Prop where
  map : MapV W Tryd.prog k b n f
  mine : VtOwn W w0.heap.size sl (grp kf (l ++ [v]) (kf v)).length (grp kf (l ++ [v]) (kf v))
  own : ∀ x s, x ≠ kf v → f x = some s → VtOwn W w0.heap.size s (grp kf l x).length (grp kf l x)
  apart2 : ∀ x s, x ≠ kf v → f x = some s → s.ownBlock ≠ sl.ownBlock
  only : Only NoneOf w0 W
theorem AppD.keep {v : Vt} {sl : Value} {W' : World} (h : AppD w0 k kf b n l f v sl W) (ho : Only NoneOf W W') : AppD w0 k kf b n l f v sl W' :=
  ⟨h.map.only ho (fun e => e), own_only h.mine ho (fun _ _ e => e), fun x s hx hf => own_only (h.own x s hx hf) ho (fun _ _ e => e), h.apart2, h.only.trans ho⟩
theorem GrpO.append {v : Vt} (h : GrpO w0 k kf b n l f W) {w1 : World} {g cap : Nat}
    (hown : w1.ownsRow w0.heap.size 40 36 (.slice (some ⟨g, 0, none⟩) ((grp kf l (kf v)).length + 1) cap) ((grp kf l (kf v)).length + 1) ((grp kf l (kf v)).flatMap vtC ++ vtC v))
    (hg : W.grownBy w1 (slAt f (kf v)).ownBlock) (hat : (slAt f (kf v)).ownBlock = some g ∨ g = W.heap.size) :
    AppD w0 k kf b n l f v (.slice (some ⟨g, 0, none⟩) ((grp kf l (kf v)).length + 1) cap) w1 := by
  have hne : ∀ x s, x ≠ kf v → f x = some s → s.ownBlock ≠ (slAt f (kf v)).ownBlock := fun x s hx hs e => by
    cases hf : f (kf v) with
    | some s' => exact h.apart x (kf v) s s' hs hf hx (by rw [e]; unfold slAt; rw [hf]; rfl)
    | none =>
      have h1 : s.ownBlock = none := by rw [e]; unfold slAt; rw [hf]; rfl
      have h2 : grp kf l x ≠ [] := fun h0 => by
        have h3 : ∀ u ∈ l, kf u ≠ x := fun u hu e2 => by
          have : u ∈ grp kf l x := List.mem_filter.2 ⟨hu, by rw [e2]; exact eqv_self _⟩
          rw [h0] at this; cases this
        rw [(h.dom x).2 h3] at hs; cases hs
      obtain ⟨g', cap', rfl, _⟩ := own_form (h.own x s hs) (List.length_pos_iff.2 h2)
      cases h1
  refine ⟨h.map.grown hg (fun e => own_map_ne (h.at_ (kf v)) h.map e.symm), ?_, fun x s hx hs => World.ownsRow.kept (h.own x s hs) hg (.inr (hne x s hx hs)), fun x s hx hs e => ?_, h.only.grown hg (fun j e => .inr (h.lt _ j e).1)⟩
  · rw [grp_same, List.length_append]
    unfold VtOwn
    rw [List.flatMap_append, List.flatMap_cons, List.flatMap_nil, List.append_nil]
    exact hown
  · rcases hat with h1 | h1
    · exact hne x s hx hs (by rw [e, h1]; rfl)
    · have h2 := (own_ge (h.own x s hs) (g := g) (by rw [e]; rfl)).2
      omega
theorem AppD.fin {v : Vt} {sl : Value} {W0 : World} (hd : GrpO w0 k kf b n l f W0) (h : AppD w0 k kf b n l f v sl W) (K : Keyed Tryd.prog k) {t e : TypeId} (ht : Tryd.prog.underlying t = some (.map k e)) (hn : n < maxLen) {kl : Lit} (hkey : Go.keyOf Tryd.prog k (kf v) = some kl) (hb : w0.heap.size ≤ b) :
    (Instr.mapUpdate t (.map (some b)) (kf v) sl).run Tryd.prog W = .ok () (mapPut Tryd.prog t b (kf v) sl W) ∧ GrpO w0 k kf b (n + 1) (l ++ [v]) (put1 f (kf v) sl) (mapPut Tryd.prog t b (kf v) sl W) ∧ W.grownBy (mapPut Tryd.prog t b (kf v) sl W) (some b) := by
  obtain ⟨h1, h2, h3⟩ := h.map.put K ht hn hkey sl
  refine ⟨h1, ⟨h2, fun x => ?_, fun x s hx => ?_, fun x y s s' hx hy hxy => ?_, h.only.grown h3 (fun j e => by cases e; exact .inr hb)⟩, h3⟩
  · by_cases e : x = kf v
    · subst e
      rw [put1_same]
      constructor
      · intro h; cases h
      · intro h; exact (h v (by simp) rfl).elim
    · rw [put1_other e, hd.dom x]
      constructor
      · intro h u hu
        rcases List.mem_append.1 hu with hu | hu
        · exact h u hu
        · simp only [List.mem_cons, List.not_mem_nil, or_false] at hu
          subst hu; exact fun e2 => e e2.symm
      · intro h u hu; exact h u (List.mem_append_left _ hu)
  · by_cases e : x = kf v
    · subst e
      rw [put1_same] at hx
      cases hx
      exact World.ownsRow.kept h.mine h3 (.inr (own_map_ne h.mine h.map))
    · rw [put1_other e] at hx
      rw [grp_other (fun e2 => e e2.symm)]
      exact World.ownsRow.kept (h.own x s e hx) h3 (.inr (own_map_ne (h.own x s e hx) h.map))
  · by_cases e : x = kf v
    · subst e
      rw [put1_same] at hx
      rw [put1_other (fun e2 => hxy e2.symm)] at hy
      cases hx
      exact fun e2 => h.apart2 y s' (fun e3 => hxy e3.symm) hy e2.symm
    · rw [put1_other e] at hx
      by_cases e' : y = kf v
      · subst e'
        rw [put1_same] at hy
        cases hy
        exact h.apart2 x s e hx
      · rw [put1_other e'] at hy
        exact hd.apart x y s s' hx hy hxy
end
/-- What a map of groups says to who reads it. -/
def GrpR (w : World) (k : TypeId) (kf : Vt → Value) (b n : Nat) (l : List Vt) (f : Value → Option Value) : Prop :=
  MapV w Tryd.prog k b n f ∧ (∀ x, f x = none ↔ ∀ v ∈ l, kf v ≠ x) ∧ ∀ x sl, f x = some sl → VtSl w sl (grp kf l x)
theorem GrpO.read {w0 W : World} {k : TypeId} {kf : Vt → Value} {b n : Nat} {l : List Vt} {f : Value → Option Value} (h : GrpO w0 k kf b n l f W) (hl : VtsOk l) : GrpR W k kf b n l f :=
  ⟨h.map, h.dom, fun x sl hx => (h.own x sl hx).sl (grp_ok hl x)⟩
theorem GrpR.only {w w' : World} {k : TypeId} {kf : Vt → Value} {b n : Nat} {l : List Vt} {f : Value → Option Value} (h : GrpR w k kf b n l f) (ho : Only NoneOf w w') : GrpR w' k kf b n l f :=
  ⟨h.1.only ho (fun e => e), h.2.1, fun x sl hx => (h.2.2 x sl hx).only ho⟩
/-- What lies there when a vote is put into its group. -/
structure GrS (w0 : World) (N : Nat) (v : Vt) (W : World) : Prop where
  at_ : VtAt W N v
  only : Only NoneOf w0 W
/-- A vote's cells in a block just made. -/
def NewB (g : Nat) (v : Vt) (W : World) : Prop := Blk W g tVt (vtC v).toArray
theorem NewB.new (W : World) (v : Vt) : NewB W.heap.size v (W.alloc (.cells (vtC v).toArray 40)) := Blk.new W _ _
theorem NewB.newd (W : World) (v : Vt) : NewB W.heap.size v (W.alloc (.cells (vtC v).toArray 40)).drew := Blk.new W _ _
theorem NewB.keep {g : Nat} {v : Vt} {W W' : World} (h : NewB g v W) (ho : Only NoneOf W W') : NewB g v W' := Blk.only h ho (fun e => e)
theorem bs1_run (v : Vt) (hl : v.head.root.length = 32) (W : World) : (vtBs1 #[(0, .agg (vtC v).toArray)]).run Tryd.prog W = .ok (.slice (some ⟨W.heap.size, 0, none⟩) 1 1) (W.alloc (.cells (vtC v).toArray 40)) := by
  obtain ⟨ie, z, hie, hsz, hz, hzc, hby⟩ := vt_info
  have h36 : (vtC v).length = 36 := vtC_len hl
  have e : ([Value.agg (vtC v).toArray].flatMap fun u => u.cells.toList).toArray = (vtC v).toArray := by simp [Value.cells]
  have h9 : ∀ C : Array Value, C.size = 36 → Instr.fill (fun i => some (i * 36, 36)) C [(0, Value.agg (vtC v).toArray)] = some (vtC v).toArray := fun C hC => by
    have h8 := Great.fill_whole (s := 36) (by omega) [Value.agg (vtC v).toArray] C (by intro u hu; simp only [List.mem_cons, List.not_mem_nil, or_false] at hu; subst hu; show (vtC v).toArray.size = 36; rw [List.size_toArray, h36]) (by rw [hC]; rfl)
    rw [e] at h8
    exact h8
  exact run_buildSlice (P := Tryd.prog) W 36 40 1 #[(0, .agg (vtC v).toArray)] (vtC v).toArray ie z Tryd.underlying36 hie hz (by rw [hsz]; omega) (by rw [hsz]; omega) (by rw [hsz]; exact h9 _ (by simp))
end Go.Proofs.YtoehfainhmfghaaDoor
