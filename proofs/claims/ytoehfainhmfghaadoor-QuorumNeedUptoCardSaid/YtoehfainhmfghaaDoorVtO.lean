/- What is proved here: slices of votes that the call made: one put in another's place, read, cleared. Conditions: roots have 32 bytes. -/
import Derived.Test.YtoehfainhmfghaaDoorVtM
import Derived.Laws.CopyRow
namespace Go.Proofs.YtoehfainhmfghaaDoor
open Go.RowKit
/-- A vote's cells, 36 of them in any case. -/
def vtF (v : Vt) : List Value := if v.head.root.length = 32 then vtC v else List.replicate 36 undef
theorem vtF_len (v : Vt) : (vtF v).length = 36 := by
  unfold vtF
  split
  · exact vtC_len (by assumption)
  · simp
theorem vtF_of {v : Vt} (h : v.head.root.length = 32) : vtF v = vtC v := by unfold vtF; rw [if_pos h]
theorem flat_vtF {M : List Vt} (hM : VtsOk M) : M.flatMap vtF = M.flatMap vtC := by
  induction M with
  | nil => rfl
  | cons e l ih =>
    rw [List.flatMap_cons, List.flatMap_cons, vtF_of (hM e (by simp)).head.root, ih (fun x hx => hM x (by simp [hx]))]
theorem vstores_cells (vs : List Value) : ∀ (w : World) (g o : Nat), stores w g o vs = w.setCells g o vs := by
  induction vs with
  | nil => intro w g o; rfl
  | cons v l ih => intro w g o; simp only [stores, World.setCells]; exact ih _ _ _
theorem vts_set {M : List Vt} (hM : VtsOk M) {v : Vt} (hv : v.Ok) (i : Nat) : VtsOk (M.set i v) := fun x hx => by
  rcases List.mem_or_eq_of_mem_set hx with h | rfl
  · exact hM x h
  · exact hv
theorem VtOwn.put {w : World} {base g cap i : Nat} {M : List Vt} {v : Vt} (h : VtOwn w base (.slice (some ⟨g, 0, none⟩) M.length cap) M.length M) (hM : VtsOk M) (hi : i < M.length) (hv : v.Ok) :
    VtOwn (w.setCells g (i * 36) (vtC v)) base (.slice (some ⟨g, 0, none⟩) M.length cap) M.length (M.set i v) := by
  unfold VtOwn at h ⊢
  rw [← flat_vtF hM] at h
  rw [← flat_vtF (vts_set hM hv i), ← vtF_of hv.head.root, ← vstores_cells]
  exact own_put vtF_len v h hi
theorem VtOwn.range {w : World} {base g cap n m i : Nat} {M : List Vt} {v : Vt} (h : VtOwn w base (.slice (some ⟨g, 0, none⟩) n cap) m M) (hM : VtsOk M) (hv : M[i]? = some v) : w.rangeAt g (i * 36) (vtC v) := fun j x hj => by
  have hj2 : j < 36 := by
    have := (List.getElem?_eq_some_iff.1 hj).1
    rw [vtC_len (hM v (List.mem_of_getElem? hv)).head.root] at this; exact this
  have h1 := vts_get M hM i j hj2 v hv
  have h2 := World.ownsRow.cells h rfl (i * 36 + j) x (h1.trans hj)
  rw [Addr.add_mid, Nat.zero_add] at h2
  exact h2
theorem vown_there {w : World} {base g cap n : Nat} {e : TypeId} {size : Nat} {xs : List Value} (h : w.ownsRow base e size (.slice (some ⟨g, 0, none⟩) n cap) n xs) {o m : Nat} (hm : o + m ≤ n * size) : w.there g o m := by
  rcases h.2 with ⟨h0, _⟩ | ⟨g', cap', cur, hv, hb, hh, hc, hx, hs, ht⟩
  · simp at h0
  · simp only [Value.slice.injEq, Option.some.injEq, Addr.mk.injEq, and_true, true_and] at hv
    obtain ⟨rfl, rfl⟩ := hv
    exact Blk.there (t := e) (cs := cur) hh o m (by rw [hs]; exact Nat.le_trans hm (Nat.mul_le_mul_right _ hc))
theorem vt_store_own {w : World} {base g cap i : Nat} {M : List Vt} {v : Vt} (h : VtOwn w base (.slice (some ⟨g, 0, none⟩) M.length cap) M.length M) (hi : i < M.length) (hv : v.Ok) :
    (vtStore (.pointer (some ⟨g, i * 36, none⟩)) (.agg (vtC v).toArray)).run Tryd.prog w = .ok () (w.setCells g (i * 36) (vtC v)) := by
  have h36 : (vtC v).toArray.size = 36 := by rw [List.size_toArray, vtC_len hv.head.root]
  have h1 : i * 36 + 36 ≤ M.length * 36 := by
    have : (i + 1) * 36 ≤ M.length * 36 := Nat.mul_le_mul_right _ hi
    omega
  exact run_storeAt_mid (P := Tryd.prog) w g (i * 36) 40 (vtC v).toArray (vown_there h (by rw [h36]; exact h1)) (by rw [h36]; kernel_rfl) (all_oneCell_toArray (vtC_one v))
theorem zero_vt (w : World) : (zeroValue 40).run Tryd.prog w = .ok (.agg vt0C) w := by kernel_rfl
/-- The cells that 'clear' writes. -/
def clrZ (n : Nat) : List Value := (Builtin.zeroCells vt0C n).toList
theorem clrZ_len (n : Nat) : (clrZ n).length = n * 36 := by
  unfold clrZ Builtin.zeroCells
  rw [Array.length_toList, Array.size_map, Array.size_range]
  rfl
theorem vt0_one : ∀ k : Fin 36, (vt0C[k.val]!).oneCell' = true := by decide +kernel
theorem clrZ_one (n : Nat) : ∀ v ∈ clrZ n, v.oneCell' = true := fun v hv => by
  unfold clrZ Builtin.zeroCells at hv
  rw [Array.toList_map, List.mem_map] at hv
  obtain ⟨i, _, rfl⟩ := hv
  exact vt0_one ⟨i % 36, Nat.mod_lt _ (by omega)⟩
theorem run_clear_any {P : Program} {w w' : World} {t e : TypeId} {z : Value} (ty : TypeId) (ht : P.underlying t = some (.slice e)) (hv : ∀ w, (zeroValue e).run P w = .ok z w) (a : Addr) (m c : Nat)
    (hst : (storeCells a (Builtin.zeroCells z.cells (m + 1)).toList).run P w = .ok () w') : (Builtin.clear_ #[t] ty #[.slice (some a) (m + 1) c]).run P w = .ok (.tuple #[]) w' := by
  simp [Builtin.clear_, run_underlying ht, hv, hst]
theorem run_clear_vts (w : World) (ty : TypeId) (g o n c : Nat) (hn : 0 < n) (hc : w.there g o (n * 36)) :
    (Builtin.clear_ #[36] ty #[.slice (some ⟨g, o, none⟩) n c]).run Tryd.prog w = .ok (.tuple #[]) (w.setCells g o (clrZ n)) := by
  have hst := run_storeCells_cells (P := Tryd.prog) g o (clrZ n) 0 w (fun j hj => by rw [clrZ_len] at hj; rw [Nat.add_zero]; exact (hc j hj).1) (fun j hj => by rw [clrZ_len] at hj; rw [Nat.add_zero]; exact (hc j hj).2) (clrZ_one n)
  simp only [Nat.add_zero] at hst
  obtain ⟨m, rfl⟩ : ∃ m, n = m + 1 := ⟨n - 1, by omega⟩
  exact run_clear_any ty Tryd.underlying36 zero_vt _ m c hst
theorem VtOwn.cut {w : World} {base g cap n m : Nat} {M : List Vt} (h : VtOwn w base (.slice (some ⟨g, 0, none⟩) n cap) n M) (hM : VtsOk M) (hm : m ≤ n) (vs : List Value) : VtOwn (w.setCells g (m * 36) vs) base (.slice (some ⟨g, 0, none⟩) m cap) m (M.take m) := by
  have hl := h.1
  rw [vts_len M hM] at hl
  have hn : M.length = n := by omega
  have h1 := own_shrink h hm
  have ht : (M.flatMap vtC).take (m * 36) = (M.take m).flatMap vtC := by
    rw [← flat_vtF hM, flat_take vtF_len, flat_vtF (fun x hx => hM x (List.mem_of_mem_take hx))]
  rw [ht] at h1
  refine ⟨h1.1, .inr ?_⟩
  rcases h1.2 with ⟨hv, _⟩ | ⟨g', cap', cur, hv, hb, hh, hc, hx, hs, ht2⟩
  · simp at hv
  · simp only [Value.slice.injEq, Option.some.injEq, Addr.mk.injEq, and_true, true_and] at hv
    obtain ⟨rfl, rfl⟩ := hv
    have hB : Blk w g 40 cur.toList.toArray := by rw [Array.toArray_toList]; exact hh
    have h2 := Blk.setCells vs (m * 36) hB
    have hlen : ∀ (vs xs : List Value) (o : Nat), (setMany xs o vs).length = xs.length ∧ (setMany xs o vs).take o = xs.take o := by
      intro vs
      induction vs with
      | nil => intro xs o; exact ⟨rfl, rfl⟩
      | cons a l ih =>
        intro xs o
        obtain ⟨i1, i2⟩ := ih (xs.set o a) (o + 1)
        refine ⟨by rw [setMany, i1, List.length_set], ?_⟩
        have h3 := congrArg (List.take o) i2
        rw [List.take_take, List.take_take, Nat.min_eq_left (by omega)] at h3
        rw [setMany, h3, List.take_set_of_le (Nat.le_refl _)]
    refine ⟨g, cap, (setMany cur.toList (m * 36) vs).toArray, rfl, hb, h2, hc, hx, ?_, ?_⟩
    · rw [List.size_toArray, (hlen _ _ _).1, Array.length_toList, hs]
    · rw [(hlen _ _ _).2]; exact ht2
end Go.Proofs.YtoehfainhmfghaaDoor
