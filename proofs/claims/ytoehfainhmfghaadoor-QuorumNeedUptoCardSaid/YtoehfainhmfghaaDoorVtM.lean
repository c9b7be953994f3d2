/- What is proved here: heads and votes in memory: loads, stores, slices. Conditions: roots have 32 bytes. -/
import Derived.Test.YtoehfainhmfghaaDoorQuA
import Derived.Test.YtoehfainhmfghaaDoorM7
import Derived.Deep.DeepCutAuto
import Derived.Deep.RegionHeld3
namespace Go.Proofs.YtoehfainhmfghaaDoor
open Go.RowKit
abbrev tHd : TypeId := 35
abbrev tVt : TypeId := 40
def hdLoad (v : Value) : Sem Value := Instr.loadAt 35 v
theorem hdLoad_eq (v : Value) : Instr.loadAt 35 v = hdLoad v := rfl
def hdStore (p v : Value) : Sem Unit := Instr.storeAt 35 p v
theorem hdStore_eq (p v : Value) : Instr.storeAt 35 p v = hdStore p v := rfl
def hdNew : Sem Value := Instr.alloc 35 true (.tuple #[])
theorem hdNew_eq : Instr.alloc 35 true (.tuple #[]) = hdNew := rfl
def vtLoad (v : Value) : Sem Value := Instr.loadAt 40 v
theorem vtLoad_eq (v : Value) : Instr.loadAt 40 v = vtLoad v := rfl
def vtStore (p v : Value) : Sem Unit := Instr.storeAt 40 p v
theorem vtStore_eq (p v : Value) : Instr.storeAt 40 p v = vtStore p v := rfl
def vtNew : Sem Value := Instr.alloc 40 true (.tuple #[])
theorem vtNew_eq : Instr.alloc 40 true (.tuple #[]) = vtNew := rfl
def rootLoad (v : Value) : Sem Value := Instr.loadAt 33 v
theorem rootLoad_eq (v : Value) : Instr.loadAt 33 v = rootLoad v := rfl
def sgLoad (v : Value) : Sem Value := Instr.loadAt 38 v
theorem sgLoad_eq (v : Value) : Instr.loadAt 38 v = sgLoad v := rfl
/-- A slice literal of one vote. -/
def vtBs1 (parts : Array (Nat × Value)) : Sem Value := Instr.buildSlice 36 1 parts
theorem vtBs1_eq (parts : Array (Nat × Value)) : Instr.buildSlice 36 1 parts = vtBs1 parts := rfl
def rootZ : List UInt8 := List.replicate 32 0
def hd0 : Hd := ⟨0, rootZ⟩
def vt0 : Vt := ⟨0, hd0, 0, 0⟩
def hd0C : Array Value := (hdC hd0).toArray
def vt0C : Array Value := (vtC vt0).toArray
theorem hd_load {W : World} {g o : Nat} {h : Hd} (hr : W.rangeAt g o (hdC h)) (hl : h.root.length = 32) : (hdLoad (.pointer (some ⟨g, o, none⟩))).run Tryd.prog W = .ok (.agg (hdC h).toArray) W :=
  run_loadAt_mid W g o 35 (hdC h) _ hr Tryd.underlying35 rfl (by rw [hdC_len hl]; kernel_rfl)
theorem vt_load {W : World} {g o : Nat} {v : Vt} (hr : W.rangeAt g o (vtC v)) (hl : v.head.root.length = 32) : (vtLoad (.pointer (some ⟨g, o, none⟩))).run Tryd.prog W = .ok (.agg (vtC v).toArray) W :=
  run_loadAt_mid W g o 40 (vtC v) _ hr Tryd.underlying40 rfl (by rw [vtC_len hl]; kernel_rfl)
theorem root_load {W : World} {g o : Nat} {l : List UInt8} (hr : W.rangeAt g o (l.map bv)) (hl : l.length = 32) : (rootLoad (.pointer (some ⟨g, o, none⟩))).run Tryd.prog W = .ok (hv l) W :=
  run_loadAt_mid W g o 33 (l.map bv) _ hr Tryd.underlying33 rfl (by rw [List.length_map, hl]; kernel_rfl)
theorem sg_load {W : World} {g o : Nat} {r s : Int} (hr : W.rangeAt g o [.int .i64 r, .int .i64 s]) : (sgLoad (.pointer (some ⟨g, o, none⟩))).run Tryd.prog W = .ok (sgv r s) W :=
  run_loadAt_mid W g o 38 [.int .i64 r, .int .i64 s] _ hr Tryd.underlying38 rfl (by kernel_rfl)
theorem hdC_one (h : Hd) : ∀ u ∈ hdC h, u.oneCell' = true := fun u hu => by
  unfold hdC at hu
  rcases List.mem_cons.1 hu with rfl | hu
  · rfl
  · obtain ⟨x, _, rfl⟩ := List.mem_map.1 hu; rfl
theorem vtC_one (v : Vt) : ∀ u ∈ vtC v, u.oneCell' = true := fun u hu => by
  unfold vtC at hu
  rcases List.mem_cons.1 hu with rfl | hu
  · rfl
  · rcases List.mem_append.1 hu with hu | hu
    · exact hdC_one _ _ hu
    · simp only [List.mem_cons, List.not_mem_nil, or_false] at hu
      rcases hu with rfl | rfl <;> rfl
theorem hd_store {W : World} {b : Nat} {cs : Array Value} {h : Hd} (hb : Blk W b tHd cs) (hs : cs.size = 33) (hl : h.root.length = 32) : (hdStore (.pointer (some ⟨b, 0, none⟩)) (.agg (hdC h).toArray)).run Tryd.prog W = .ok () (W.setCells b 0 (hdC h)) :=
  run_storeAt_mid (P := Tryd.prog) W b 0 35 (hdC h).toArray (hb.there 0 _ (by rw [List.size_toArray, hdC_len hl, hs]; exact Nat.le_refl _)) (by rw [List.size_toArray, hdC_len hl]; kernel_rfl) (all_oneCell_toArray (hdC_one h))
theorem vt_store {W : World} {b : Nat} {cs : Array Value} {v : Vt} (hb : Blk W b tVt cs) (hs : cs.size = 36) (hl : v.head.root.length = 32) : (vtStore (.pointer (some ⟨b, 0, none⟩)) (.agg (vtC v).toArray)).run Tryd.prog W = .ok () (W.setCells b 0 (vtC v)) :=
  run_storeAt_mid (P := Tryd.prog) W b 0 40 (vtC v).toArray (hb.there 0 _ (by rw [List.size_toArray, vtC_len hl, hs]; exact Nat.le_refl _)) (by rw [List.size_toArray, vtC_len hl]; kernel_rfl) (all_oneCell_toArray (vtC_one v))
theorem hdNew_run (W : World) : hdNew.run Tryd.prog W = .ok (.pointer (some ⟨W.heap.size, 0, none⟩)) (W.alloc (.cells hd0C 35)) := by kernel_rfl
theorem vtNew_run (W : World) : vtNew.run Tryd.prog W = .ok (.pointer (some ⟨W.heap.size, 0, none⟩)) (W.alloc (.cells vt0C 40)) := by kernel_rfl
theorem filled_whole {W : World} {b : Nat} {t : TypeId} {cs : Array Value} (h : Blk W b t cs) {ds : List Value} (hl : ds.length = cs.size) : Blk (W.setCells b 0 ds) b t ds.toArray := by
  have h1 : Blk W b t cs.toList.toArray := by rw [Array.toArray_toList]; exact h
  exact h1.filled ds (by rw [Array.length_toList]; exact hl)
/-- A vote in a block of its own. -/
def VtAt (w : World) (B : Nat) (v : Vt) : Prop := Blk w B tVt (vtC v).toArray
def HdAt (w : World) (B : Nat) (h : Hd) : Prop := Blk w B tHd (hdC h).toArray
theorem blk_range {w : World} {B : Nat} {t : TypeId} {cs : List Value} (h : Blk w B t cs.toArray) : w.rangeAt B 0 cs := fun j v hj => by rw [Nat.zero_add, h.cell]; simpa using hj
theorem range_head {w : World} {g o : Nat} {v : Vt} (hr : w.rangeAt g o (vtC v)) (_hl : v.head.root.length = 32) : w.rangeAt g (o + 1) (hdC v.head) := fun j x hj => by
  have h1 := hr (1 + j) x (by
    have hj2 := (List.getElem?_eq_some_iff.1 hj).1
    unfold vtC
    rw [show 1 + j = j + 1 by omega, List.getElem?_cons_succ, List.getElem?_append_left hj2]
    exact hj)
  rw [show o + 1 + j = o + (1 + j) by omega]
  exact h1
theorem range_sig {w : World} {g o : Nat} {v : Vt} (hr : w.rangeAt g o (vtC v)) (hl : v.head.root.length = 32) : w.rangeAt g (o + 34) [.int .i64 v.r, .int .i64 v.s] := fun j x hj => by
  have h1 := hr (34 + j) x (by
    unfold vtC
    rw [show 34 + j = (33 + j) + 1 by omega, List.getElem?_cons_succ, List.getElem?_append_right (by rw [hdC_len hl]; omega), hdC_len hl, show 33 + j - 33 = j by omega]
    exact hj)
  rw [show o + 34 + j = o + (34 + j) by omega]
  exact h1
theorem range_root {w : World} {g o : Nat} {h : Hd} (hr : w.rangeAt g o (hdC h)) : w.rangeAt g (o + 1) (h.root.map bv) := fun j x hj => by
  have h1 := hr (1 + j) x (by unfold hdC; rw [show 1 + j = j + 1 by omega, List.getElem?_cons_succ]; exact hj)
  rw [show o + 1 + j = o + (1 + j) by omega]
  exact h1
/-- A slice that reads as these votes. -/
def VtSl (w : World) (v : Value) (L : List Vt) : Prop :=
  ∃ A cap, v = .slice A L.length cap ∧ L.length ≤ cap ∧ cap ≤ 9223372036854775807 ∧ ∀ (i : Nat) (e : Vt), L[i]? = some e → ∃ g o, A = some ⟨g, o, none⟩ ∧ g < w.heap.size ∧ w.rangeAt g (o + i * 36) (vtC e)
theorem VtSl.only {w w' : World} {v : Value} {L : List Vt} (h : VtSl w v L) (ho : Only NoneOf w w') : VtSl w' v L := by
  obtain ⟨A, cap, hv, h1, h2, h3⟩ := h
  refine ⟨A, cap, hv, h1, h2, fun i p hp => ?_⟩
  obtain ⟨g, o, hA, hg, hr⟩ := h3 i p hp
  exact ⟨g, o, hA, Nat.lt_of_lt_of_le hg ho.size, rng_only hr ho⟩
def VtsOk (L : List Vt) : Prop := ∀ v ∈ L, v.Ok
/-- Votes that the call made. -/
def VtOwn (w : World) (base : Nat) (v : Value) (n : Nat) (L : List Vt) : Prop := w.ownsRow base 40 36 v n (L.flatMap vtC)
theorem vts_len : ∀ (L : List Vt) (_ : VtsOk L), (L.flatMap vtC).length = L.length * 36
  | [], _ => rfl
  | x :: l, h => by
    rw [List.flatMap_cons, List.length_append, vtC_len (h x (by simp)).head.root, vts_len l (fun p hp => h p (by simp [hp])), List.length_cons]
    omega
theorem vts_get : ∀ (L : List Vt) (_ : VtsOk L) (i j : Nat) (_ : j < 36) (p : Vt) (_ : L[i]? = some p), (L.flatMap vtC)[i * 36 + j]? = (vtC p)[j]?
  | [], _, _, _, _, _, h => by simp at h
  | x :: l, hf, i, j, hj, p, hp => by
    have hx := vtC_len (hf x (by simp)).head.root
    cases i with
    | zero =>
      simp at hp; subst hp
      simp only [List.flatMap_cons, Nat.zero_mul, Nat.zero_add]
      rw [List.getElem?_append_left (by rw [hx]; exact hj)]
    | succ i =>
      simp only [List.flatMap_cons]
      rw [List.getElem?_append_right (by rw [hx]; omega), hx, show (i + 1) * 36 + j - 36 = i * 36 + j by omega]
      exact vts_get l (fun q hq => hf q (by simp [hq])) i j hj p (by simpa using hp)
theorem VtOwn.sl {w : World} {base : Nat} {v : Value} {L : List Vt} (h : VtOwn w base v L.length L) (hok : VtsOk L) : VtSl w v L := by
  rcases h.2 with ⟨rfl, h0⟩ | ⟨g, cap, cur, rfl, hb, hh, hc, hm, hs, ht⟩
  · have hP0 : L = [] := List.eq_nil_of_length_eq_zero h0
    subst hP0
    exact ⟨none, 0, rfl, Nat.le_refl _, by omega, fun i e he => by simp at he⟩
  · rw [maxLen_val] at hm
    refine ⟨some ⟨g, 0, none⟩, cap, rfl, hc, hm, fun i p hp => ⟨g, 0, rfl, Blk.lt (t := 40) hh, fun j x hj => ?_⟩⟩
    have hj2 : j < 36 := by
      have := (List.getElem?_eq_some_iff.1 hj).1
      rwa [vtC_len (hok p (List.mem_of_getElem? hp)).head.root] at this
    have h1 := vts_get L hok i j hj2 p hp
    have h2 := World.ownsRow.cells h rfl (i * 36 + j) x (h1.trans hj)
    rw [Addr.add_mid, Nat.zero_add] at h2
    rw [Nat.zero_add]
    exact h2
theorem vt_info : ∃ ie z, Tryd.prog.info? 40 = some ie ∧ ie.size = 36 ∧ ie.zero = some z ∧ z.cells.size = 36 ∧ ie.bytes ≤ 100 := by
  have h1 : (Tryd.prog.info? 40).map (·.size) = some 36 := by kernel_rfl
  have h2 : ((Tryd.prog.info? 40).bind (·.zero)).isSome = true := by kernel_rfl
  have h3 : (Tryd.prog.info? 40).map (fun i => decide (i.bytes ≤ 100)) = some true := by kernel_rfl
  have h4 : ((Tryd.prog.info? 40).bind (·.zero)).map (fun z => z.cells.size) = some 36 := by kernel_rfl
  cases hie : Tryd.prog.info? 40 with
  | none => simp [hie] at h1
  | some ie =>
    simp only [hie, Option.map_some, Option.some.injEq, Option.bind_some, decide_eq_true_eq] at h1 h2 h3 h4
    obtain ⟨z, hz⟩ := Option.isSome_iff_exists.1 h2
    simp only [hz, Option.map_some, Option.some.injEq] at h4
    exact ⟨ie, z, rfl, h1, hz, h4, h3⟩
end Go.Proofs.YtoehfainhmfghaaDoor
