/- What is proved here: several parts. persons in memory, those that come in and those that a call makes. No conditions. · heads and votes as plain data, officers, which votes count; plain laws. No conditions. · heads and votes in memory: loads, stores, slices. Conditions: roots have 32 bytes. · slices of votes that the call made: one put in another's place, read, cleared. Conditions: roots have 32 bytes. -/
import Derived.Test.YtgalfohobgjelaaGreatDoorNi01
import Derived.Test.YtgalfohobgjelaaGreatDoorNi02
import Derived.Test.YtgalfohobgjelaaGreatDoorNi08
import Derived.Deep.MidRow
import Derived.Deep.RegionLaw
import Derived.Deep.AppendLies
import Derived.Deep.DeepCutAuto
import Derived.Deep.RegionHeld3
import Derived.Laws.CopyRow
namespace Go.Proofs.YtgalfohobgjelaaGreatDoor
open Go.RowKit
theorem rng_only {w w' : World} {g o : Nat} {cs : List Value} (h : w.rangeAt g o cs) (ho : Only NoneOf w w') : w'.rangeAt g o cs := fun j v hj => ho.cell_some (h j v hj) (fun e => e)
/-- A person. -/
structure Pers where
  id : Int
  role : Int
  pub : Int
def persC (p : Pers) : List Value := [.int .i64 p.id, .int .i64 p.role, .int .i64 p.pub]
/-- A slice that reads as these persons. -/
def PerSl (w : World) (v : Value) (P : List Pers) : Prop :=
  ∃ A cap, v = .slice A P.length cap ∧ P.length ≤ cap ∧ cap ≤ 9223372036854775807 ∧ ∀ (i : Nat) (p : Pers), P[i]? = some p → ∃ g o, A = some ⟨g, o, none⟩ ∧ g < w.heap.size ∧ w.rangeAt g (o + i * 3) (persC p)
theorem PerSl.only {w w' : World} {v : Value} {P : List Pers} (h : PerSl w v P) (ho : Only NoneOf w w') : PerSl w' v P := by
  obtain ⟨A, cap, hv, h1, h2, h3⟩ := h
  refine ⟨A, cap, hv, h1, h2, fun i p hp => ?_⟩
  obtain ⟨g, o, hA, hg, hr⟩ := h3 i p hp
  exact ⟨g, o, hA, Nat.lt_of_lt_of_le hg ho.size, rng_only hr ho⟩
theorem persC_len (p : Pers) : (persC p).length = 3 := rfl
/-- Persons that the call made. -/
def PerOwn (w : World) (base : Nat) (v : Value) (n : Nat) (P : List Pers) : Prop := w.ownsRow base 67 3 v n (P.flatMap persC)
theorem PerOwn.sl {w : World} {base : Nat} {v : Value} {P : List Pers} (h : PerOwn w base v P.length P) : PerSl w v P := by
  rcases h.2 with ⟨rfl, h0⟩ | ⟨g, cap, cur, rfl, hb, hh, hc, hm, hs, ht⟩
  · have hP0 : P = [] := List.eq_nil_of_length_eq_zero h0
    subst hP0
    exact ⟨none, 0, rfl, Nat.le_refl _, by omega, fun i e he => by simp at he⟩
  · rw [maxLen_val] at hm
    refine ⟨some ⟨g, 0, none⟩, cap, rfl, hc, hm, fun i p hp => ⟨g, 0, rfl, Blk.lt (t := 67) hh, fun j x hj => ?_⟩⟩
    have hj2 : j < 3 := (List.getElem?_eq_some_iff.1 hj).1
    have h1 := flat_get persC_len P i j hj2 p hp
    have h2 := World.ownsRow.cells h rfl (i * 3 + j) x (h1.trans hj)
    rw [Addr.add_mid, Nat.zero_add] at h2
    rw [Nat.zero_add]
    exact h2
theorem pers_info3 : ∃ ie z, Tryz.prog.info? 67 = some ie ∧ ie.size = 3 ∧ ie.zero = some z ∧ z.cells.size = 3 ∧ ie.bytes = 24 := by
  have h1 : (Tryz.prog.info? 67).map (·.size) = some 3 := by kernel_rfl
  have h2 : ((Tryz.prog.info? 67).bind (·.zero)).isSome = true := by kernel_rfl
  have h3 : (Tryz.prog.info? 67).map (·.bytes) = some 24 := by kernel_rfl
  have h4 : ((Tryz.prog.info? 67).bind (·.zero)).map (fun z => z.cells.size) = some 3 := by kernel_rfl
  cases hie : Tryz.prog.info? 67 with
  | none => simp [hie] at h1
  | some ie =>
    simp only [hie, Option.map_some, Option.some.injEq, Option.bind_some] at h1 h2 h3 h4
    obtain ⟨z, hz⟩ := Option.isSome_iff_exists.1 h2
    simp only [hz, Option.map_some, Option.some.injEq] at h4
    exact ⟨ie, z, rfl, h1, hz, h4, h3⟩
end Go.Proofs.YtgalfohobgjelaaGreatDoor
namespace Go.Proofs.YtgalfohobgjelaaGreatDoor
/-- A head. -/
structure Hd where
  size : Int
  root : List UInt8
structure Hd.Ok (h : Hd) : Prop where
  size : In h.size
  root : h.root.length = 32
def hdC (h : Hd) : List Value := .int .i64 h.size :: h.root.map bv
theorem hdC_len {h : Hd} (hl : h.root.length = 32) : (hdC h).length = 33 := by simp [hdC, hl]
/-- A vote. -/
structure Vt where
  who : Int
  head : Hd
  r : Int
  s : Int
structure Vt.Ok (v : Vt) : Prop where
  who : In v.who
  head : v.head.Ok
  r : In v.r
  s : In v.s
def vtC (v : Vt) : List Value := .int .i64 v.who :: (hdC v.head ++ [.int .i64 v.r, .int .i64 v.s])
theorem vtC_len {v : Vt} (hl : v.head.root.length = 32) : (vtC v).length = 36 := by simp [vtC, hdC_len hl]
/-- What is signed of a head. -/
def hdText (h : Hd) : List UInt8 := [104, 101, 97, 100, 32] ++ Lib.itoa h.size ++ [32] ++ hexL h.root
/-- A vote counts for an officer. -/
noncomputable def cnts (p : Pers) (v : Vt) : Bool := v.who == p.id && goodB p.pub (hdText v.head) v.r v.s
/-- The officers among persons, where some Ids were seen. -/
def offGo (seen : List Int) : List Pers → List Pers
  | [] => []
  | p :: l => if p.id ∉ seen ∧ p.role = 2 then p :: offGo (p.id :: seen) l else offGo (p.id :: seen) l
def offs (P : List Pers) : List Pers := offGo [] P
theorem offGo_seen : ∀ (P : List Pers) (seen : List Int), ∀ p ∈ offGo seen P, p.id ∉ seen
  | [], _, _, h => by cases h
  | q :: l, seen, p, h => by
    unfold offGo at h
    split at h
    · rename_i hq
      rcases List.mem_cons.1 h with rfl | h
      · exact hq.1
      · exact fun hm => offGo_seen l _ p h (List.mem_cons_of_mem _ hm)
    · exact fun hm => offGo_seen l _ p h (List.mem_cons_of_mem _ hm)
theorem offGo_apart : ∀ (P : List Pers) (seen : List Int), (offGo seen P).Pairwise (fun p q => p.id ≠ q.id)
  | [], _ => List.Pairwise.nil
  | q :: l, seen => by
    unfold offGo
    split
    · refine List.pairwise_cons.2 ⟨fun p hp h => ?_, offGo_apart l _⟩
      exact offGo_seen l _ p hp (by rw [← h]; exact List.mem_cons_self ..)
    · exact offGo_apart l _
theorem offs_apart (P : List Pers) : (offs P).Pairwise (fun p q => p.id ≠ q.id) := offGo_apart P []
theorem offGo_sub : ∀ (P : List Pers) (seen : List Int), ∀ p ∈ offGo seen P, p ∈ P
  | [], _, _, h => by cases h
  | q :: l, seen, p, h => by
    unfold offGo at h
    split at h
    · rcases List.mem_cons.1 h with rfl | h
      · exact List.mem_cons_self ..
      · exact List.mem_cons_of_mem _ (offGo_sub l _ p h)
    · exact List.mem_cons_of_mem _ (offGo_sub l _ p h)
theorem offs_sub (P : List Pers) : ∀ p ∈ offs P, p ∈ P := offGo_sub P []
theorem offGo_len : ∀ (P : List Pers) (seen : List Int), (offGo seen P).length ≤ P.length
  | [], _ => Nat.le_refl _
  | q :: l, seen => by
    unfold offGo
    have := offGo_len l (q.id :: seen)
    split <;> simp only [List.length_cons] <;> omega
theorem offs_len (P : List Pers) : (offs P).length ≤ P.length := offGo_len P []
/-- The officers among the first persons, and what is left. -/
theorem offGo_take : ∀ (P : List Pers) (seen : List Int) (k : Nat) (p : Pers), P[k]? = some p →
    offGo seen (P.take (k + 1)) = offGo seen (P.take k) ++ (if (p.id ∉ (P.take k).map (·.id) ∧ p.id ∉ seen) ∧ p.role = 2 then [p] else [])
  | [], _, _, _, h => by simp at h
  | q :: l, seen, 0, p, h => by
    simp at h; subst h
    simp only [List.take_succ_cons, List.take_zero, offGo, List.map_nil, List.not_mem_nil, not_false_eq_true, true_and, List.nil_append]
  | q :: l, seen, k + 1, p, h => by
    have ih := offGo_take l (q.id :: seen) k p (by simpa using h)
    simp only [List.take_succ_cons, List.map_cons, List.mem_cons, not_or]
    rw [offGo, ih]
    have e : (if (p.id ∉ (l.take k).map (·.id) ∧ p.id ∉ q.id :: seen) ∧ p.role = 2 then [p] else []) = (if ((¬p.id = q.id ∧ p.id ∉ (l.take k).map (·.id)) ∧ p.id ∉ seen) ∧ p.role = 2 then [p] else []) := by
      congr 1
      simp only [List.mem_cons, not_or, eq_iff_iff]
      constructor <;> (rintro ⟨⟨h1, h2⟩, h3⟩; exact ⟨by first | exact ⟨⟨h2.1, h1⟩, h2.2⟩ | exact ⟨h1.2, h1.1, h2⟩, h3⟩)
    rw [e]
    rw [show offGo seen (q :: l.take k) = if q.id ∉ seen ∧ q.role = 2 then q :: offGo (q.id :: seen) (l.take k) else offGo (q.id :: seen) (l.take k) from rfl]
    by_cases hq : q.id ∉ seen ∧ q.role = 2
    · rw [if_pos hq, if_pos hq]; rfl
    · rw [if_neg hq, if_neg hq]
theorem offs_take {P : List Pers} {k : Nat} {p : Pers} (h : P[k]? = some p) :
    offs (P.take (k + 1)) = offs (P.take k) ++ (if p.id ∉ (P.take k).map (·.id) ∧ p.role = 2 then [p] else []) := by
  unfold offs
  rw [offGo_take P [] k p h]
  simp
/-- What is needed of officers. -/
def need (n : Nat) : Nat := 2 * (n / 3) + n % 3 * 2 / 3 + 1
noncomputable def eqHd (a b : Hd) : Bool := @decide (a = b) (Classical.propDecidable _)
theorem eqHd_true {a b : Hd} : eqHd a b = true ↔ a = b := by unfold eqHd; simp
theorem eqHd_false {a b : Hd} : eqHd a b = false ↔ a ≠ b := by unfold eqHd; simp
/-- How many officers have voted for a head. -/
noncomputable def votesFor (O : List Pers) (l : List Vt) (h : Hd) : Nat := O.countP (fun p => l.any (fun v => eqHd v.head h && cnts p v))
noncomputable def certB (P : List Pers) (h : Hd) (l : List Vt) : Bool := decide (need (offs P).length ≤ votesFor (offs P) l h)
end Go.Proofs.YtgalfohobgjelaaGreatDoor
namespace Go.Proofs.YtgalfohobgjelaaGreatDoor
open Go.RowKit
abbrev tHd : TypeId := 37
abbrev tVt : TypeId := 43
def hdLoad (v : Value) : Sem Value := Instr.loadAt 37 v
theorem hdLoad_eq (v : Value) : Instr.loadAt 37 v = hdLoad v := rfl
def hdStore (p v : Value) : Sem Unit := Instr.storeAt 37 p v
theorem hdStore_eq (p v : Value) : Instr.storeAt 37 p v = hdStore p v := rfl
def hdNew : Sem Value := Instr.alloc 37 true (.tuple #[])
theorem hdNew_eq : Instr.alloc 37 true (.tuple #[]) = hdNew := rfl
def vtLoad (v : Value) : Sem Value := Instr.loadAt 43 v
theorem vtLoad_eq (v : Value) : Instr.loadAt 43 v = vtLoad v := rfl
def vtStore (p v : Value) : Sem Unit := Instr.storeAt 43 p v
theorem vtStore_eq (p v : Value) : Instr.storeAt 43 p v = vtStore p v := rfl
def vtNew : Sem Value := Instr.alloc 43 true (.tuple #[])
theorem vtNew_eq : Instr.alloc 43 true (.tuple #[]) = vtNew := rfl
def rootLoad (v : Value) : Sem Value := Instr.loadAt 35 v
theorem rootLoad_eq (v : Value) : Instr.loadAt 35 v = rootLoad v := rfl
def sgLoad (v : Value) : Sem Value := Instr.loadAt 41 v
theorem sgLoad_eq (v : Value) : Instr.loadAt 41 v = sgLoad v := rfl
/-- A slice literal of one vote. -/
def vtBs1 (parts : Array (Nat × Value)) : Sem Value := Instr.buildSlice 32 1 parts
theorem vtBs1_eq (parts : Array (Nat × Value)) : Instr.buildSlice 32 1 parts = vtBs1 parts := rfl
def rootZ : List UInt8 := List.replicate 32 0
def hd0 : Hd := ⟨0, rootZ⟩
def vt0 : Vt := ⟨0, hd0, 0, 0⟩
def hd0C : Array Value := (hdC hd0).toArray
def vt0C : Array Value := (vtC vt0).toArray
theorem hd_load {W : World} {g o : Nat} {h : Hd} (hr : W.rangeAt g o (hdC h)) (hl : h.root.length = 32) : (hdLoad (.pointer (some ⟨g, o, none⟩))).run Tryz.prog W = .ok (.agg (hdC h).toArray) W :=
  run_loadAt_mid W g o 37 (hdC h) _ hr Tryz.underlying37 rfl (by rw [hdC_len hl]; kernel_rfl)
theorem vt_load {W : World} {g o : Nat} {v : Vt} (hr : W.rangeAt g o (vtC v)) (hl : v.head.root.length = 32) : (vtLoad (.pointer (some ⟨g, o, none⟩))).run Tryz.prog W = .ok (.agg (vtC v).toArray) W :=
  run_loadAt_mid W g o 43 (vtC v) _ hr Tryz.underlying43 rfl (by rw [vtC_len hl]; kernel_rfl)
theorem root_load {W : World} {g o : Nat} {l : List UInt8} (hr : W.rangeAt g o (l.map bv)) (hl : l.length = 32) : (rootLoad (.pointer (some ⟨g, o, none⟩))).run Tryz.prog W = .ok (hv l) W :=
  run_loadAt_mid W g o 35 (l.map bv) _ hr Tryz.underlying35 rfl (by rw [List.length_map, hl]; kernel_rfl)
theorem sg_load {W : World} {g o : Nat} {r s : Int} (hr : W.rangeAt g o [.int .i64 r, .int .i64 s]) : (sgLoad (.pointer (some ⟨g, o, none⟩))).run Tryz.prog W = .ok (sgv r s) W :=
  run_loadAt_mid W g o 41 [.int .i64 r, .int .i64 s] _ hr Tryz.underlying41 rfl (by kernel_rfl)
theorem hdC_one (h : Hd) : ∀ u ∈ hdC h, u.oneCell' = true := fun u hu => by
  unfold hdC at hu
  rcases List.mem_cons.1 hu with rfl | hu
  · rfl
  · obtain ⟨x, _, rfl⟩ := List.mem_map.1 hu; rfl
theorem vtC_one (v : Vt) : ∀ u ∈ vtC v, u.oneCell' = true := fun u hu => by
  unfold vtC at hu
  rcases List.mem_cons.1 hu with rfl | hu
  · rfl
  · rcases List.mem_append.1 hu with hu | hu
    · exact hdC_one _ _ hu
    · simp only [List.mem_cons, List.not_mem_nil, or_false] at hu
      rcases hu with rfl | rfl <;> rfl
theorem hd_store {W : World} {b : Nat} {cs : Array Value} {h : Hd} (hb : Blk W b tHd cs) (hs : cs.size = 33) (hl : h.root.length = 32) : (hdStore (.pointer (some ⟨b, 0, none⟩)) (.agg (hdC h).toArray)).run Tryz.prog W = .ok () (W.setCells b 0 (hdC h)) :=
  run_storeAt_mid (P := Tryz.prog) W b 0 37 (hdC h).toArray (hb.there 0 _ (by rw [List.size_toArray, hdC_len hl, hs]; exact Nat.le_refl _)) (by rw [List.size_toArray, hdC_len hl]; kernel_rfl) (all_oneCell_toArray (hdC_one h))
theorem vt_store {W : World} {b : Nat} {cs : Array Value} {v : Vt} (hb : Blk W b tVt cs) (hs : cs.size = 36) (hl : v.head.root.length = 32) : (vtStore (.pointer (some ⟨b, 0, none⟩)) (.agg (vtC v).toArray)).run Tryz.prog W = .ok () (W.setCells b 0 (vtC v)) :=
  run_storeAt_mid (P := Tryz.prog) W b 0 43 (vtC v).toArray (hb.there 0 _ (by rw [List.size_toArray, vtC_len hl, hs]; exact Nat.le_refl _)) (by rw [List.size_toArray, vtC_len hl]; kernel_rfl) (all_oneCell_toArray (vtC_one v))
theorem hdNew_run (W : World) : hdNew.run Tryz.prog W = .ok (.pointer (some ⟨W.heap.size, 0, none⟩)) (W.alloc (.cells hd0C 37)) := by kernel_rfl
theorem vtNew_run (W : World) : vtNew.run Tryz.prog W = .ok (.pointer (some ⟨W.heap.size, 0, none⟩)) (W.alloc (.cells vt0C 43)) := by kernel_rfl
theorem filled_whole {W : World} {b : Nat} {t : TypeId} {cs : Array Value} (h : Blk W b t cs) {ds : List Value} (hl : ds.length = cs.size) : Blk (W.setCells b 0 ds) b t ds.toArray := by
  have h1 : Blk W b t cs.toList.toArray := by rw [Array.toArray_toList]; exact h
  exact h1.filled ds (by rw [Array.length_toList]; exact hl)
/-- A vote in a block of its own. -/
def VtAt (w : World) (B : Nat) (v : Vt) : Prop := Blk w B tVt (vtC v).toArray
def HdAt (w : World) (B : Nat) (h : Hd) : Prop := Blk w B tHd (hdC h).toArray
theorem blk_range {w : World} {B : Nat} {t : TypeId} {cs : List Value} (h : Blk w B t cs.toArray) : w.rangeAt B 0 cs := fun j v hj => by rw [Nat.zero_add, h.cell]; simpa using hj
theorem range_head {w : World} {g o : Nat} {v : Vt} (hr : w.rangeAt g o (vtC v)) (_hl : v.head.root.length = 32) : w.rangeAt g (o + 1) (hdC v.head) := fun j x hj => by
  have h1 := hr (1 + j) x (by
    have hj2 := (List.getElem?_eq_some_iff.1 hj).1
    unfold vtC
    rw [show 1 + j = j + 1 by omega, List.getElem?_cons_succ, List.getElem?_append_left hj2]
    exact hj)
  rw [show o + 1 + j = o + (1 + j) by omega]
  exact h1
theorem range_sig {w : World} {g o : Nat} {v : Vt} (hr : w.rangeAt g o (vtC v)) (hl : v.head.root.length = 32) : w.rangeAt g (o + 34) [.int .i64 v.r, .int .i64 v.s] := fun j x hj => by
  have h1 := hr (34 + j) x (by
    unfold vtC
    rw [show 34 + j = (33 + j) + 1 by omega, List.getElem?_cons_succ, List.getElem?_append_right (by rw [hdC_len hl]; omega), hdC_len hl, show 33 + j - 33 = j by omega]
    exact hj)
  rw [show o + 34 + j = o + (34 + j) by omega]
  exact h1
theorem range_root {w : World} {g o : Nat} {h : Hd} (hr : w.rangeAt g o (hdC h)) : w.rangeAt g (o + 1) (h.root.map bv) := fun j x hj => by
  have h1 := hr (1 + j) x (by unfold hdC; rw [show 1 + j = j + 1 by omega, List.getElem?_cons_succ]; exact hj)
  rw [show o + 1 + j = o + (1 + j) by omega]
  exact h1
/-- A slice that reads as these votes. -/
def VtSl (w : World) (v : Value) (L : List Vt) : Prop :=
  ∃ A cap, v = .slice A L.length cap ∧ L.length ≤ cap ∧ cap ≤ 9223372036854775807 ∧ ∀ (i : Nat) (e : Vt), L[i]? = some e → ∃ g o, A = some ⟨g, o, none⟩ ∧ g < w.heap.size ∧ w.rangeAt g (o + i * 36) (vtC e)
theorem VtSl.only {w w' : World} {v : Value} {L : List Vt} (h : VtSl w v L) (ho : Only NoneOf w w') : VtSl w' v L := by
  obtain ⟨A, cap, hv, h1, h2, h3⟩ := h
  refine ⟨A, cap, hv, h1, h2, fun i p hp => ?_⟩
  obtain ⟨g, o, hA, hg, hr⟩ := h3 i p hp
  exact ⟨g, o, hA, Nat.lt_of_lt_of_le hg ho.size, rng_only hr ho⟩
def VtsOk (L : List Vt) : Prop := ∀ v ∈ L, v.Ok
/-- Votes that the call made. -/
def VtOwn (w : World) (base : Nat) (v : Value) (n : Nat) (L : List Vt) : Prop := w.ownsRow base 43 36 v n (L.flatMap vtC)
theorem vts_len : ∀ (L : List Vt) (_ : VtsOk L), (L.flatMap vtC).length = L.length * 36
  | [], _ => rfl
  | x :: l, h => by
    rw [List.flatMap_cons, List.length_append, vtC_len (h x (by simp)).head.root, vts_len l (fun p hp => h p (by simp [hp])), List.length_cons]
    omega
theorem vts_get : ∀ (L : List Vt) (_ : VtsOk L) (i j : Nat) (_ : j < 36) (p : Vt) (_ : L[i]? = some p), (L.flatMap vtC)[i * 36 + j]? = (vtC p)[j]?
  | [], _, _, _, _, _, h => by simp at h
  | x :: l, hf, i, j, hj, p, hp => by
    have hx := vtC_len (hf x (by simp)).head.root
    cases i with
    | zero =>
      simp at hp; subst hp
      simp only [List.flatMap_cons, Nat.zero_mul, Nat.zero_add]
      rw [List.getElem?_append_left (by rw [hx]; exact hj)]
    | succ i =>
      simp only [List.flatMap_cons]
      rw [List.getElem?_append_right (by rw [hx]; omega), hx, show (i + 1) * 36 + j - 36 = i * 36 + j by omega]
      exact vts_get l (fun q hq => hf q (by simp [hq])) i j hj p (by simpa using hp)
theorem VtOwn.sl {w : World} {base : Nat} {v : Value} {L : List Vt} (h : VtOwn w base v L.length L) (hok : VtsOk L) : VtSl w v L := by
  rcases h.2 with ⟨rfl, h0⟩ | ⟨g, cap, cur, rfl, hb, hh, hc, hm, hs, ht⟩
  · have hP0 : L = [] := List.eq_nil_of_length_eq_zero h0
    subst hP0
    exact ⟨none, 0, rfl, Nat.le_refl _, by omega, fun i e he => by simp at he⟩
  · rw [maxLen_val] at hm
    refine ⟨some ⟨g, 0, none⟩, cap, rfl, hc, hm, fun i p hp => ⟨g, 0, rfl, Blk.lt (t := 43) hh, fun j x hj => ?_⟩⟩
    have hj2 : j < 36 := by
      have := (List.getElem?_eq_some_iff.1 hj).1
      rwa [vtC_len (hok p (List.mem_of_getElem? hp)).head.root] at this
    have h1 := vts_get L hok i j hj2 p hp
    have h2 := World.ownsRow.cells h rfl (i * 36 + j) x (h1.trans hj)
    rw [Addr.add_mid, Nat.zero_add] at h2
    rw [Nat.zero_add]
    exact h2
theorem vt_info : ∃ ie z, Tryz.prog.info? 43 = some ie ∧ ie.size = 36 ∧ ie.zero = some z ∧ z.cells.size = 36 ∧ ie.bytes ≤ 100 := by
  have h1 : (Tryz.prog.info? 43).map (·.size) = some 36 := by kernel_rfl
  have h2 : ((Tryz.prog.info? 43).bind (·.zero)).isSome = true := by kernel_rfl
  have h3 : (Tryz.prog.info? 43).map (fun i => decide (i.bytes ≤ 100)) = some true := by kernel_rfl
  have h4 : ((Tryz.prog.info? 43).bind (·.zero)).map (fun z => z.cells.size) = some 36 := by kernel_rfl
  cases hie : Tryz.prog.info? 43 with
  | none => simp [hie] at h1
  | some ie =>
    simp only [hie, Option.map_some, Option.some.injEq, Option.bind_some, decide_eq_true_eq] at h1 h2 h3 h4
    obtain ⟨z, hz⟩ := Option.isSome_iff_exists.1 h2
    simp only [hz, Option.map_some, Option.some.injEq] at h4
    exact ⟨ie, z, rfl, h1, hz, h4, h3⟩
end Go.Proofs.YtgalfohobgjelaaGreatDoor
namespace Go.Proofs.YtgalfohobgjelaaGreatDoor
open Go.RowKit
/-- A vote's cells, 36 of them in any case. -/
def vtF (v : Vt) : List Value := if v.head.root.length = 32 then vtC v else List.replicate 36 undef
theorem vtF_len (v : Vt) : (vtF v).length = 36 := by
  unfold vtF
  split
  · exact vtC_len (by assumption)
  · simp
theorem vtF_of {v : Vt} (h : v.head.root.length = 32) : vtF v = vtC v := by unfold vtF; rw [if_pos h]
theorem flat_vtF {M : List Vt} (hM : VtsOk M) : M.flatMap vtF = M.flatMap vtC := by
  induction M with
  | nil => rfl
  | cons e l ih =>
    rw [List.flatMap_cons, List.flatMap_cons, vtF_of (hM e (by simp)).head.root, ih (fun x hx => hM x (by simp [hx]))]
theorem vstores_cells (vs : List Value) : ∀ (w : World) (g o : Nat), stores w g o vs = w.setCells g o vs := by
  induction vs with
  | nil => intro w g o; rfl
  | cons v l ih => intro w g o; simp only [stores, World.setCells]; exact ih _ _ _
theorem vts_set {M : List Vt} (hM : VtsOk M) {v : Vt} (hv : v.Ok) (i : Nat) : VtsOk (M.set i v) := fun x hx => by
  rcases List.mem_or_eq_of_mem_set hx with h | rfl
  · exact hM x h
  · exact hv
theorem VtOwn.put {w : World} {base g cap i : Nat} {M : List Vt} {v : Vt} (h : VtOwn w base (.slice (some ⟨g, 0, none⟩) M.length cap) M.length M) (hM : VtsOk M) (hi : i < M.length) (hv : v.Ok) :
    VtOwn (w.setCells g (i * 36) (vtC v)) base (.slice (some ⟨g, 0, none⟩) M.length cap) M.length (M.set i v) := by
  unfold VtOwn at h ⊢
  rw [← flat_vtF hM] at h
  rw [← flat_vtF (vts_set hM hv i), ← vtF_of hv.head.root, ← vstores_cells]
  exact own_put vtF_len v h hi
theorem VtOwn.range {w : World} {base g cap n m i : Nat} {M : List Vt} {v : Vt} (h : VtOwn w base (.slice (some ⟨g, 0, none⟩) n cap) m M) (hM : VtsOk M) (hv : M[i]? = some v) : w.rangeAt g (i * 36) (vtC v) := fun j x hj => by
  have hj2 : j < 36 := by
    have := (List.getElem?_eq_some_iff.1 hj).1
    rw [vtC_len (hM v (List.mem_of_getElem? hv)).head.root] at this; exact this
  have h1 := vts_get M hM i j hj2 v hv
  have h2 := World.ownsRow.cells h rfl (i * 36 + j) x (h1.trans hj)
  rw [Addr.add_mid, Nat.zero_add] at h2
  exact h2
theorem vown_there {w : World} {base g cap n : Nat} {e : TypeId} {size : Nat} {xs : List Value} (h : w.ownsRow base e size (.slice (some ⟨g, 0, none⟩) n cap) n xs) {o m : Nat} (hm : o + m ≤ n * size) : w.there g o m := by
  rcases h.2 with ⟨h0, _⟩ | ⟨g', cap', cur, hv, hb, hh, hc, hx, hs, ht⟩
  · simp at h0
  · simp only [Value.slice.injEq, Option.some.injEq, Addr.mk.injEq, and_true, true_and] at hv
    obtain ⟨rfl, rfl⟩ := hv
    exact Blk.there (t := e) (cs := cur) hh o m (by rw [hs]; exact Nat.le_trans hm (Nat.mul_le_mul_right _ hc))
theorem vt_store_own {w : World} {base g cap i : Nat} {M : List Vt} {v : Vt} (h : VtOwn w base (.slice (some ⟨g, 0, none⟩) M.length cap) M.length M) (hi : i < M.length) (hv : v.Ok) :
    (vtStore (.pointer (some ⟨g, i * 36, none⟩)) (.agg (vtC v).toArray)).run Tryz.prog w = .ok () (w.setCells g (i * 36) (vtC v)) := by
  have h36 : (vtC v).toArray.size = 36 := by rw [List.size_toArray, vtC_len hv.head.root]
  have h1 : i * 36 + 36 ≤ M.length * 36 := by
    have : (i + 1) * 36 ≤ M.length * 36 := Nat.mul_le_mul_right _ hi
    omega
  exact run_storeAt_mid (P := Tryz.prog) w g (i * 36) 43 (vtC v).toArray (vown_there h (by rw [h36]; exact h1)) (by rw [h36]; kernel_rfl) (all_oneCell_toArray (vtC_one v))
theorem zero_vt (w : World) : (zeroValue 43).run Tryz.prog w = .ok (.agg vt0C) w := by kernel_rfl
/-- The cells that 'clear' writes. -/
def clrZ (n : Nat) : List Value := (Builtin.zeroCells vt0C n).toList
theorem clrZ_len (n : Nat) : (clrZ n).length = n * 36 := by
  unfold clrZ Builtin.zeroCells
  rw [Array.length_toList, Array.size_map, Array.size_range]
  rfl
theorem vt0_one : ∀ k : Fin 36, (vt0C[k.val]!).oneCell' = true := by decide +kernel
theorem clrZ_one (n : Nat) : ∀ v ∈ clrZ n, v.oneCell' = true := fun v hv => by
  unfold clrZ Builtin.zeroCells at hv
  rw [Array.toList_map, List.mem_map] at hv
  obtain ⟨i, _, rfl⟩ := hv
  exact vt0_one ⟨i % 36, Nat.mod_lt _ (by omega)⟩
theorem run_clear_any {P : Program} {w w' : World} {t e : TypeId} {z : Value} (ty : TypeId) (ht : P.underlying t = some (.slice e)) (hv : ∀ w, (zeroValue e).run P w = .ok z w) (a : Addr) (m c : Nat)
    (hst : (storeCells a (Builtin.zeroCells z.cells (m + 1)).toList).run P w = .ok () w') : (Builtin.clear_ #[t] ty #[.slice (some a) (m + 1) c]).run P w = .ok (.tuple #[]) w' := by
  simp [Builtin.clear_, run_underlying ht, hv, hst]
theorem run_clear_vts (w : World) (ty : TypeId) (g o n c : Nat) (hn : 0 < n) (hc : w.there g o (n * 36)) :
    (Builtin.clear_ #[32] ty #[.slice (some ⟨g, o, none⟩) n c]).run Tryz.prog w = .ok (.tuple #[]) (w.setCells g o (clrZ n)) := by
  have hst := run_storeCells_cells (P := Tryz.prog) g o (clrZ n) 0 w (fun j hj => by rw [clrZ_len] at hj; rw [Nat.add_zero]; exact (hc j hj).1) (fun j hj => by rw [clrZ_len] at hj; rw [Nat.add_zero]; exact (hc j hj).2) (clrZ_one n)
  simp only [Nat.add_zero] at hst
  obtain ⟨m, rfl⟩ : ∃ m, n = m + 1 := ⟨n - 1, by omega⟩
  exact run_clear_any ty Tryz.underlying32 zero_vt _ m c hst
theorem VtOwn.cut {w : World} {base g cap n m : Nat} {M : List Vt} (h : VtOwn w base (.slice (some ⟨g, 0, none⟩) n cap) n M) (hM : VtsOk M) (hm : m ≤ n) (vs : List Value) : VtOwn (w.setCells g (m * 36) vs) base (.slice (some ⟨g, 0, none⟩) m cap) m (M.take m) := by
  have hl := h.1
  rw [vts_len M hM] at hl
  have hn : M.length = n := by omega
  have h1 := own_shrink h hm
  have ht : (M.flatMap vtC).take (m * 36) = (M.take m).flatMap vtC := by
    rw [← flat_vtF hM, flat_take vtF_len, flat_vtF (fun x hx => hM x (List.mem_of_mem_take hx))]
  rw [ht] at h1
  refine ⟨h1.1, .inr ?_⟩
  rcases h1.2 with ⟨hv, _⟩ | ⟨g', cap', cur, hv, hb, hh, hc, hx, hs, ht2⟩
  · simp at hv
  · simp only [Value.slice.injEq, Option.some.injEq, Addr.mk.injEq, and_true, true_and] at hv
    obtain ⟨rfl, rfl⟩ := hv
    have hB : Blk w g 43 cur.toList.toArray := by rw [Array.toArray_toList]; exact hh
    have h2 := Blk.setCells vs (m * 36) hB
    have hlen : ∀ (vs xs : List Value) (o : Nat), (setMany xs o vs).length = xs.length ∧ (setMany xs o vs).take o = xs.take o := by
      intro vs
      induction vs with
      | nil => intro xs o; exact ⟨rfl, rfl⟩
      | cons a l ih =>
        intro xs o
        obtain ⟨i1, i2⟩ := ih (xs.set o a) (o + 1)
        refine ⟨by rw [setMany, i1, List.length_set], ?_⟩
        have h3 := congrArg (List.take o) i2
        rw [List.take_take, List.take_take, Nat.min_eq_left (by omega)] at h3
        rw [setMany, h3, List.take_set_of_le (Nat.le_refl _)]
    refine ⟨g, cap, (setMany cur.toList (m * 36) vs).toArray, rfl, hb, h2, hc, hx, ?_, ?_⟩
    · rw [List.size_toArray, (hlen _ _ _).1, Array.length_toList, hs]
    · rw [(hlen _ _ _).2]; exact ht2
end Go.Proofs.YtgalfohobgjelaaGreatDoor
