/- What is proved here: two events are compared by '==' as plain events are. Conditions: their hashes have 32 bytes. -/
import Derived.Test.YtclpebgjmgfigaaGreatDoorEvK
import Derived.Test.YtclpebgjmgfigaaGreatDoorEqT
namespace Go.Proofs.YtclpebgjmgfigaaGreatDoor
open Go.RowKit
theorem agg_hash (w : World) : (isAgg 25).run Tryz.prog w = .ok true w := by kernel_rfl
theorem size_hash (w : World) : (sizeOf 25).run Tryz.prog w = .ok 32 w := by kernel_rfl
theorem agg_share (w : World) : (isAgg 23).run Tryz.prog w = .ok true w := by kernel_rfl
theorem size_share (w : World) : (sizeOf 23).run Tryz.prog w = .ok 2 w := by kernel_rfl
theorem agg_sig (w : World) : (isAgg 27).run Tryz.prog w = .ok true w := by kernel_rfl
theorem size_sig (w : World) : (sizeOf 27).run Tryz.prog w = .ok 2 w := by kernel_rfl
theorem fields_share : (Tryz.prog.fieldsOf 23).toList.map (fun f => (f.name, f.type, f.offset)) = [("X", 3, 0), ("Y", 3, 1)] := by kernel_rfl
theorem fields_sig : (Tryz.prog.fieldsOf 27).toList.map (fun f => (f.name, f.type, f.offset)) = [("R", 3, 0), ("S", 3, 1)] := by kernel_rfl
theorem fields_event : (Tryz.prog.fieldsOf 29).toList.map (fun f => (f.name, f.type, f.offset)) = [("Seq", 3, 0), ("Kind", 3, 1), ("Who", 3, 2), ("Time", 3, 3), ("Bidder", 3, 4), ("Lot", 3, 5), ("N", 3, 6), ("Other", 3, 7), ("Name", 9, 8), ("Text", 9, 9), ("Share", 23, 10), ("Prev", 25, 12), ("Sig", 27, 44)] := by kernel_rfl
theorem eq_share {d : Nat} (a b a' b' : Int) (w : World) : (Op.equalIn (d + 2) 23 (.agg #[.int .i64 a, .int .i64 b]) (.agg #[.int .i64 a', .int .i64 b'])).run Tryz.prog w = .ok (a == a' && (b == b' && true)) w :=
  eq_struct (by kernel_rfl) (by kernel_rfl) fields_share (eqT_cons (by decide) (part_one (agg_int w) rfl) (part_one (agg_int w) rfl) (eq_int a a' w) (eqT_cons (by decide) (part_one (agg_int w) rfl) (part_one (agg_int w) rfl) (eq_int b b' w) eqT_nil))
theorem eq_sig {d : Nat} (a b a' b' : Int) (w : World) : (Op.equalIn (d + 2) 27 (.agg #[.int .i64 a, .int .i64 b]) (.agg #[.int .i64 a', .int .i64 b'])).run Tryz.prog w = .ok (a == a' && (b == b' && true)) w :=
  eq_struct (by kernel_rfl) (by kernel_rfl) fields_sig (eqT_cons (by decide) (part_one (agg_int w) rfl) (part_one (agg_int w) rfl) (eq_int a a' w) (eqT_cons (by decide) (part_one (agg_int w) rfl) (part_one (agg_int w) rfl) (eq_int b b' w) eqT_nil))
theorem evC_part (e : Ev) (hp : e.prev.length = 32) : (evC e).toArray.extract 10 12 = #[.int .i64 e.sx, .int .i64 e.sy] ∧ (evC e).toArray.extract 12 44 = (e.prev.map bv).toArray ∧ (evC e).toArray.extract 44 46 = #[.int .i64 e.r, .int .i64 e.s] := by
  refine ⟨?_, ?_, ?_⟩
  · apply Array.toList_inj.1
    simp [evC, List.extract_eq_take_drop]
  · apply Array.toList_inj.1
    simp [evC, List.extract_eq_take_drop, hp]
  · apply Array.toList_inj.1
    simp [evC, List.extract_eq_take_drop, hp]
noncomputable def sameE (e f : Ev) : Bool := @decide (e = f) (Classical.propDecidable _)
theorem sameE_true {e f : Ev} : sameE e f = true ↔ e = f := by unfold sameE; simp
theorem evC_at (e : Ev) : (evC e).toArray[0]? = some (.int .i64 e.seq) ∧ (evC e).toArray[1]? = some (.int .i64 e.kind) ∧ (evC e).toArray[2]? = some (.int .i64 e.who) ∧ (evC e).toArray[3]? = some (.int .i64 e.time) ∧ (evC e).toArray[4]? = some (.int .i64 e.bidder) ∧ (evC e).toArray[5]? = some (.int .i64 e.lot) ∧ (evC e).toArray[6]? = some (.int .i64 e.n) ∧ (evC e).toArray[7]? = some (.int .i64 e.other) ∧ (evC e).toArray[8]? = some (.string e.name) ∧ (evC e).toArray[9]? = some (.string e.text) :=
  ⟨rfl, rfl, rfl, rfl, rfl, rfl, rfl, rfl, rfl, rfl⟩
set_option maxRecDepth 100000 in
theorem equal_ev (e f : Ev) (he : e.prev.length = 32) (hf : f.prev.length = 32) (w : World) : (Op.equalIn 10000 29 (.agg (evC e).toArray) (.agg (evC f).toArray)).run Tryz.prog w = .ok (sameE e f) w := by
  obtain ⟨e10, e12, e44⟩ := evC_part e he
  obtain ⟨f10, f12, f44⟩ := evC_part f hf
  obtain ⟨e0, e1, e2, e3, e4, e5, e6, e7, e8, e9⟩ := evC_at e
  obtain ⟨g0, g1, g2, g3, g4, g5, g6, g7, g8, g9⟩ := evC_at f
  have ps : ∀ x : Ev, x.prev.length = 32 → (Go.part 23 (evC x).toArray 10).run Tryz.prog w = .ok (.agg #[.int .i64 x.sx, .int .i64 x.sy]) w := fun x hx => by rw [part_agg (agg_share w) (size_share w), (evC_part x hx).1]
  have pp : ∀ x : Ev, x.prev.length = 32 → (Go.part 25 (evC x).toArray 12).run Tryz.prog w = .ok (.agg (x.prev.map bv).toArray) w := fun x hx => by rw [part_agg (agg_hash w) (size_hash w), (evC_part x hx).2.1]
  have pg : ∀ x : Ev, x.prev.length = 32 → (Go.part 27 (evC x).toArray 44).run Tryz.prog w = .ok (.agg #[.int .i64 x.r, .int .i64 x.s]) w := fun x hx => by rw [part_agg (agg_sig w) (size_sig w), (evC_part x hx).2.2]
  have i := agg_int w
  have s := agg_string w
  have key := eq_struct (P := Tryz.prog) (w := w) (d := 9999) (t := 29) (xs := (evC e).toArray) (ys := (evC f).toArray) (by kernel_rfl) (by kernel_rfl) fields_event
    (eqT_cons (by decide) (part_one i e0) (part_one i g0) (eq_int (d := 9998) _ _ w) (eqT_cons (by decide) (part_one i e1) (part_one i g1) (eq_int (d := 9998) _ _ w) (eqT_cons (by decide) (part_one i e2) (part_one i g2) (eq_int (d := 9998) _ _ w) (eqT_cons (by decide) (part_one i e3) (part_one i g3) (eq_int (d := 9998) _ _ w)
    (eqT_cons (by decide) (part_one i e4) (part_one i g4) (eq_int (d := 9998) _ _ w) (eqT_cons (by decide) (part_one i e5) (part_one i g5) (eq_int (d := 9998) _ _ w) (eqT_cons (by decide) (part_one i e6) (part_one i g6) (eq_int (d := 9998) _ _ w) (eqT_cons (by decide) (part_one i e7) (part_one i g7) (eq_int (d := 9998) _ _ w)
    (eqT_cons (by decide) (part_one s e8) (part_one s g8) (eq_string (d := 9998) _ _ w) (eqT_cons (by decide) (part_one s e9) (part_one s g9) (eq_string (d := 9998) _ _ w) (eqT_cons (by decide) (ps e he) (ps f hf) (eq_share (d := 9997) _ _ _ _ w) (eqT_cons (by decide) (pp e he) (pp f hf) (run_equalIn_bytes w 9997 25 5 32 Tryz.underlying25 Tryz.underlying5 size_u8 e.prev f.prev he hf)
    (eqT_cons (by decide) (pg e he) (pg f hf) (eq_sig (d := 9997) _ _ _ _ w) eqT_nil)))))))))))))
  refine key.trans ?_
  congr 1
  rw [Bool.eq_iff_iff, sameE_true]
  cases e; cases f
  simp only [Bool.and_eq_true, beq_iff_eq, Ev.mk.injEq, Lib.toList_data]
  constructor
  · rintro ⟨a0, a1, a2, a3, a4, a5, a6, a7, a8, a9, ⟨a10, a11, _⟩, a12, ⟨a13, a14, _⟩, _⟩
    exact ⟨a0, a1, a2, a3, a4, a5, a6, a7, bytes_ext a8, bytes_ext a9, a10, a11, a12, a13, a14⟩
  · rintro ⟨rfl, rfl, rfl, rfl, rfl, rfl, rfl, rfl, rfl, rfl, rfl, rfl, rfl, rfl, rfl⟩
    simp
theorem eql_ev (e f : Ev) (he : e.prev.length = 32) (hf : f.prev.length = 32) (w : World) : (binOp .eql 29 (.agg (evC e).toArray) (.agg (evC f).toArray)).run Tryz.prog w = .ok (.bool (sameE e f)) w := by
  rw [run_eql_struct, equal_ev e f he hf w]
  rfl
theorem neq_ev (e f : Ev) (he : e.prev.length = 32) (hf : f.prev.length = 32) (w : World) : (binOp .neq 29 (.agg (evC e).toArray) (.agg (evC f).toArray)).run Tryz.prog w = .ok (.bool (!sameE e f)) w := by
  rw [run_neq_struct, equal_ev e f he hf w]
  rfl
end Go.Proofs.YtclpebgjmgfigaaGreatDoor
