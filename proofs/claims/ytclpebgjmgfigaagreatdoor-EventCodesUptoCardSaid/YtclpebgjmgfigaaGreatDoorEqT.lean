/- What is proved here: how two structs are compared, field by field. No conditions. -/
import Derived.Test.YtclpebgjmgfigaaGreatDoorM1
import Derived.Laws.StructEq
import Derived.Stop.BytesEq
namespace Go.Proofs.YtclpebgjmgfigaaGreatDoor
open Go.RowKit
section
variable {P : Program} {w : World}
/-- Fields, each by its name, type and offset, compared one behind the other. -/
def eqT (d : Nat) (xs ys : Array Value) : List (String × TypeId × Nat) → Sem Bool
  | [] => pure true
  | (n, t, o) :: fs =>
    if n ≠ "_" then do
      let a ← part t xs o
      let b ← part t ys o
      let r ← Op.equalIn d t a b
      if (!r) = true then pure false else eqT d xs ys fs
    else eqT d xs ys fs
theorem eqT_fields (d : Nat) (xs ys : Array Value) : ∀ fs : List Field, Op.eqFields d xs ys fs = eqT d xs ys (fs.map fun f => (f.name, f.type, f.offset))
  | [] => rfl
  | f :: fs => by
    simp only [Op.eqFields, List.map_cons, eqT]
    rw [eqT_fields d xs ys fs]
theorem eqT_cons {d : Nat} {xs ys : Array Value} {n : String} {t : TypeId} {o : Nat} {l : List (String × TypeId × Nat)} {a b : Value} {r s : Bool} (hn : n ≠ "_") (ha : (part t xs o).run P w = .ok a w) (hb : (part t ys o).run P w = .ok b w)
    (he : (Op.equalIn d t a b).run P w = .ok r w) (hr : (eqT d xs ys l).run P w = .ok s w) : (eqT d xs ys ((n, t, o) :: l)).run P w = .ok (r && s) w := by
  unfold eqT
  rw [if_pos hn]
  simp only [Sem.run_bind, ha, hb, he, Result.andThen_ok]
  cases r
  · simp
  · simpa using hr
theorem eqT_nil {d : Nat} {xs ys : Array Value} : (eqT d xs ys []).run P w = .ok true w := rfl
theorem part_one {t : TypeId} {xs : Array Value} {o : Nat} {v : Value} (ha : (isAgg t).run P w = .ok false w) (hv : xs[o]? = some v) : (part t xs o).run P w = .ok v w := by
  simp [part, ha, hv]
theorem part_agg {t : TypeId} {xs : Array Value} {o n : Nat} (ha : (isAgg t).run P w = .ok true w) (hs : (sizeOf t).run P w = .ok n w) : (part t xs o).run P w = .ok (.agg (xs.extract o (o + n))) w := by
  simp [part, ha, hs]
/-- A struct's cells compared, from the list of its fields. -/
theorem eq_struct {d : Nat} {t : TypeId} {xs ys : Array Value} {l : List (String × TypeId × Nat)} {r : Bool} (ht : P.underlying t = some (.struct (P.fieldsOf t))) (hp : P.stoodInHeld t = false) (hl : (P.fieldsOf t).toList.map (fun f => (f.name, f.type, f.offset)) = l)
    (h : (eqT d xs ys l).run P w = .ok r w) : (Op.equalIn (d + 1) t (.agg xs) (.agg ys)).run P w = .ok r w := by
  rw [run_equalIn_agg w d t xs ys ht hp, eqT_fields, hl]
  exact h
end
theorem agg_int (w : World) : (isAgg 3).run Tryz.prog w = .ok false w := by kernel_rfl
theorem agg_string (w : World) : (isAgg 9).run Tryz.prog w = .ok false w := by kernel_rfl
theorem eq_int {d : Nat} (a b : Int) (w : World) : (Op.equalIn (d + 1) 3 (.int .i64 a) (.int .i64 b)).run Tryz.prog w = .ok (a == b) w := run_equalIn_int w d 3 .i64 .i64 a b Tryz.underlying3
theorem eq_string {d : Nat} (a b : ByteArray) (w : World) : (Op.equalIn (d + 1) 9 (.string a) (.string b)).run Tryz.prog w = .ok (a.toList == b.toList) w := run_equalIn_string w d 9 a b Tryz.underlying9
end Go.Proofs.YtclpebgjmgfigaaGreatDoor
