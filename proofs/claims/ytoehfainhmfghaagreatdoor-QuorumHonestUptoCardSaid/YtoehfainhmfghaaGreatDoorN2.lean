/- What is proved here: several parts. heads and votes are compared by '==' as plain ones are. Conditions: roots have 32 bytes. · how many officers certify, by the program and by the reference. Condition: the number is an int. -/
import Derived.Test.YtoehfainhmfghaaGreatDoorN1
import Derived.Test.YtoehfainhmfghaaGreatDoorN0
namespace Go.Proofs.YtoehfainhmfghaaGreatDoor
open Go.RowKit
theorem aggHash (w : World) : (isAgg 23).run Tryz.prog w = .ok true w := by kernel_rfl
theorem sizeHash (w : World) : (sizeOf 23).run Tryz.prog w = .ok 32 w := by kernel_rfl
theorem fields_hd : (Tryz.prog.fieldsOf 25).toList.map (fun f => (f.name, f.type, f.offset)) = [("Size", 3, 0), ("Root", 23, 1)] := by kernel_rfl
theorem sizeU8 (w : World) : (sizeOf 5).run Tryz.prog w = .ok 1 w := by kernel_rfl
set_option maxRecDepth 100000 in
theorem equal_hd {d : Nat} (a b : Hd) (ha : a.root.length = 32) (hb : b.root.length = 32) (w : World) : (Op.equalIn (d + 3) 25 (.agg (hdC a).toArray) (.agg (hdC b).toArray)).run Tryz.prog w = .ok (eqHd a b) w := by
  have pa : ∀ h : Hd, h.root.length = 32 → (hdC h).toArray.extract 1 33 = (h.root.map bv).toArray := fun h hl => by
    apply Array.toList_inj.1
    simp [hdC, List.extract_eq_take_drop]
    exact List.take_of_length_le (by simp [hl])
  have pp : ∀ h : Hd, h.root.length = 32 → (Go.part 23 (hdC h).toArray 1).run Tryz.prog w = .ok (.agg (h.root.map bv).toArray) w := fun h hl => by rw [part_agg (aggHash w) (sizeHash w), pa h hl]
  have key := eq_struct (P := Tryz.prog) (w := w) (d := d + 2) (t := 25) (xs := (hdC a).toArray) (ys := (hdC b).toArray) (by kernel_rfl) (by kernel_rfl) fields_hd
    (eqT_cons (by decide) (part_one (agg_int w) rfl) (part_one (agg_int w) rfl) (eq_int (d := d + 1) _ _ w)
      (eqT_cons (by decide) (pp a ha) (pp b hb) (run_equalIn_bytes w d 23 5 32 Tryz.underlying23 Tryz.underlying5 sizeU8 a.root b.root ha hb) eqT_nil))
  refine key.trans ?_
  congr 1
  rw [Bool.eq_iff_iff, eqHd_true]
  obtain ⟨a1, a2⟩ := a
  obtain ⟨b1, b2⟩ := b
  simp
set_option maxRecDepth 100000 in
theorem eql_hd (a b : Hd) (ha : a.root.length = 32) (hb : b.root.length = 32) (w : World) : (binOp .eql 25 (.agg (hdC a).toArray) (.agg (hdC b).toArray)).run Tryz.prog w = .ok (.bool (eqHd a b)) w := by
  rw [run_eql_struct, equal_hd (d := 9997) a b ha hb w]
  rfl
set_option maxRecDepth 100000 in
theorem neq_hd (a b : Hd) (ha : a.root.length = 32) (hb : b.root.length = 32) (w : World) : (binOp .neq 25 (.agg (hdC a).toArray) (.agg (hdC b).toArray)).run Tryz.prog w = .ok (.bool (!eqHd a b)) w := by
  rw [run_neq_struct, equal_hd (d := 9997) a b ha hb w]
  rfl
end Go.Proofs.YtoehfainhmfghaaGreatDoor
namespace Go.Proofs.YtoehfainhmfghaaGreatDoor
open Go.RowKit
def needI (n : Int) : Int := if n ≤ 0 then 1 else 2 * (n / 3) + n % 3 * 2 / 3 + 1
theorem needI_nat (n : Nat) : needI (n : Int) = (need n : Int) := by
  unfold needI need
  split
  · have : n = 0 := by omega
    subst this; rfl
  · omega
set_option maxHeartbeats 1000000 in
theorem qneed_any (n : Int) (hn : In n) (w : World) : Calls Tryz.prog 26 #[.int .i64 n] w fun e w' => e = .returned (.int .i64 (needI n)) ∧ w' = w := by
  obtain ⟨h0, h1⟩ := hn
  go_enter Tryz.func26, Tryz.ntmps26
  go_wp2_with fail
  go_ret
  exact ⟨ret_int (by unfold needI; split <;> omega), rfl⟩
set_option maxHeartbeats 1000000 in
theorem rqneed_any (n : Int) (hn : In n) (w : World) : Calls Tryz.prog 54 #[.int .i64 n] w fun e w' => e = .returned (.int .i64 (needI n)) ∧ w' = w := by
  obtain ⟨h0, h1⟩ := hn
  go_enter Tryz.func54, Tryz.ntmps54
  go_wp2_with fail
  all_goals
    go_ret
    exact ⟨ret_int (by unfold needI; split <;> omega), rfl⟩
end Go.Proofs.YtoehfainhmfghaaGreatDoor
