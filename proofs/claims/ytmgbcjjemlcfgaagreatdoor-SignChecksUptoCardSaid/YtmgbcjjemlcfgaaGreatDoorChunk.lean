/- What is proved here: slices.Chunk over a slice of bytes in pieces of 64, its iterator for every loop body that leaves two blocks alone. Conditions: the length is a multiple of 64. -/
import Derived.Test.YtmgbcjjemlcfgaaGreatDoorBuf
import Derived.RangeFuncNested
import Derived.RangeFuncBound
import Derived.RangeFuncCalls
import Derived.RangeFuncLeaves
import Derived.Shelf.Abstract
import Derived.Shelf.RegionOpen
import Derived.OwnWalkIn
import Derived.TacticsInMore
import Derived.LoopNIn
import Derived.LoopIn
import Derived.RegionIn
namespace Go.Proofs.YtmgbcjjemlcfgaaGreatDoor
open Go.RowKit Go.Shelf
attribute [local go_sem] Oper.semAt_some

/-- Two blocks lie as they lay. -/
def Kept2 (A B : Nat) (W W' : World) : Prop := W'.heap[A]? = W.heap[A]? ∧ W'.heap[B]? = W.heap[B]?
theorem kept2_t {A B : Nat} {X Y Z : World} (h : Kept2 A B X Y) (k : Kept2 A B Y Z) : Kept2 A B X Z := ⟨k.1.trans h.1, k.2.trans h.2⟩
theorem kept2_b {A B : Nat} {w : World} (hA : A < w.heap.size) (hB : B < w.heap.size) (W : World) (l : Nat) (o o' : Obj) (hl : w.heap.size ≤ l) (_ : W.heap[l]? = some o) (_ : o.isCells = false) (_ : o.isWalk = false) : Kept2 A B W (W.putObj l o') :=
  ⟨World.putObj_heap_other (by omega), World.putObj_heap_other (by omega)⟩
theorem Kept2.refl (A B : Nat) (W : World) : Kept2 A B W W := ⟨rfl, rfl⟩
theorem Kept2.cell {A B : Nat} {W W' : World} (h : Kept2 A B W W') (o : Nat) : W'.cell? ⟨A, o, none⟩ = W.cell? ⟨A, o, none⟩ ∧ W'.cell? ⟨B, o, none⟩ = W.cell? ⟨B, o, none⟩ :=
  ⟨World.cell?_of_block h.1, World.cell?_of_block h.2⟩
/-- A piece. -/
def piece (g k : Nat) : Value := .slice (some ⟨g, 64 * k, none⟩) 64 64
set_option maxHeartbeats 400000 in
theorem chunk_any (a : Option Addr) (n c : Nat) (w : World) :
    Calls Tryz.prog 71 #[.slice a n c, .int .i64 64] w fun e w' => e = .returned (.func (.func 86) #[] #[.pointer (some ⟨w.heap.size, 0, none⟩), .pointer (some ⟨w.heap.size + 1, 0, none⟩)]) ∧ w' = (w.alloc (.cells #[.slice a n c] 53)).alloc (.cells #[.int .i64 64] 3) := by
  go_enter Tryz.func71, Tryz.ntmps71
  go_wp2_with fail
  go_ret
  exact ⟨rfl, rfl⟩
theorem fin_take {m k : Nat} (h : k < m) : (List.finRange m).take (k + 1) = (List.finRange m).take k ++ [⟨k, h⟩] := by
  rw [List.take_succ_eq_append_getElem (by simpa using h)]
  simp
theorem fin_all (m : Nat) : (List.finRange m).take m = List.finRange m := List.take_of_length_le (by simp)
set_option maxRecDepth 100000 in
set_option maxHeartbeats 1000000 in
theorem chunk1_in (n : Nat) (l A B g m cap : Nat) (hc : 64 * m ≤ cap) (hcm : cap ≤ 9223372036854775807) (J Jx : List (Fin m) → World → Prop)
    (hY : ∀ pre x W, J pre W → pre.length < m → YieldAt Fence.wide (n - 1) Tryz.prog l #[piece g x.val] W fun e W' =>
      (e = .returned (.bool true) ∧ J (pre ++ [x]) W' ∧ Kept2 A B W W') ∨ (e = .returned (.bool false) ∧ Jx (pre ++ [x]) W'))
    (W : World) (hJ : AbidesFrom W.heap.size J) (hA : W.cell? ⟨A, 0, none⟩ = some (.slice (some ⟨g, 0, none⟩) (64 * m) cap)) (hB : W.cell? ⟨B, 0, none⟩ = some (.int .i64 64)) (h0 : J [] W) :
    CallsIn Fence.wide n Tryz.prog 86 #[.func (.yield l) #[] #[], .pointer (some ⟨A, 0, none⟩), .pointer (some ⟨B, 0, none⟩)] W fun e W' => (∃ v, e = .returned v) ∧
      ((∃ ys, ys = List.finRange m ∧ J ys W') ∨ (∃ pre, (∃ k, k ≤ m ∧ pre = (List.finRange m).take k) ∧ Jx pre W')) := by
  refine callsIn_of_wp Tryz.func86 rfl trivial ?_ rfl
  simp only [Tryz.ntmps86, List.size_toArray, List.length_cons, List.length_nil, Nat.reduceAdd, Nat.reduceSub, Array.replicate_succ, Array.replicate_zero, List.push_toArray, List.append_toArray, List.nil_append, List.cons_append]
  gi_wp2
  gi_loopw [4] (fun i wr => ∃ k : Nat, k ≤ m ∧ i = .int .i64 ((64 * k : Nat) : Int) ∧ J ((List.finRange m).take k) wr ∧ Kept2 A B W wr)
    (fun i _ => 64 * m - (intOf i).toNat)
  case atStart => exact ⟨0, Nat.zero_le _, rfl, h0, Kept2.refl _ _ _⟩
  case round =>
    obtain ⟨k, hk, rfl, hJs, hkp⟩ := hrel
    have cA := (hkp.cell 0).1.trans hA
    have cB := (hkp.cell 0).2.trans hB
    by_cases hlt : k < m
    · obtain ⟨fn, tmps, assign, body, hy, hR⟩ := hY _ ⟨k, hlt⟩ wr.drew (hJ _ wr wr.drew none hJs ⟨rfl, rfl, rfl, Nat.le_refl _, fun _ _ _ => rfl⟩ (fun r e => by cases e)) (by simp; omega)
      unfold piece at hy
      dsimp only at hy
      rw [← fin_take hlt] at hR
      have hm : ¬ ((64 * m - 64 * k : Nat) : Int) < 64 := by omega
      have h1 : ((64 * k : Nat) : Int) = 64 * (k : Int) := by omega
      gi_wp2
      gi_region
      gi_wp2
      refine ⟨(fun h => by cases h), hR.mono ?_⟩
      rintro e W3 (⟨rfl, hJ3, hk3⟩ | ⟨rfl, hJx3⟩)
      · have hkp3 := kept2_t hkp hk3
        have cB3 := (hkp3.cell 0).2.trans hB
        gi_wp2
        go_roundw
        case rel => exact ⟨k + 1, by omega, by go_num, hJ3, hkp3⟩
        case measure => simp [intOf]; omega
      · gi_wp2
        refine bodyPost_ret (results_none rfl _ _ _) rfl ?_
        exact ⟨⟨_, rfl⟩, .inr ⟨_, ⟨k + 1, by omega, rfl⟩, hJx3⟩⟩
    · obtain rfl : k = m := by omega
      gi_wp2
      go_end0
      exact ⟨⟨_, rfl⟩, .inl ⟨_, rfl, by rw [fin_all] at hJs; exact hJs⟩⟩
theorem chunk_stops (n A B g m cap : Nat) (hc : 64 * m ≤ cap) (hcm : cap ≤ 9223372036854775807) (w : World) (hA : w.cell? ⟨A, 0, none⟩ = some (.slice (some ⟨g, 0, none⟩) (64 * m) cap)) (hB : w.cell? ⟨B, 0, none⟩ = some (.int .i64 64)) :
    SeqStopsK Fence.wide n Tryz.prog 86 #[.pointer (some ⟨A, 0, none⟩), .pointer (some ⟨B, 0, none⟩)] (fun x : Fin m => #[piece g x.val]) (Kept2 A B) (fun xs => xs = List.finRange m) (fun pre => ∃ k, k ≤ m ∧ pre = (List.finRange m).take k) m w :=
  fun l J Jx W hW hJ _ hY h0 => chunk1_in n l A B g m cap hc hcm J Jx hY W hJ
    ((hW.cell (p := ⟨A, 0, none⟩) (World.block_lt_of_cell? w _ hA)).trans hA) ((hW.cell (p := ⟨B, 0, none⟩) (World.block_lt_of_cell? w _ hB)).trans hB) h0
end Go.Proofs.YtmgbcjjemlcfgaaGreatDoor
