/- What is proved here: the reference lays an event's ten numbers in a slice. Conditions: none. -/
import Derived.Test.YtclpebgjmgfigaaGreatDoorEvL
namespace Go.Proofs.YtclpebgjmgfigaaGreatDoor
open Go.RowKit Go.Shelf
set_option maxRecDepth 100000 in
set_option maxHeartbeats 2000000 in
theorem rnumbers_any (e : Ev) (w : World) : Calls Tryz.prog 33 #[.agg (evC e).toArray] w fun e' w' => ∃ g, e' = .returned (.slice (some ⟨g, 0, none⟩) 10 10) ∧ g < w'.heap.size ∧ IntsAt w' g e.nums ∧ Only NoneOf w w' := by
  obtain ⟨B, eB⟩ : ∃ B, B = w.heap.size := ⟨_, rfl⟩
  obtain ⟨X, eX⟩ : ∃ X, X = w.alloc (.cells (evC e).toArray tEv) := ⟨_, rfl⟩
  have hat : EvAt X B e := by rw [eX, eB]; exact Blk.new w _ _
  have hox : Only NoneOf w X := by rw [eX]; exact (Only.refl _ _).alloc _
  have HOX := Lib.hid hox
  have c0 : X.cell? ⟨B, 0, none⟩ = some (.int .i64 e.seq) := ev_cell hat 0
  have c1 : X.cell? ⟨B, 1, none⟩ = some (.int .i64 e.kind) := ev_cell hat 1
  have c2 : X.cell? ⟨B, 2, none⟩ = some (.int .i64 e.who) := ev_cell hat 2
  have c3 : X.cell? ⟨B, 3, none⟩ = some (.int .i64 e.time) := ev_cell hat 3
  have c4 : X.cell? ⟨B, 4, none⟩ = some (.int .i64 e.bidder) := ev_cell hat 4
  have c5 : X.cell? ⟨B, 5, none⟩ = some (.int .i64 e.lot) := ev_cell hat 5
  have c6 : X.cell? ⟨B, 6, none⟩ = some (.int .i64 e.n) := ev_cell hat 6
  have c7 : X.cell? ⟨B, 7, none⟩ = some (.int .i64 e.other) := ev_cell hat 7
  have c10 : X.cell? ⟨B, 10, none⟩ = some (.int .i64 e.sx) := ev_cell hat 10
  have c11 : X.cell? ⟨B, 11, none⟩ = some (.int .i64 e.sy) := ev_cell hat 11
  have HB : Hid (Blk (X.alloc (.cells (e.nums.map (fun x => Value.int .i64 x)).toArray 3)) X.heap.size 3 (e.nums.map (fun x => Value.int .i64 x)).toArray) := Lib.hid (Blk.new X _ _)
  rw [eX, eB] at c0 c1 c2 c3 c4 c5 c6 c7 c10 c11
  rw [eX] at HB HOX
  clear hat hox eX X eB B
  go_enter Tryz.func33, Tryz.ntmps33
  go_wp2_with fail
  refine ⟨rfl, _, results_tmp rfl _ _ _, ?_⟩
  have hb := HB.out
  rw [World.size_alloc] at hb
  exact ⟨w.heap.size + 1, rfl, hb.lt, ints_of hb, HOX.out.alloc _⟩
end Go.Proofs.YtclpebgjmgfigaaGreatDoor
