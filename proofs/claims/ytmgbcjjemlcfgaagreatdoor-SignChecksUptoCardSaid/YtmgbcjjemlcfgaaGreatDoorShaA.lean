/- What is proved here: the constants and the rotation of the reference's SHA-256. No conditions. -/
import Derived.Test.YtmgbcjjemlcfgaaGreatDoorSha
import Derived.WalkKit
import Derived.Deep.MidRow
namespace Go.Proofs.YtmgbcjjemlcfgaaGreatDoor
open Go.RowKit
theorem only_setCells {S : Nat → Prop} {w w' : World} (h : Only S w w') (b o : Nat) (hb : S b ∨ w.heap.size ≤ b) (vs : List Value) : Only S w (w'.setCells b o vs) := by
  induction vs generalizing o w' with
  | nil => exact h
  | cons v vs ih => exact ih (h.setCell (p := ⟨b, o, none⟩) hb v) (o + 1)
theorem there_new (w : World) (t : TypeId) (cs : Array Value) (n : Nat) (h : n ≤ cs.size) : (w.alloc (.cells cs t)).there w.heap.size 0 n := fun j hj => by
  have hb := Blk.new w t cs
  refine ⟨?_, by simp [hb.frozen j]⟩
  have := hb.cell j
  rw [Nat.zero_add, this, Array.getElem?_eq_getElem (by omega)]
  rfl
theorem results_cell_of {P : Program} {fn : Func} {p : Tmp} {ty : TypeId} {a : Addr} {v : Value} {tmps : Array Value} {w : World} (h : fn.results = #[.cell p ty]) (hp : tmps.getD p undef = .pointer (some a)) (hv : (loadVar ty a).run P w = .ok v w) : (results fn tmps).run P w = .ok v w := by
  have hp' : tmps[p]?.getD undef = .pointer (some a) := by simpa using hp
  simp [results, h, hp', asAddr, hv]
set_option maxRecDepth 100000 in
set_option maxHeartbeats 400000 in
theorem rounds_any (w : World) :
    Calls Tryz.prog 63 #[] w fun e w' => e = .returned (.agg (shaK.map wv).toArray) ∧ Only NoneOf w w' := by
  have hsz : (shaK.map wv).toArray.size = 64 := by decide +kernel
  have hl : (shaK.map wv).length = 64 := by decide +kernel
  go_enter Tryz.func63, Tryz.ntmps63
  go_wp2_with (refine wpList_store_mid rfl 87 (.tmp 0) (.tmp 1) rfl w.heap.size 0 (shaK.map wv).toArray rfl rfl (by rw [hsz]; exact there_new w 87 _ 64 (Nat.le_refl _)) (by kernel_rfl) (by decide +kernel) ?_)
  have ho := only_setCells ((Only.refl NoneOf w).alloc (.cells (Array.replicate 64 (.int .u32 0)) 87)) w.heap.size 0 (.inr (Nat.le_refl _)) (shaK.map wv)
  have hr := World.rangeAt_setCells_same _ w.heap.size 0 (shaK.map wv) (by rw [hl]; exact there_new w 87 (Array.replicate 64 (.int .u32 0)) 64 (by simp))
  have hv := run_loadVar_mid (P := Tryz.prog) _ _ _ 87 _ _ hr Tryz.underlying87 (by rfl) (by kernel_rfl)
  refine bodyPost_ret (v := .agg (shaK.map wv).toArray) ?_ rfl ⟨rfl, ho⟩
  exact results_cell_of rfl rfl hv
set_option maxRecDepth 100000 in
set_option maxHeartbeats 400000 in
theorem drounds_any (w : World) :
    Calls Tryz.prog 88 #[] w fun e w' => e = .returned (.agg (shaK.map wv).toArray) ∧ Only NoneOf w w' := by
  have hsz : (shaK.map wv).toArray.size = 64 := by decide +kernel
  have hl : (shaK.map wv).length = 64 := by decide +kernel
  go_enter Tryz.func88, Tryz.ntmps88
  go_wp2_with (refine wpList_store_mid rfl 87 (.tmp 0) (.tmp 1) rfl w.heap.size 0 (shaK.map wv).toArray rfl rfl (by rw [hsz]; exact there_new w 87 _ 64 (Nat.le_refl _)) (by kernel_rfl) (by decide +kernel) ?_)
  have ho := only_setCells ((Only.refl NoneOf w).alloc (.cells (Array.replicate 64 (.int .u32 0)) 87)) w.heap.size 0 (.inr (Nat.le_refl _)) (shaK.map wv)
  have hr := World.rangeAt_setCells_same _ w.heap.size 0 (shaK.map wv) (by rw [hl]; exact there_new w 87 (Array.replicate 64 (.int .u32 0)) 64 (by simp))
  have hv := run_loadVar_mid (P := Tryz.prog) _ _ _ 87 _ _ hr Tryz.underlying87 (by rfl) (by kernel_rfl)
  refine bodyPost_ret (v := .agg (shaK.map wv).toArray) ?_ rfl ⟨rfl, ho⟩
  exact results_cell_of rfl rfl hv
set_option maxHeartbeats 400000 in
theorem rot_any (x : W) (n : Nat) (hn : n ≤ 32) (w : World) :
    Calls Tryz.prog 64 #[wv x, .int .i64 n] w fun e w' => e = .returned (wv (rr x n)) ∧ ∃ q, w' = w.drewN q := by
  unfold wv
  have e1 : IntKind.i64.wrap (32 - (n : Int)) = 32 - (n : Int) := IntWalk.i64_in _ (by omega)
  go_enter Tryz.func64, Tryz.ntmps64
  go_wp2
  go_quiet (fail)
  go_wp2
  go_ret
  refine ⟨?_, _, rfl⟩
  show Ending.returned (Value.int IntKind.u32 _) = _
  rw [w_shr, w_shl, w_or]
  rfl
end Go.Proofs.YtmgbcjjemlcfgaaGreatDoor
