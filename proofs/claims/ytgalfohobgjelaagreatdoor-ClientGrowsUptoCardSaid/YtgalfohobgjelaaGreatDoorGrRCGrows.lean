/- What is proved here: 'probitylaw31.ClientGrows' answers true for every world and all sizes, where the arguments are of bulk at most 1048576, and leaves its arguments as they were. No other conditions. -/
import Derived.Test.YtgalfohobgjelaaGreatDoorGr34
namespace Go.Proofs.YtgalfohobgjelaaGreatDoor
open Go.ChangeShapes Go.WideShapes Go.ChangeAt Go.RowKit
theorem cgrows_laid (os : Os) : laidMet Tryz.prog Rows.clientGrowsUptoRow.laid ((laidWorld os).forCall (fun _ _ => 0) ⟨#[], #[.agg #[.int .u8 0, .slice none 0 0, .int .u8 0], .slice none 0 0], []⟩).memory :=
  laidMet_of_run' 70 (by kernel_rfl) (by kernel_rfl)
theorem cgrows_reads (os : Os) {H : Type} (enc : TypeId × Value → H) : ∃ places, DataW.whole enc Tryz.prog ((laidWorld os).forCall (fun _ _ => 0) ⟨#[], #[.agg #[.int .u8 0, .slice none 0 0, .int .u8 0], .slice none 0 0], []⟩).memory Tryz.f4.params.toList Rows.clientGrowsSpec.vars false #[Value.agg #[.int .u8 0, .slice none 0 0, .int .u8 0], .slice none 0 0].toList 8 = some ([.agg [.lit (.int .u8 0), .nil, .lit (.int .u8 0)], .nil], [], places) :=
  ⟨[], by kernel_rfl⟩
set_option maxRecDepth 100000 in
theorem cgrows_contract (H : Type) (enc : TypeId × Value → H) (W : World) (base : Nat) (args : Array Value) (ds gs : List (DataW H)) (before : List MemPlace)
    (hval : ∀ (j : Nat) t v, Tryz.f4.params[j]? = some t → args[j]? = some v → Value.okWide Tryz.prog W .any base t v)
    (hW : DataW.Whole enc Tryz.prog Tryz.f4.params.toList Rows.clientGrowsSpec.vars false W args.toList ds gs before) (hL : laidMetH Tryz.prog Rows.clientGrowsUptoRow.laid W) (hk : Rows.uptoSmall H (ds ++ gs) = true) (_hS : W.ShapedOpen Tryz.prog) :
    Calls Tryz.prog 4 args W fun e W' => ∃ v, e = .returned v ∧ Rows.clientGrowsSpec.post enc Tryz.prog Tryz.f4 false true false false W args v W' := by
  have hW' := hW
  obtain ⟨p, q, hA0, hV, hpq, hfz, hnd⟩ := hW
  have hA : DataW.TrodAll enc Tryz.prog W 0 (fun _ => true) true Tryz.f4.params.toList args.toList ds p := hA0
  rw [Tryz.params4] at hA hval
  obtain ⟨v0, v1, d0, d1, p0, p1, rfl, rfl, rfl, h0, h1⟩ := trodAll_two hA
  obtain ⟨e0, kA0, kc0, rfl, ok0, kd0, kl0⟩ := wd_open (hval 0 24 v0 rfl rfl) h0
  obtain ⟨sA1, sc1, S1, rfl, kd1, kl1⟩ := u8s_open (hval 1 22 v1 rfl rfl) h1
  have hb := of_decide_eq_true hk

  refine (grows_law e0 ok0 kA0 kc0 sA1 S1 sc1 (Nat.le_trans (Nat.le_trans kl1 (Nat.le_trans (bulk_mem (by simp)) hb)) (by omega)) W (kd0) (Nat.le_trans (Nat.le_trans kl0 (Nat.le_trans (bulk_mem (by simp)) hb)) (by omega)) (kd1) (table hL)).mono fun e W' ⟨he, ho⟩ => ?_
  subst he
  exact ⟨_, rfl, law_post Law.laidOut (by kernel_rfl) rfl rfl Tryz.underlying4 (fun ds hd => by match ds, hd with | [_, _], _ => exact ⟨rfl, rfl, rfl⟩) hW' (Only.below ho (Nat.le_refl _) (fun _ h => h.elim))⟩
set_option maxRecDepth 100000 in
theorem cgrows_lifted (os : Os) (started : os.Started) (H : Type) (enc : TypeId × Value → H) (F : Stop.Interp) :
    ReturnsInHanded {} Tryz.checked os 4 .any ((Rows.OpenSpec.upto Rows.clientGrowsSpec).preRow enc Tryz.prog Tryz.f4 Rows.clientGrowsUptoRow.domain false Rows.clientGrowsUptoRow.laid) (((Rows.OpenSpec.upto Rows.clientGrowsSpec).at F).post enc Tryz.prog Tryz.f4 false true false false) := by
  obtain ⟨places, hx⟩ := cgrows_reads os enc
  refine returnsInHanded_of_row (C := Tryz.checked) (s := Rows.OpenSpec.upto Rows.clientGrowsSpec) Law.own started (by kernel_rfl) Tryz.func4
    (witness_row_at (enc := enc) (C := Tryz.checked) false (laidWorld os) #[.agg #[.int .u8 0, .slice none 0 0, .int .u8 0], .slice none 0 0] rfl (by kernel_rfl) (by kernel_rfl) (by kernel_rfl)
      (OpenSpec.preRow_of_cond 8 hx (by kernel_rfl) (fun k hk => by cases hk; kernel_rfl) (by kernel_rfl) (cgrows_laid os))) ?_
  intro W base args ds gs before hval hW _ hcond _ hL hS _
  exact cgrows_contract H enc W base args ds gs before hval hW hL (hcond _ rfl) hS
theorem cgrows_saidUpto : Rows.ClientGrowsUptoSaid :=
  OpenClaim.holds_of_cond 4 Tryz.f4 rfl rfl rfl rfl rfl rfl rfl ⟨rfl, rfl, rfl, rfl, rfl⟩ rfl rfl rfl rfl rfl (by kernel_rfl) Tryz.func4 (by kernel_rfl)
    (of_decide_eq_true (by kernel_rfl)) (by unfold Func.isWrapper; first | (rw [if_pos (by decide +kernel)]; kernel_rfl) | (rw [if_neg (by decide +kernel)]; exact ⟨rfl, rfl⟩))
    (fun os started H enc _ F => by rw [OpenClaim.pre_eq_preRow]; exact cgrows_lifted os started H enc F)
theorem cgrows_plain (f : FuncId) (fn : Func) (hf : Tryz.pinned.checked.prog.funcNamed "probity/probitylaw31.ClientGrows" = some f) (hfn : Tryz.pinned.checked.prog.funcs[f]? = some fn) :
    false = Tryz.pinned.checked.prog.looks [] ∧ ∀ (j : Nat) t, fn.params[j]? = some t → Tryz.pinned.checked.prog.wantsStandIn t = false := by
  obtain rfl : f = 4 := Option.some.inj ((show Tryz.prog.funcNamed "probity/probitylaw31.ClientGrows" = some 4 by kernel_rfl).symm.trans hf) |>.symm
  obtain rfl : fn = Tryz.f4 := (Option.some.inj (Tryz.func4.symm.trans hfn)).symm
  refine ⟨by kernel_rfl, fun j t ht => ?_⟩
  rw [Tryz.params4] at ht
  have ht' : t = 24 ∨ t = 22 := by simpa using Array.mem_of_getElem? ht
  rcases ht' with rfl | rfl
  · exact (show Tryz.prog.wantsStandIn 24 = false by kernel_rfl)
  · exact (show Tryz.prog.wantsStandIn 22 = false by kernel_rfl)
theorem cgrows_cardUpto : Rows.ClientGrowsUptoCardSaid :=
  Claim7.holds_tied_plain_at .later [] _ _ _ _ cgrows_saidUpto (fun _ h => by cases h) (by kernel_rfl) (fun _ h => by cases h) clientGrowsUpto_row_tie rfl ⟨rfl, rfl⟩ (by kernel_rfl) rfl cgrows_plain (by kernel_rfl)
#print axioms cgrows_cardUpto
end Go.Proofs.YtgalfohobgjelaaGreatDoor
