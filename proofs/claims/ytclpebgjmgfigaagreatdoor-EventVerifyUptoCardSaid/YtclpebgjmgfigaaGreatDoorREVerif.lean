/- What is proved here: 'probitylaw23.EventVerify' answers true for every event, seed and change, where the arguments are of bulk at most 1048576, and leaves its arguments as they were. No other conditions. -/
import Derived.Test.YtclpebgjmgfigaaGreatDoorVerif
import Derived.Test.YtclpebgjmgfigaaGreatDoorRowsOfV
namespace Go.Proofs.YtclpebgjmgfigaaGreatDoor
open Go.ChangeShapes Go.WideShapes Go.ChangeAt Go.RowKit
theorem everif_laid (os : Os) : laidMet Tryz.prog Rows.eventVerifyUptoRow.laid ((laidWorld os).forCall (fun _ _ => 0) ⟨#[], #[.agg zeroEv, .int .i64 0, .agg #[.int .i64 0, .int .i64 0, .int .i64 0]], []⟩).memory :=
  laidMet_of_run' 70 (by kernel_rfl) (by kernel_rfl)
theorem everif_reads (os : Os) {H : Type} (enc : TypeId × Value → H) : ∃ places, DataW.whole enc Tryz.prog ((laidWorld os).forCall (fun _ _ => 0) ⟨#[], #[.agg zeroEv, .int .i64 0, .agg #[.int .i64 0, .int .i64 0, .int .i64 0]], []⟩).memory Tryz.f9.params.toList Rows.eventVerifySpec.vars false #[Value.agg zeroEv, .int .i64 0, .agg #[.int .i64 0, .int .i64 0, .int .i64 0]].toList 8 = some ([.agg [.lit (.int .i64 0), .lit (.int .i64 0), .lit (.int .i64 0), .lit (.int .i64 0), .lit (.int .i64 0), .lit (.int .i64 0), .lit (.int .i64 0), .lit (.int .i64 0), .lit (.string []), .lit (.string []), .agg [.lit (.int .i64 0), .lit (.int .i64 0)], .agg [.lit (.int .u8 0), .lit (.int .u8 0), .lit (.int .u8 0), .lit (.int .u8 0), .lit (.int .u8 0), .lit (.int .u8 0), .lit (.int .u8 0), .lit (.int .u8 0), .lit (.int .u8 0), .lit (.int .u8 0), .lit (.int .u8 0), .lit (.int .u8 0), .lit (.int .u8 0), .lit (.int .u8 0), .lit (.int .u8 0), .lit (.int .u8 0), .lit (.int .u8 0), .lit (.int .u8 0), .lit (.int .u8 0), .lit (.int .u8 0), .lit (.int .u8 0), .lit (.int .u8 0), .lit (.int .u8 0), .lit (.int .u8 0), .lit (.int .u8 0), .lit (.int .u8 0), .lit (.int .u8 0), .lit (.int .u8 0), .lit (.int .u8 0), .lit (.int .u8 0), .lit (.int .u8 0), .lit (.int .u8 0)], .agg [.lit (.int .i64 0), .lit (.int .i64 0)]], .lit (.int .i64 0), .agg [.lit (.int .i64 0), .lit (.int .i64 0), .lit (.int .i64 0)]], [], places) :=
  ⟨[], by kernel_rfl⟩
set_option maxRecDepth 100000 in
theorem everif_contract (H : Type) (enc : TypeId × Value → H) (W : World) (base : Nat) (args : Array Value) (ds gs : List (DataW H)) (before : List MemPlace)
    (hval : ∀ (j : Nat) t v, Tryz.f9.params[j]? = some t → args[j]? = some v → Value.okWide Tryz.prog W .any base t v)
    (hW : DataW.Whole enc Tryz.prog Tryz.f9.params.toList Rows.eventVerifySpec.vars false W args.toList ds gs before) (hL : laidMetH Tryz.prog Rows.eventVerifyUptoRow.laid W) (hk : Rows.uptoSmall H (ds ++ gs) = true) (hS : W.ShapedOpen Tryz.prog) :
    Calls Tryz.prog 9 args W fun e W' => ∃ v, e = .returned v ∧ Rows.eventVerifySpec.post enc Tryz.prog Tryz.f9 false true false false W args v W' := by
  have hW' := hW
  obtain ⟨p, q, hA0, hV, hpq, hfz, hnd⟩ := hW
  have hA : DataW.TrodAll enc Tryz.prog W 0 (fun _ => true) true Tryz.f9.params.toList args.toList ds p := hA0
  rw [Tryz.params9] at hA hval
  obtain ⟨v0, v1, v2, d0, d1, d2, p0, p1, p2, rfl, rfl, rfl, h0, h1, h2⟩ := trodAll_three hA
  obtain ⟨e0, rfl, ok0, bk0⟩ := ev_open (hval 0 29 v0 rfl rfl) h0
  obtain ⟨n1, rfl, rfl, _, wk1⟩ := open_int Tryz.underlying3 (hval 1 3 v1 rfl rfl) h1
  obtain ⟨a1, b1⟩ := i64_bd wk1
  obtain ⟨x20, x21, x22, rfl, b20, b21, b22⟩ := a3int_open (hval 2 63 v2 rfl rfl) h2
  have hb := of_decide_eq_true hk

  refine (everif_law e0 ok0 (Nat.le_trans bk0 (Nat.le_trans (bulk_mem (by simp)) hb)) n1 a1 b1 x20 x21 x22 b20 b21 b22 W (env3_of hL hS)).mono fun e W' ⟨he, ho⟩ => ?_
  subst he
  exact ⟨_, rfl, law_post Law.laidOut (by kernel_rfl) rfl rfl Tryz.underlying4 (fun ds hd => by match ds, hd with | [_, _, _], _ => exact ⟨rfl, rfl, rfl⟩) hW' (Only.below ho (Nat.le_refl _) (fun _ h => h.elim))⟩
set_option maxRecDepth 100000 in
theorem everif_lifted (os : Os) (started : os.Started) (H : Type) (enc : TypeId × Value → H) (F : Stop.Interp) :
    ReturnsInHanded {} Tryz.checked os 9 .any ((Rows.OpenSpec.upto Rows.eventVerifySpec).preRow enc Tryz.prog Tryz.f9 Rows.eventVerifyUptoRow.domain false Rows.eventVerifyUptoRow.laid) (((Rows.OpenSpec.upto Rows.eventVerifySpec).at F).post enc Tryz.prog Tryz.f9 false true false false) := by
  obtain ⟨places, hx⟩ := everif_reads os enc
  refine returnsInHanded_of_row (C := Tryz.checked) (s := Rows.OpenSpec.upto Rows.eventVerifySpec) Law.own started (by kernel_rfl) Tryz.func9
    (witness_row_at (enc := enc) (C := Tryz.checked) false (laidWorld os) #[.agg zeroEv, .int .i64 0, .agg #[.int .i64 0, .int .i64 0, .int .i64 0]] rfl (by kernel_rfl) (by kernel_rfl) (by kernel_rfl)
      (OpenSpec.preRow_of_cond 8 hx (by kernel_rfl) (fun k hk => by cases hk; kernel_rfl) (by kernel_rfl) (everif_laid os))) ?_
  intro W base args ds gs before hval hW _ hcond _ hL hS _
  exact everif_contract H enc W base args ds gs before hval hW hL (hcond _ rfl) hS
theorem everif_saidUpto : Rows.EventVerifyUptoSaid :=
  OpenClaim.holds_of_cond 9 Tryz.f9 rfl rfl rfl rfl rfl rfl rfl ⟨rfl, rfl, rfl, rfl, rfl⟩ rfl rfl rfl rfl rfl (by kernel_rfl) Tryz.func9 (by kernel_rfl)
    (of_decide_eq_true (by kernel_rfl)) (by unfold Func.isWrapper; first | (rw [if_pos (by decide +kernel)]; kernel_rfl) | (rw [if_neg (by decide +kernel)]; exact ⟨rfl, rfl⟩))
    (fun os started H enc _ F => by rw [OpenClaim.pre_eq_preRow]; exact everif_lifted os started H enc F)
theorem everif_plain (f : FuncId) (fn : Func) (hf : Tryz.pinned.checked.prog.funcNamed "probity/probitylaw23.EventVerify" = some f) (hfn : Tryz.pinned.checked.prog.funcs[f]? = some fn) :
    true = Tryz.pinned.checked.prog.looks [] ∧ ∀ (j : Nat) t, fn.params[j]? = some t → Tryz.pinned.checked.prog.wantsStandIn t = false := by
  obtain rfl : f = 9 := Option.some.inj ((show Tryz.prog.funcNamed "probity/probitylaw23.EventVerify" = some 9 by kernel_rfl).symm.trans hf) |>.symm
  obtain rfl : fn = Tryz.f9 := (Option.some.inj (Tryz.func9.symm.trans hfn)).symm
  refine ⟨by kernel_rfl, fun j t ht => ?_⟩
  rw [Tryz.params9] at ht
  have ht' : t = 29 ∨ t = 3 ∨ t = 63 := by simpa using Array.mem_of_getElem? ht
  rcases ht' with rfl | rfl | rfl
  · exact (show Tryz.prog.wantsStandIn 29 = false by kernel_rfl)
  · exact (show Tryz.prog.wantsStandIn 3 = false by kernel_rfl)
  · exact (show Tryz.prog.wantsStandIn 63 = false by kernel_rfl)
theorem everif_cardUpto : Rows.EventVerifyUptoCardSaid :=
  Claim7.holds_tied_plain_at .later [] _ _ _ _ everif_saidUpto (fun _ h => by cases h) (by kernel_rfl) (fun _ h => by cases h) eventVerifyUpto_row_tie rfl ⟨rfl, rfl⟩ (by kernel_rfl) rfl everif_plain (by kernel_rfl)
#print axioms everif_cardUpto
end Go.Proofs.YtclpebgjmgfigaaGreatDoor
