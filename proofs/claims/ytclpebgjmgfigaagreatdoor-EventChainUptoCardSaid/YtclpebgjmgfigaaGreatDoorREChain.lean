/- What is proved here: 'probitylaw23.EventChain' answers true for every list of events and change, where the arguments are of bulk at most 1048576, and leaves its arguments as they were. No other conditions. -/
import Derived.Test.YtclpebgjmgfigaaGreatDoorChLaw
import Derived.Test.YtclpebgjmgfigaaGreatDoorRowsOfV
namespace Go.Proofs.YtclpebgjmgfigaaGreatDoor
open Go.ChangeShapes Go.WideShapes Go.ChangeAt Go.RowKit
theorem echain_laid (os : Os) : laidMet Tryz.prog Rows.eventChainUptoRow.laid ((laidWorld os).forCall (fun _ _ => 0) ⟨#[], #[.slice none 0 0, .agg #[.int .i64 0, .int .i64 0, .int .i64 0, .int .i64 0]], []⟩).memory :=
  laidMet_of_run' 70 (by kernel_rfl) (by kernel_rfl)
theorem echain_reads (os : Os) {H : Type} (enc : TypeId × Value → H) : ∃ places, DataW.whole enc Tryz.prog ((laidWorld os).forCall (fun _ _ => 0) ⟨#[], #[.slice none 0 0, .agg #[.int .i64 0, .int .i64 0, .int .i64 0, .int .i64 0]], []⟩).memory Tryz.f5.params.toList Rows.eventChainSpec.vars false #[Value.slice none 0 0, .agg #[.int .i64 0, .int .i64 0, .int .i64 0, .int .i64 0]].toList 8 = some ([.nil, .agg [.lit (.int .i64 0), .lit (.int .i64 0), .lit (.int .i64 0), .lit (.int .i64 0)]], [], places) :=
  ⟨[], by kernel_rfl⟩
set_option maxRecDepth 100000 in
theorem echain_contract (H : Type) (enc : TypeId × Value → H) (W : World) (base : Nat) (args : Array Value) (ds gs : List (DataW H)) (before : List MemPlace)
    (hval : ∀ (j : Nat) t v, Tryz.f5.params[j]? = some t → args[j]? = some v → Value.okWide Tryz.prog W .any base t v)
    (hW : DataW.Whole enc Tryz.prog Tryz.f5.params.toList Rows.eventChainSpec.vars false W args.toList ds gs before) (hL : laidMetH Tryz.prog Rows.eventChainUptoRow.laid W) (hk : Rows.uptoSmall H (ds ++ gs) = true) (hS : W.ShapedOpen Tryz.prog) :
    Calls Tryz.prog 5 args W fun e W' => ∃ v, e = .returned v ∧ Rows.eventChainSpec.post enc Tryz.prog Tryz.f5 false true false false W args v W' := by
  have hW' := hW
  obtain ⟨p, q, hA0, hV, hpq, hfz, hnd⟩ := hW
  have hA : DataW.TrodAll enc Tryz.prog W 0 (fun _ => true) true Tryz.f5.params.toList args.toList ds p := hA0
  rw [Tryz.params5] at hA hval
  obtain ⟨v0, v1, d0, d1, p0, p1, rfl, rfl, rfl, h0, h1⟩ := trodAll_two hA
  obtain ⟨L0, sl0, ok0, bk0⟩ := evs_open (hval 0 42 v0 rfl rfl) h0
  obtain ⟨x10, x11, x12, x13, rfl, b10, b11, b12, b13⟩ := a4int_open (hval 1 43 v1 rfl rfl) h1
  have hb := of_decide_eq_true hk

  refine (echain_law _ L0 sl0 ok0 (fun e h => Nat.le_trans (bk0 e h) (Nat.le_trans (bulk_mem (by simp)) hb)) x10 x11 x12 x13 b10 b11 b12 b13 W (env3_of hL hS)).mono fun e W' ⟨he, ho⟩ => ?_
  subst he
  exact ⟨_, rfl, law_post Law.laidOut (by kernel_rfl) rfl rfl Tryz.underlying4 (fun ds hd => by match ds, hd with | [_, _], _ => exact ⟨rfl, rfl, rfl⟩) hW' (Only.below ho (Nat.le_refl _) (fun _ h => h.elim))⟩
set_option maxRecDepth 100000 in
theorem echain_lifted (os : Os) (started : os.Started) (H : Type) (enc : TypeId × Value → H) (F : Stop.Interp) :
    ReturnsInHanded {} Tryz.checked os 5 .any ((Rows.OpenSpec.upto Rows.eventChainSpec).preRow enc Tryz.prog Tryz.f5 Rows.eventChainUptoRow.domain false Rows.eventChainUptoRow.laid) (((Rows.OpenSpec.upto Rows.eventChainSpec).at F).post enc Tryz.prog Tryz.f5 false true false false) := by
  obtain ⟨places, hx⟩ := echain_reads os enc
  refine returnsInHanded_of_row (C := Tryz.checked) (s := Rows.OpenSpec.upto Rows.eventChainSpec) Law.own started (by kernel_rfl) Tryz.func5
    (witness_row_at (enc := enc) (C := Tryz.checked) false (laidWorld os) #[.slice none 0 0, .agg #[.int .i64 0, .int .i64 0, .int .i64 0, .int .i64 0]] rfl (by kernel_rfl) (by kernel_rfl) (by kernel_rfl)
      (OpenSpec.preRow_of_cond 8 hx (by kernel_rfl) (fun k hk => by cases hk; kernel_rfl) (by kernel_rfl) (echain_laid os))) ?_
  intro W base args ds gs before hval hW _ hcond _ hL hS _
  exact echain_contract H enc W base args ds gs before hval hW hL (hcond _ rfl) hS
theorem echain_saidUpto : Rows.EventChainUptoSaid :=
  OpenClaim.holds_of_cond 5 Tryz.f5 rfl rfl rfl rfl rfl rfl rfl ⟨rfl, rfl, rfl, rfl, rfl⟩ rfl rfl rfl rfl rfl (by kernel_rfl) Tryz.func5 (by kernel_rfl)
    (of_decide_eq_true (by kernel_rfl)) (by unfold Func.isWrapper; first | (rw [if_pos (by decide +kernel)]; kernel_rfl) | (rw [if_neg (by decide +kernel)]; exact ⟨rfl, rfl⟩))
    (fun os started H enc _ F => by rw [OpenClaim.pre_eq_preRow]; exact echain_lifted os started H enc F)
theorem echain_plain (f : FuncId) (fn : Func) (hf : Tryz.pinned.checked.prog.funcNamed "probity/probitylaw23.EventChain" = some f) (hfn : Tryz.pinned.checked.prog.funcs[f]? = some fn) :
    true = Tryz.pinned.checked.prog.looks [] ∧ ∀ (j : Nat) t, fn.params[j]? = some t → Tryz.pinned.checked.prog.wantsStandIn t = false := by
  obtain rfl : f = 5 := Option.some.inj ((show Tryz.prog.funcNamed "probity/probitylaw23.EventChain" = some 5 by kernel_rfl).symm.trans hf) |>.symm
  obtain rfl : fn = Tryz.f5 := (Option.some.inj (Tryz.func5.symm.trans hfn)).symm
  refine ⟨by kernel_rfl, fun j t ht => ?_⟩
  rw [Tryz.params5] at ht
  have ht' : t = 42 ∨ t = 43 := by simpa using Array.mem_of_getElem? ht
  rcases ht' with rfl | rfl
  · exact (show Tryz.prog.wantsStandIn 42 = false by kernel_rfl)
  · exact (show Tryz.prog.wantsStandIn 43 = false by kernel_rfl)
theorem echain_cardUpto : Rows.EventChainUptoCardSaid :=
  Claim7.holds_tied_plain_at .later [] _ _ _ _ echain_saidUpto (fun _ h => by cases h) (by kernel_rfl) (fun _ h => by cases h) eventChainUpto_row_tie rfl ⟨rfl, rfl⟩ (by kernel_rfl) rfl echain_plain (by kernel_rfl)
#print axioms echain_cardUpto
end Go.Proofs.YtclpebgjmgfigaaGreatDoor
