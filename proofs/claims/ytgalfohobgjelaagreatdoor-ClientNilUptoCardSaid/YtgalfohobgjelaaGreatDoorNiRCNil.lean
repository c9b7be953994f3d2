/- What is proved here: 'probitylaw31.ClientNil' answers true for every event, all hashes and every list of ballots, where the arguments are of bulk at most 1048576, and leaves its arguments as they were. No other conditions. -/
import Derived.Test.YtgalfohobgjelaaGreatDoorNi33
import Derived.Test.YtgalfohobgjelaaGreatDoorNi34
namespace Go.Proofs.YtgalfohobgjelaaGreatDoor
open Go.ChangeShapes Go.WideShapes Go.ChangeAt Go.RowKit
theorem cnil_laid (os : Os) : laidMet Tryz.prog Rows.clientNilUptoRow.laid ((laidWorld os).forCall (fun _ _ => 0) ⟨#[], #[.agg zeroEv, .slice none 0 0, .slice none 0 0], []⟩).memory :=
  laidMet_of_run' 70 (by kernel_rfl) (by kernel_rfl)
theorem cnil_reads (os : Os) {H : Type} (enc : TypeId × Value → H) : ∃ places, DataW.whole enc Tryz.prog ((laidWorld os).forCall (fun _ _ => 0) ⟨#[], #[.agg zeroEv, .slice none 0 0, .slice none 0 0], []⟩).memory Tryz.f9.params.toList Rows.clientNilSpec.vars false #[Value.agg zeroEv, .slice none 0 0, .slice none 0 0].toList 8 = some ([.agg [.lit (.int .i64 0), .lit (.int .i64 0), .lit (.int .i64 0), .lit (.int .i64 0), .lit (.int .i64 0), .lit (.int .i64 0), .lit (.int .i64 0), .lit (.int .i64 0), .lit (.string []), .lit (.string []), .agg [.lit (.int .i64 0), .lit (.int .i64 0)], .agg [.lit (.int .u8 0), .lit (.int .u8 0), .lit (.int .u8 0), .lit (.int .u8 0), .lit (.int .u8 0), .lit (.int .u8 0), .lit (.int .u8 0), .lit (.int .u8 0), .lit (.int .u8 0), .lit (.int .u8 0), .lit (.int .u8 0), .lit (.int .u8 0), .lit (.int .u8 0), .lit (.int .u8 0), .lit (.int .u8 0), .lit (.int .u8 0), .lit (.int .u8 0), .lit (.int .u8 0), .lit (.int .u8 0), .lit (.int .u8 0), .lit (.int .u8 0), .lit (.int .u8 0), .lit (.int .u8 0), .lit (.int .u8 0), .lit (.int .u8 0), .lit (.int .u8 0), .lit (.int .u8 0), .lit (.int .u8 0), .lit (.int .u8 0), .lit (.int .u8 0), .lit (.int .u8 0), .lit (.int .u8 0)], .agg [.lit (.int .i64 0), .lit (.int .i64 0)]], .nil, .nil], [], places) :=
  ⟨[], by kernel_rfl⟩
set_option maxRecDepth 100000 in
theorem cnil_contract (H : Type) (enc : TypeId × Value → H) (W : World) (base : Nat) (args : Array Value) (ds gs : List (DataW H)) (before : List MemPlace)
    (hval : ∀ (j : Nat) t v, Tryz.f9.params[j]? = some t → args[j]? = some v → Value.okWide Tryz.prog W .any base t v)
    (hW : DataW.Whole enc Tryz.prog Tryz.f9.params.toList Rows.clientNilSpec.vars false W args.toList ds gs before) (hL : laidMetH Tryz.prog Rows.clientNilUptoRow.laid W) (hk : Rows.uptoSmall H (ds ++ gs) = true) (_hS : W.ShapedOpen Tryz.prog) :
    Calls Tryz.prog 9 args W fun e W' => ∃ v, e = .returned v ∧ Rows.clientNilSpec.post enc Tryz.prog Tryz.f9 false true false false W args v W' := by
  have hW' := hW
  obtain ⟨p, q, hA0, hV, hpq, hfz, hnd⟩ := hW
  have hA : DataW.TrodAll enc Tryz.prog W 0 (fun _ => true) true Tryz.f9.params.toList args.toList ds p := hA0
  rw [Tryz.params9] at hA hval
  obtain ⟨v0, v1, v2, d0, d1, d2, p0, p1, p2, rfl, rfl, rfl, h0, h1, h2⟩ := trodAll_three hA
  obtain ⟨e0, rfl, ok0, bk0⟩ := ev_open (hval 0 79 v0 rfl rfl) h0
  obtain ⟨L1, sl1, ok1, kl1, lw1⟩ := has_open (hval 1 59 v1 rfl rfl) h1
  obtain ⟨L2, sl2, ok2⟩ := bals_open (hval 2 96 v2 rfl rfl) h2
  have hb := of_decide_eq_true hk

  refine (nil_law e0 ok0 (Nat.le_trans bk0 (Nat.le_trans (bulk_mem (by simp)) hb)) L1 ok1 (by have := Nat.le_trans kl1 (Nat.le_trans (bulk_mem (by simp)) hb); omega) _ L2 ok2 _ W (sl1) lw1 (sl2) (table hL)).mono fun e W' ⟨he, ho⟩ => ?_
  subst he
  exact ⟨_, rfl, law_post Law.laidOut (by kernel_rfl) rfl rfl Tryz.underlying4 (fun ds hd => by match ds, hd with | [_, _, _], _ => exact ⟨rfl, rfl, rfl⟩) hW' (Only.below ho (Nat.le_refl _) (fun _ h => h.elim))⟩
set_option maxRecDepth 100000 in
theorem cnil_lifted (os : Os) (started : os.Started) (H : Type) (enc : TypeId × Value → H) (F : Stop.Interp) :
    ReturnsInHanded {} Tryz.checked os 9 .any ((Rows.OpenSpec.upto Rows.clientNilSpec).preRow enc Tryz.prog Tryz.f9 Rows.clientNilUptoRow.domain false Rows.clientNilUptoRow.laid) (((Rows.OpenSpec.upto Rows.clientNilSpec).at F).post enc Tryz.prog Tryz.f9 false true false false) := by
  obtain ⟨places, hx⟩ := cnil_reads os enc
  refine returnsInHanded_of_row (C := Tryz.checked) (s := Rows.OpenSpec.upto Rows.clientNilSpec) Law.own started (by kernel_rfl) Tryz.func9
    (witness_row_at (enc := enc) (C := Tryz.checked) false (laidWorld os) #[.agg zeroEv, .slice none 0 0, .slice none 0 0] rfl (by kernel_rfl) (by kernel_rfl) (by kernel_rfl)
      (OpenSpec.preRow_of_cond 8 hx (by kernel_rfl) (fun k hk => by cases hk; kernel_rfl) (by kernel_rfl) (cnil_laid os))) ?_
  intro W base args ds gs before hval hW _ hcond _ hL hS _
  exact cnil_contract H enc W base args ds gs before hval hW hL (hcond _ rfl) hS
theorem cnil_saidUpto : Rows.ClientNilUptoSaid :=
  OpenClaim.holds_of_cond 9 Tryz.f9 rfl rfl rfl rfl rfl rfl rfl ⟨rfl, rfl, rfl, rfl, rfl⟩ rfl rfl rfl rfl rfl (by kernel_rfl) Tryz.func9 (by kernel_rfl)
    (of_decide_eq_true (by kernel_rfl)) (by unfold Func.isWrapper; first | (rw [if_pos (by decide +kernel)]; kernel_rfl) | (rw [if_neg (by decide +kernel)]; exact ⟨rfl, rfl⟩))
    (fun os started H enc _ F => by rw [OpenClaim.pre_eq_preRow]; exact cnil_lifted os started H enc F)
theorem cnil_plain (f : FuncId) (fn : Func) (hf : Tryz.pinned.checked.prog.funcNamed "probity/probitylaw31.ClientNil" = some f) (hfn : Tryz.pinned.checked.prog.funcs[f]? = some fn) :
    false = Tryz.pinned.checked.prog.looks [] ∧ ∀ (j : Nat) t, fn.params[j]? = some t → Tryz.pinned.checked.prog.wantsStandIn t = false := by
  obtain rfl : f = 9 := Option.some.inj ((show Tryz.prog.funcNamed "probity/probitylaw31.ClientNil" = some 9 by kernel_rfl).symm.trans hf) |>.symm
  obtain rfl : fn = Tryz.f9 := (Option.some.inj (Tryz.func9.symm.trans hfn)).symm
  refine ⟨by kernel_rfl, fun j t ht => ?_⟩
  rw [Tryz.params9] at ht
  have ht' : t = 79 ∨ t = 59 ∨ t = 96 := by simpa using Array.mem_of_getElem? ht
  rcases ht' with rfl | rfl | rfl
  · exact (show Tryz.prog.wantsStandIn 79 = false by kernel_rfl)
  · exact (show Tryz.prog.wantsStandIn 59 = false by kernel_rfl)
  · exact (show Tryz.prog.wantsStandIn 96 = false by kernel_rfl)
theorem cnil_cardUpto : Rows.ClientNilUptoCardSaid :=
  Claim7.holds_tied_plain_at .later [] _ _ _ _ cnil_saidUpto (fun _ h => by cases h) (by kernel_rfl) (fun _ h => by cases h) clientNilUpto_row_tie rfl ⟨rfl, rfl⟩ (by kernel_rfl) rfl cnil_plain (by kernel_rfl)
#print axioms cnil_cardUpto
end Go.Proofs.YtgalfohobgjelaaGreatDoor
