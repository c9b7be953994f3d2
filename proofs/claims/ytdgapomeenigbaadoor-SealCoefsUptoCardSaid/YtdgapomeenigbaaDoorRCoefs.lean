/- What is proved here: 'probitylaw14.SealCoefs' answers true for every seed and number, where the arguments are of bulk at most 1048576, and leaves its arguments as they were. No other conditions. -/
import Derived.Test.YtdgapomeenigbaaDoorRefL
import Derived.Test.YtdgapomeenigbaaDoorRowsOf
namespace Go.Proofs.YtdgapomeenigbaaDoor
open Go.ChangeShapes Go.WideShapes Go.ChangeAt Go.RowKit
theorem scoefs_laid (os : Os) : laidMet Tryd.prog Rows.sealCoefsUptoRow.laid ((laidWorld os).forCall (fun _ _ => 0) ⟨#[], #[.string ⟨#[]⟩, .int .i64 0], []⟩).memory :=
  laidMet_of_run' 70 (by kernel_rfl) (by kernel_rfl)
theorem scoefs_reads (os : Os) {H : Type} (enc : TypeId × Value → H) : ∃ places, DataW.whole enc Tryd.prog ((laidWorld os).forCall (fun _ _ => 0) ⟨#[], #[.string ⟨#[]⟩, .int .i64 0], []⟩).memory Tryd.f9.params.toList Rows.sealCoefsSpec.vars false #[Value.string ⟨#[]⟩, .int .i64 0].toList 8 = some ([.lit (.string []), .lit (.int .i64 0)], [], places) :=
  ⟨[], by kernel_rfl⟩
set_option maxRecDepth 100000 in
theorem scoefs_contract (H : Type) (enc : TypeId × Value → H) (W : World) (base : Nat) (args : Array Value) (ds gs : List (DataW H)) (before : List MemPlace)
    (hval : ∀ (j : Nat) t v, Tryd.f9.params[j]? = some t → args[j]? = some v → Value.okWide Tryd.prog W .any base t v)
    (hW : DataW.Whole enc Tryd.prog Tryd.f9.params.toList Rows.sealCoefsSpec.vars false W args.toList ds gs before) (hL : laidMetH Tryd.prog Rows.sealCoefsUptoRow.laid W) (hk : Rows.uptoSmall H (ds ++ gs) = true) :
    Calls Tryd.prog 9 args W fun e W' => ∃ v, e = .returned v ∧ Rows.sealCoefsSpec.post enc Tryd.prog Tryd.f9 false true false false W args v W' := by
  have hW' := hW
  obtain ⟨p, q, hA0, hV, hpq, hfz, hnd⟩ := hW
  have hA : DataW.TrodAll enc Tryd.prog W 0 (fun _ => true) true Tryd.f9.params.toList args.toList ds p := hA0
  rw [Tryd.params9] at hA hval
  obtain ⟨v0, v1, d0, d1, p0, p1, rfl, rfl, rfl, h0, h1⟩ := trodAll_two hA
  obtain ⟨s0, rfl, rfl, _, _⟩ := Go.ChangeMaps.open_string Tryd.underlying9 (hval 0 9 v0 rfl rfl) h0
  obtain ⟨n1, rfl, rfl, _, wk1⟩ := open_int Tryd.underlying3 (hval 1 3 v1 rfl rfl) h1
  obtain ⟨a1, b1⟩ := i64_bd wk1
  have hb := of_decide_eq_true hk
  have z0 := bulk_string (bytes := s0.data.toList) (by simp) hb
  refine (scoefs_any s0 n1 a1 b1 (by rw [size_list]; omega) W (table hL)).mono fun e W' ⟨he, ho⟩ => ?_
  subst he
  exact ⟨_, rfl, law_post Law.laidOut (by kernel_rfl) rfl rfl Tryd.underlying4 (fun ds hd => by match ds, hd with | [_, _], _ => exact ⟨rfl, rfl, rfl⟩) hW' (Only.below ho (Nat.le_refl _) (fun _ h => h.elim))⟩
set_option maxRecDepth 100000 in
theorem scoefs_lifted (os : Os) (started : os.Started) (H : Type) (enc : TypeId × Value → H) (F : Stop.Interp) :
    ReturnsInHanded {} Tryd.checked os 9 .any ((Rows.OpenSpec.upto Rows.sealCoefsSpec).preRow enc Tryd.prog Tryd.f9 Rows.sealCoefsUptoRow.domain false Rows.sealCoefsUptoRow.laid) (((Rows.OpenSpec.upto Rows.sealCoefsSpec).at F).post enc Tryd.prog Tryd.f9 false true false false) := by
  obtain ⟨places, hx⟩ := scoefs_reads os enc
  refine returnsInHanded_of_row (C := Tryd.checked) (s := Rows.OpenSpec.upto Rows.sealCoefsSpec) Law.own started (by kernel_rfl) Tryd.func9
    (witness_row_at (enc := enc) (C := Tryd.checked) false (laidWorld os) #[.string ⟨#[]⟩, .int .i64 0] rfl (by kernel_rfl) (by kernel_rfl) (by kernel_rfl)
      (OpenSpec.preRow_of_cond 8 hx (by kernel_rfl) (fun k hk => by cases hk; kernel_rfl) (by kernel_rfl) (scoefs_laid os))) ?_
  intro W base args ds gs before hval hW _ hcond _ hL _ _
  exact scoefs_contract H enc W base args ds gs before hval hW hL (hcond _ rfl)
theorem scoefs_saidUpto : Rows.SealCoefsUptoSaid :=
  OpenClaim.holds_of_cond 9 Tryd.f9 rfl rfl rfl rfl rfl rfl rfl ⟨rfl, rfl, rfl, rfl, rfl⟩ rfl rfl rfl rfl rfl (by kernel_rfl) Tryd.func9 (by kernel_rfl)
    (of_decide_eq_true (by kernel_rfl)) (by unfold Func.isWrapper; first | (rw [if_pos (by decide +kernel)]; kernel_rfl) | (rw [if_neg (by decide +kernel)]; exact ⟨rfl, rfl⟩))
    (fun os started H enc _ F => by rw [OpenClaim.pre_eq_preRow]; exact scoefs_lifted os started H enc F)
theorem scoefs_plain (f : FuncId) (fn : Func) (hf : Tryd.pinned.checked.prog.funcNamed "probity/probitylaw14.SealCoefs" = some f) (hfn : Tryd.pinned.checked.prog.funcs[f]? = some fn) :
    false = Tryd.pinned.checked.prog.looks [] ∧ ∀ (j : Nat) t, fn.params[j]? = some t → Tryd.pinned.checked.prog.wantsStandIn t = false := by
  obtain rfl : f = 9 := Option.some.inj ((show Tryd.prog.funcNamed "probity/probitylaw14.SealCoefs" = some 9 by kernel_rfl).symm.trans hf) |>.symm
  obtain rfl : fn = Tryd.f9 := (Option.some.inj (Tryd.func9.symm.trans hfn)).symm
  refine ⟨by kernel_rfl, fun j t ht => ?_⟩
  rw [Tryd.params9] at ht
  have ht' : t = 9 ∨ t = 3 := by simpa using Array.mem_of_getElem? ht
  rcases ht' with rfl | rfl
  · exact (show Tryd.prog.wantsStandIn 9 = false by kernel_rfl)
  · exact (show Tryd.prog.wantsStandIn 3 = false by kernel_rfl)
theorem scoefs_cardUpto : Rows.SealCoefsUptoCardSaid :=
  Claim7.holds_tied_plain_at .later [] _ _ _ _ scoefs_saidUpto (fun _ h => by cases h) (by kernel_rfl) (fun _ h => by cases h) sealCoefsUpto_row_tie rfl ⟨rfl, rfl⟩ (by kernel_rfl) rfl scoefs_plain (by kernel_rfl)
#print axioms scoefs_cardUpto
end Go.Proofs.YtdgapomeenigbaaDoor
