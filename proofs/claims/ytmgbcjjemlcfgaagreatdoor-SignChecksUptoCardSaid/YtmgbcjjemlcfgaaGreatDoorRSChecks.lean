/- What is proved here: 'probitylaw13.SignChecks' answers true for every number and text, and every change, where the arguments are of bulk at most 1048576, and leaves its arguments as they were. No other conditions. -/
import Derived.Test.YtmgbcjjemlcfgaaGreatDoorSignW
import Derived.Test.YtmgbcjjemlcfgaaGreatDoorRowsOfS
namespace Go.Proofs.YtmgbcjjemlcfgaaGreatDoor
open Go.ChangeShapes Go.WideShapes Go.ChangeAt Go.RowKit
set_option maxRecDepth 100000 in
theorem gchecks_st2 {H : Type} {enc : TypeId × Value → H} {w : World} {r : Reach} {b0 base : Nat} {spare : Nat → Bool} {held : Bool} {v : Value} {d : DataW H} {p : List MemPlace} (hv : Value.okWide Tryz.prog w r b0 23 v) (h : DataW.Trod enc Tryz.prog w base spare held 23 v d p) :
    ∃ (x0 : Int) (x1 : Int) (x2 : Int) (x3 : ByteArray) (x4 : Bool), v = .agg #[.int .i64 x0, .int .i64 x1, .int .i64 x2, .string x3, .bool x4] ∧ d = .agg [.lit (.int .i64 x0), .lit (.int .i64 x1), .lit (.int .i64 x2), .lit (.string x3.data.toList), .lit (.bool x4)] ∧ (-9223372036854775808 ≤ x0 ∧ x0 ≤ 9223372036854775807) ∧ (-9223372036854775808 ≤ x1 ∧ x1 ≤ 9223372036854775807) ∧ (-9223372036854775808 ≤ x2 ∧ x2 ≤ 9223372036854775807) := by
  obtain ⟨cs, rfl, hsz⟩ := okWide_struct Tryz.underlying23 hv
  have e0 : Tryz.prog.cellsOf 23 = 5 := by kernel_rfl
  obtain ⟨fuel, hf⟩ := h
  obtain ⟨xs, n, _, hx, hcl, hlen, hg⟩ := DataW.trod_struct Tryz.underlying23 hf
  rw [e0] at hsz
  obtain ⟨l⟩ := cs
  have hl : l.length = 5 := hsz
  simp only [Value.cells] at hg
  have e_bool : Tryz.prog.cellsOf 4 = 1 := by kernel_rfl
  have e_int : Tryz.prog.cellsOf 3 = 1 := by kernel_rfl
  have e_string : Tryz.prog.cellsOf 9 = 1 := by kernel_rfl
  match l, hl with
  | [c0, c1, c2, c3, c4], _ =>
    match xs, hlen with
    | [y0, y1, y2, y3, y4], _ =>
      have h0 := hg 0 _ rfl
      simp [e_int] at h0
      have h1 := hg 1 _ rfl
      simp [e_int] at h1
      have h2 := hg 2 _ rfl
      simp [e_int] at h2
      have h3 := hg 3 _ rfl
      simp [e_string] at h3
      have h4 := hg 4 _ rfl
      simp [e_bool] at h4
      obtain ⟨s0, k0, g0, w0⟩ := DataW.trod_int Tryz.underlying3 h0
      obtain ⟨s1, k1, g1, w1⟩ := DataW.trod_int Tryz.underlying3 h1
      obtain ⟨s2, k2, g2, w2⟩ := DataW.trod_int Tryz.underlying3 h2
      obtain ⟨s3, k3, g3, _⟩ := DataW.trod_string Tryz.underlying9 h3
      obtain ⟨s4, k4, g4⟩ := DataW.trod_bool Tryz.underlying4 h4
      simp only [List.cons.injEq, and_true] at k0 k1 k2 k3 k4
      subst k0 k1 k2 k3 k4
      simp only [Prod.mk.injEq] at hx
      exact ⟨s0, s1, s2, s3, s4, rfl, by rw [hx.1]; simp only [List.map_cons, List.map_nil, g0, g1, g2, g3, g4], by simpa [Lit.wf, IntKind.min, IntKind.max, IntKind.signed, IntKind.bits] using w0, by simpa [Lit.wf, IntKind.min, IntKind.max, IntKind.signed, IntKind.bits] using w1, by simpa [Lit.wf, IntKind.min, IntKind.max, IntKind.signed, IntKind.bits] using w2⟩
theorem gchecks_laid (os : Os) : laidMet Tryz.prog Rows.signChecksUptoRow.laid ((laidWorld os).forCall (fun _ _ => 0) ⟨#[], #[.int .i64 0, .string ⟨#[]⟩, .agg #[.int .i64 0, .int .i64 0, .int .i64 0, .string ⟨#[]⟩, .bool false]], []⟩).memory :=
  laidMet_of_run' 70 (by kernel_rfl) (by kernel_rfl)
theorem gchecks_reads (os : Os) {H : Type} (enc : TypeId × Value → H) : ∃ places, DataW.whole enc Tryz.prog ((laidWorld os).forCall (fun _ _ => 0) ⟨#[], #[.int .i64 0, .string ⟨#[]⟩, .agg #[.int .i64 0, .int .i64 0, .int .i64 0, .string ⟨#[]⟩, .bool false]], []⟩).memory Tryz.f3.params.toList Rows.signChecksSpec.vars false #[Value.int .i64 0, .string ⟨#[]⟩, .agg #[.int .i64 0, .int .i64 0, .int .i64 0, .string ⟨#[]⟩, .bool false]].toList 8 = some ([.lit (.int .i64 0), .lit (.string []), .agg [.lit (.int .i64 0), .lit (.int .i64 0), .lit (.int .i64 0), .lit (.string []), .lit (.bool false)]], [], places) :=
  ⟨[], by kernel_rfl⟩
set_option maxRecDepth 100000 in
theorem gchecks_contract (H : Type) (enc : TypeId × Value → H) (W : World) (base : Nat) (args : Array Value) (ds gs : List (DataW H)) (before : List MemPlace)
    (hval : ∀ (j : Nat) t v, Tryz.f3.params[j]? = some t → args[j]? = some v → Value.okWide Tryz.prog W .any base t v)
    (hW : DataW.Whole enc Tryz.prog Tryz.f3.params.toList Rows.signChecksSpec.vars false W args.toList ds gs before) (hL : laidMetH Tryz.prog Rows.signChecksUptoRow.laid W) (hk : Rows.uptoSmall H (ds ++ gs) = true) (hS : W.ShapedOpen Tryz.prog) :
    Calls Tryz.prog 3 args W fun e W' => ∃ v, e = .returned v ∧ Rows.signChecksSpec.post enc Tryz.prog Tryz.f3 false true false false W args v W' := by
  have hW' := hW
  obtain ⟨p, q, hA0, hV, hpq, hfz, hnd⟩ := hW
  have hA : DataW.TrodAll enc Tryz.prog W 0 (fun _ => true) true Tryz.f3.params.toList args.toList ds p := hA0
  rw [Tryz.params3] at hA hval
  obtain ⟨v0, v1, v2, d0, d1, d2, p0, p1, p2, rfl, rfl, rfl, h0, h1, h2⟩ := trodAll_three hA
  obtain ⟨n0, rfl, rfl, _, wk0⟩ := open_int Tryz.underlying3 (hval 0 3 v0 rfl rfl) h0
  obtain ⟨a0, b0⟩ := i64_bd wk0
  obtain ⟨s1, rfl, rfl, _, _⟩ := Go.ChangeMaps.open_string Tryz.underlying9 (hval 1 9 v1 rfl rfl) h1
  obtain ⟨x20, x21, x22, x23, x24, rfl, rfl, b20, b21, b22⟩ := gchecks_st2 (hval 2 23 v2 rfl rfl) h2
  have hb := of_decide_eq_true hk
  have z1 := bulk_string (bytes := s1.data.toList) (by simp) hb
  have hbb := hb
  simp only [List.cons_append, List.nil_append, Rows.uptoBulkAll, Rows.uptoBulk] at hbb
  refine (checks_any n0 s1 x20 x21 x22 x23 x24 b20 b21 b22 W (env_of hL hS)).mono fun e W' ⟨he, ho⟩ => ?_
  subst he
  exact ⟨_, rfl, law_post Law.laidOut (by kernel_rfl) rfl rfl Tryz.underlying4 (fun ds hd => by match ds, hd with | [_, _, _], _ => exact ⟨rfl, rfl, rfl⟩) hW' (Only.below ho (Nat.le_refl _) (fun _ h => h.elim))⟩
set_option maxRecDepth 100000 in
theorem gchecks_lifted (os : Os) (started : os.Started) (H : Type) (enc : TypeId × Value → H) (F : Stop.Interp) :
    ReturnsInHanded {} Tryz.checked os 3 .any ((Rows.OpenSpec.upto Rows.signChecksSpec).preRow enc Tryz.prog Tryz.f3 Rows.signChecksUptoRow.domain false Rows.signChecksUptoRow.laid) (((Rows.OpenSpec.upto Rows.signChecksSpec).at F).post enc Tryz.prog Tryz.f3 false true false false) := by
  obtain ⟨places, hx⟩ := gchecks_reads os enc
  refine returnsInHanded_of_row (C := Tryz.checked) (s := Rows.OpenSpec.upto Rows.signChecksSpec) Law.own started (by kernel_rfl) Tryz.func3
    (witness_row_at (enc := enc) (C := Tryz.checked) false (laidWorld os) #[.int .i64 0, .string ⟨#[]⟩, .agg #[.int .i64 0, .int .i64 0, .int .i64 0, .string ⟨#[]⟩, .bool false]] rfl (by kernel_rfl) (by kernel_rfl) (by kernel_rfl)
      (OpenSpec.preRow_of_cond 8 hx (by kernel_rfl) (fun k hk => by cases hk; kernel_rfl) (by kernel_rfl) (gchecks_laid os))) ?_
  intro W base args ds gs before hval hW _ hcond _ hL hS _
  exact gchecks_contract H enc W base args ds gs before hval hW hL (hcond _ rfl) hS
theorem gchecks_saidUpto : Rows.SignChecksUptoSaid :=
  OpenClaim.holds_of_cond 3 Tryz.f3 rfl rfl rfl rfl rfl rfl rfl ⟨rfl, rfl, rfl, rfl, rfl⟩ rfl rfl rfl rfl rfl (by kernel_rfl) Tryz.func3 (by kernel_rfl)
    (of_decide_eq_true (by kernel_rfl)) (by unfold Func.isWrapper; first | (rw [if_pos (by decide +kernel)]; kernel_rfl) | (rw [if_neg (by decide +kernel)]; exact ⟨rfl, rfl⟩))
    (fun os started H enc _ F => by rw [OpenClaim.pre_eq_preRow]; exact gchecks_lifted os started H enc F)
theorem gchecks_plain (f : FuncId) (fn : Func) (hf : Tryz.pinned.checked.prog.funcNamed "probity/probitylaw13.SignChecks" = some f) (hfn : Tryz.pinned.checked.prog.funcs[f]? = some fn) :
    true = Tryz.pinned.checked.prog.looks [] ∧ ∀ (j : Nat) t, fn.params[j]? = some t → Tryz.pinned.checked.prog.wantsStandIn t = false := by
  obtain rfl : f = 3 := Option.some.inj ((show Tryz.prog.funcNamed "probity/probitylaw13.SignChecks" = some 3 by kernel_rfl).symm.trans hf) |>.symm
  obtain rfl : fn = Tryz.f3 := (Option.some.inj (Tryz.func3.symm.trans hfn)).symm
  refine ⟨by kernel_rfl, fun j t ht => ?_⟩
  rw [Tryz.params3] at ht
  have ht' : t = 3 ∨ t = 9 ∨ t = 23 := by simpa using Array.mem_of_getElem? ht
  rcases ht' with rfl | rfl | rfl
  · exact (show Tryz.prog.wantsStandIn 3 = false by kernel_rfl)
  · exact (show Tryz.prog.wantsStandIn 9 = false by kernel_rfl)
  · exact (show Tryz.prog.wantsStandIn 23 = false by kernel_rfl)
theorem gchecks_cardUpto : Rows.SignChecksUptoCardSaid :=
  Claim7.holds_tied_plain_at .later [] _ _ _ _ gchecks_saidUpto (fun _ h => by cases h) (by kernel_rfl) (fun _ h => by cases h) signChecksUpto_row_tie rfl ⟨rfl, rfl⟩ (by kernel_rfl) rfl gchecks_plain (by kernel_rfl)
#print axioms gchecks_cardUpto
end Go.Proofs.YtmgbcjjemlcfgaaGreatDoor
