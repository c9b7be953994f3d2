/- What is proved here: 'probitylaw13.SignTexts' answers true for every two numbers, and every text with the place and the byte of a change, where the arguments are of bulk at most 1048576, and leaves its arguments as they were. No other conditions. -/
import Derived.Test.YtmgbcjjemlcfgaaDoorSignU
import Derived.Test.YtmgbcjjemlcfgaaDoorRowsOfS
namespace Go.Proofs.YtmgbcjjemlcfgaaDoor
open Go.ChangeShapes Go.WideShapes Go.ChangeAt Go.RowKit
set_option maxRecDepth 100000 in
theorem gtexts_st2 {H : Type} {enc : TypeId × Value → H} {w : World} {r : Reach} {b0 base : Nat} {spare : Nat → Bool} {held : Bool} {v : Value} {d : DataW H} {p : List MemPlace} (hv : Value.okWide Tryd.prog w r b0 38 v) (h : DataW.Trod enc Tryd.prog w base spare held 38 v d p) :
    ∃ (x0 : ByteArray) (x1 : Int) (x2 : Int), v = .agg #[.string x0, .int .i64 x1, .int .u8 x2] ∧ d = .agg [.lit (.string x0.data.toList), .lit (.int .i64 x1), .lit (.int .u8 x2)] ∧ (-9223372036854775808 ≤ x1 ∧ x1 ≤ 9223372036854775807) ∧ (0 ≤ x2 ∧ x2 ≤ 255) := by
  obtain ⟨cs, rfl, hsz⟩ := okWide_struct Tryd.underlying38 hv
  have e0 : Tryd.prog.cellsOf 38 = 3 := by kernel_rfl
  obtain ⟨fuel, hf⟩ := h
  obtain ⟨xs, n, _, hx, hcl, hlen, hg⟩ := DataW.trod_struct Tryd.underlying38 hf
  rw [e0] at hsz
  obtain ⟨l⟩ := cs
  have hl : l.length = 3 := hsz
  simp only [Value.cells] at hg
  have e_int : Tryd.prog.cellsOf 3 = 1 := by kernel_rfl
  have e_string : Tryd.prog.cellsOf 9 = 1 := by kernel_rfl
  have e_u8 : Tryd.prog.cellsOf 5 = 1 := by kernel_rfl
  match l, hl with
  | [c0, c1, c2], _ =>
    match xs, hlen with
    | [y0, y1, y2], _ =>
      have h0 := hg 0 _ rfl
      simp [e_string] at h0
      have h1 := hg 1 _ rfl
      simp [e_int] at h1
      have h2 := hg 2 _ rfl
      simp [e_u8] at h2
      obtain ⟨s0, k0, g0, _⟩ := DataW.trod_string Tryd.underlying9 h0
      obtain ⟨s1, k1, g1, w1⟩ := DataW.trod_int Tryd.underlying3 h1
      obtain ⟨s2, k2, g2, w2⟩ := DataW.trod_int Tryd.underlying5 h2
      simp only [List.cons.injEq, and_true] at k0 k1 k2
      subst k0 k1 k2
      simp only [Prod.mk.injEq] at hx
      exact ⟨s0, s1, s2, rfl, by rw [hx.1]; simp only [List.map_cons, List.map_nil, g0, g1, g2], by simpa [Lit.wf, IntKind.min, IntKind.max, IntKind.signed, IntKind.bits] using w1, by simpa [Lit.wf, IntKind.min, IntKind.max, IntKind.signed, IntKind.bits] using w2⟩
theorem gtexts_laid (os : Os) : laidMet Tryd.prog Rows.signTextsUptoRow.laid ((laidWorld os).forCall (fun _ _ => 0) ⟨#[], #[.int .i64 0, .int .i64 0, .agg #[.string ⟨#[]⟩, .int .i64 0, .int .u8 0]], []⟩).memory :=
  laidMet_of_run' 70 (by kernel_rfl) (by kernel_rfl)
theorem gtexts_reads (os : Os) {H : Type} (enc : TypeId × Value → H) : ∃ places, DataW.whole enc Tryd.prog ((laidWorld os).forCall (fun _ _ => 0) ⟨#[], #[.int .i64 0, .int .i64 0, .agg #[.string ⟨#[]⟩, .int .i64 0, .int .u8 0]], []⟩).memory Tryd.f8.params.toList Rows.signTextsSpec.vars false #[Value.int .i64 0, .int .i64 0, .agg #[.string ⟨#[]⟩, .int .i64 0, .int .u8 0]].toList 8 = some ([.lit (.int .i64 0), .lit (.int .i64 0), .agg [.lit (.string []), .lit (.int .i64 0), .lit (.int .u8 0)]], [], places) :=
  ⟨[], by kernel_rfl⟩
set_option maxRecDepth 100000 in
theorem gtexts_contract (H : Type) (enc : TypeId × Value → H) (W : World) (base : Nat) (args : Array Value) (ds gs : List (DataW H)) (before : List MemPlace)
    (hval : ∀ (j : Nat) t v, Tryd.f8.params[j]? = some t → args[j]? = some v → Value.okWide Tryd.prog W .any base t v)
    (hW : DataW.Whole enc Tryd.prog Tryd.f8.params.toList Rows.signTextsSpec.vars false W args.toList ds gs before) (hL : laidMetH Tryd.prog Rows.signTextsUptoRow.laid W) (hk : Rows.uptoSmall H (ds ++ gs) = true) (hS : W.ShapedOpen Tryd.prog) :
    Calls Tryd.prog 8 args W fun e W' => ∃ v, e = .returned v ∧ Rows.signTextsSpec.post enc Tryd.prog Tryd.f8 false true false false W args v W' := by
  have hW' := hW
  obtain ⟨p, q, hA0, hV, hpq, hfz, hnd⟩ := hW
  have hA : DataW.TrodAll enc Tryd.prog W 0 (fun _ => true) true Tryd.f8.params.toList args.toList ds p := hA0
  rw [Tryd.params8] at hA hval
  obtain ⟨v0, v1, v2, d0, d1, d2, p0, p1, p2, rfl, rfl, rfl, h0, h1, h2⟩ := trodAll_three hA
  obtain ⟨n0, rfl, rfl, _, wk0⟩ := open_int Tryd.underlying3 (hval 0 3 v0 rfl rfl) h0
  obtain ⟨a0, b0⟩ := i64_bd wk0
  obtain ⟨n1, rfl, rfl, _, wk1⟩ := open_int Tryd.underlying3 (hval 1 3 v1 rfl rfl) h1
  obtain ⟨a1, b1⟩ := i64_bd wk1
  obtain ⟨x20, x21, x22, rfl, rfl, b21, b22⟩ := gtexts_st2 (hval 2 38 v2 rfl rfl) h2
  obtain ⟨m22, rfl⟩ : ∃ y : UInt8, x22 = (y.toNat : Int) := ⟨UInt8.ofNat x22.toNat, by rw [UInt8.toNat_ofNat']; omega⟩
  have hb := of_decide_eq_true hk
  have hbb := hb
  simp only [List.cons_append, List.nil_append, Rows.uptoBulkAll, Rows.uptoBulk] at hbb
  refine (texts_any n0 n1 x20 x21 m22 ⟨a0, b0⟩ ⟨a1, b1⟩ b21 (by rw [size_list]; omega) W (env_of hL hS)).mono fun e W' ⟨he, ho⟩ => ?_
  subst he
  exact ⟨_, rfl, law_post Law.laidOut (by kernel_rfl) rfl rfl Tryd.underlying4 (fun ds hd => by match ds, hd with | [_, _, _], _ => exact ⟨rfl, rfl, rfl⟩) hW' (Only.below ho (Nat.le_refl _) (fun _ h => h.elim))⟩
set_option maxRecDepth 100000 in
theorem gtexts_lifted (os : Os) (started : os.Started) (H : Type) (enc : TypeId × Value → H) (F : Stop.Interp) :
    ReturnsInHanded {} Tryd.checked os 8 .any ((Rows.OpenSpec.upto Rows.signTextsSpec).preRow enc Tryd.prog Tryd.f8 Rows.signTextsUptoRow.domain false Rows.signTextsUptoRow.laid) (((Rows.OpenSpec.upto Rows.signTextsSpec).at F).post enc Tryd.prog Tryd.f8 false true false false) := by
  obtain ⟨places, hx⟩ := gtexts_reads os enc
  refine returnsInHanded_of_row (C := Tryd.checked) (s := Rows.OpenSpec.upto Rows.signTextsSpec) Law.own started (by kernel_rfl) Tryd.func8
    (witness_row_at (enc := enc) (C := Tryd.checked) false (laidWorld os) #[.int .i64 0, .int .i64 0, .agg #[.string ⟨#[]⟩, .int .i64 0, .int .u8 0]] rfl (by kernel_rfl) (by kernel_rfl) (by kernel_rfl)
      (OpenSpec.preRow_of_cond 8 hx (by kernel_rfl) (fun k hk => by cases hk; kernel_rfl) (by kernel_rfl) (gtexts_laid os))) ?_
  intro W base args ds gs before hval hW _ hcond _ hL hS _
  exact gtexts_contract H enc W base args ds gs before hval hW hL (hcond _ rfl) hS
theorem gtexts_saidUpto : Rows.SignTextsUptoSaid :=
  OpenClaim.holds_of_cond 8 Tryd.f8 rfl rfl rfl rfl rfl rfl rfl ⟨rfl, rfl, rfl, rfl, rfl⟩ rfl rfl rfl rfl rfl (by kernel_rfl) Tryd.func8 (by kernel_rfl)
    (of_decide_eq_true (by kernel_rfl)) (by unfold Func.isWrapper; first | (rw [if_pos (by decide +kernel)]; kernel_rfl) | (rw [if_neg (by decide +kernel)]; exact ⟨rfl, rfl⟩))
    (fun os started H enc _ F => by rw [OpenClaim.pre_eq_preRow]; exact gtexts_lifted os started H enc F)
theorem gtexts_plain (f : FuncId) (fn : Func) (hf : Tryd.pinned.checked.prog.funcNamed "probity/probitylaw13.SignTexts" = some f) (hfn : Tryd.pinned.checked.prog.funcs[f]? = some fn) :
    true = Tryd.pinned.checked.prog.looks [] ∧ ∀ (j : Nat) t, fn.params[j]? = some t → Tryd.pinned.checked.prog.wantsStandIn t = false := by
  obtain rfl : f = 8 := Option.some.inj ((show Tryd.prog.funcNamed "probity/probitylaw13.SignTexts" = some 8 by kernel_rfl).symm.trans hf) |>.symm
  obtain rfl : fn = Tryd.f8 := (Option.some.inj (Tryd.func8.symm.trans hfn)).symm
  refine ⟨by kernel_rfl, fun j t ht => ?_⟩
  rw [Tryd.params8] at ht
  have ht' : t = 3 ∨ t = 3 ∨ t = 38 := by simpa using Array.mem_of_getElem? ht
  rcases ht' with rfl | rfl | rfl
  · exact (show Tryd.prog.wantsStandIn 3 = false by kernel_rfl)
  · exact (show Tryd.prog.wantsStandIn 3 = false by kernel_rfl)
  · exact (show Tryd.prog.wantsStandIn 38 = false by kernel_rfl)
theorem gtexts_cardUpto : Rows.SignTextsUptoCardSaid :=
  Claim7.holds_tied_plain_at .later [] _ _ _ _ gtexts_saidUpto (fun _ h => by cases h) (by kernel_rfl) (fun _ h => by cases h) signTextsUpto_row_tie rfl ⟨rfl, rfl⟩ (by kernel_rfl) rfl gtexts_plain (by kernel_rfl)
#print axioms gtexts_cardUpto
end Go.Proofs.YtmgbcjjemlcfgaaDoor
