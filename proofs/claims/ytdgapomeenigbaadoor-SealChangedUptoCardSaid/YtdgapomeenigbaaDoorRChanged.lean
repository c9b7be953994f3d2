/- What is proved here: 'probitylaw14.SealChanged' answers true for every key, text and change, where the arguments are of bulk at most 1048576, and leaves its arguments as they were. No other conditions. -/
import Derived.Test.YtdgapomeenigbaaDoorChanged
import Derived.Test.YtdgapomeenigbaaDoorRowsOf
namespace Go.Proofs.YtdgapomeenigbaaDoor
open Go.ChangeShapes Go.WideShapes Go.ChangeAt Go.RowKit
theorem changed_one {H : Type} {enc : TypeId × Value → H} {w : World} {base : Nat} {spare : Nat → Bool} {held : Bool} {c : Value} {n : Nat} {x : DataW H × List MemPlace} (h : DataW.trod enc Tryd.prog w base spare held n 30 [c] = some x) : ∃ m : Nat, c = .int .u16 (m : Int) ∧ m < 65536 := by
  obtain ⟨m, hc, _, hw⟩ := DataW.trod_int Tryd.underlying30 h
  have hb : 0 ≤ m ∧ m ≤ 65535 := by simpa [Lit.wf, IntKind.min, IntKind.max, IntKind.signed, IntKind.bits] using hw
  exact ⟨m.toNat, by rw [(List.cons.inj hc).1]; congr 1; omega, by omega⟩
set_option maxRecDepth 100000 in
theorem changed_a3 {H : Type} {enc : TypeId × Value → H} {w : World} {r : Reach} {b0 base : Nat} {spare : Nat → Bool} {held : Bool} {v : Value} {d : DataW H} {p : List MemPlace} (hv : Value.okWide Tryd.prog w r b0 31 v) (h : DataW.Trod enc Tryd.prog w base spare held 31 v d p) :
    ∃ x y z : Nat, v = .agg #[.int .u16 (x : Int), .int .u16 (y : Int), .int .u16 (z : Int)] ∧ x < 65536 ∧ y < 65536 ∧ z < 65536 := by
  have hagg : ∃ cs, v = .agg cs := by
    have hv' := hv
    simp only [Value.okWide, Tryd.underlying31] at hv'
    obtain ⟨cs, h1, _⟩ := hv'
    exact ⟨cs, h1⟩
  obtain ⟨cs, rfl⟩ := hagg
  obtain ⟨fuel, hf⟩ := h
  obtain ⟨xs, m, _, _, hcl, hlen, hg⟩ := DataW.trod_array Tryd.underlying31 hf
  have e3 : Tryd.prog.cellsOf 31 = 3 := by kernel_rfl
  have e1 : Tryd.prog.cellsOf 30 = 1 := by kernel_rfl
  have hl : (Value.agg cs).cells.toList.length = 3 := hcl.trans e3
  obtain ⟨l⟩ := cs
  simp only [Value.cells] at hl hg
  match l, hl with
  | [c0, c1, c2], _ =>
    match xs, hlen with
    | [y0, y1, y2], _ =>
      have h0 := hg 0 (by omega)
      have h1 := hg 1 (by omega)
      have h2 := hg 2 (by omega)
      simp [e1] at h0 h1 h2
      obtain ⟨x, rfl, bx⟩ := changed_one h0
      obtain ⟨y, rfl, by'⟩ := changed_one h1
      obtain ⟨z, rfl, bz⟩ := changed_one h2
      exact ⟨x, y, z, rfl, bx, by', bz⟩
theorem changed_laid (os : Os) : laidMet Tryd.prog Rows.sealChangedUptoRow.laid ((laidWorld os).forCall (fun _ _ => 0) ⟨#[], #[.int .i64 0, .string ⟨#[]⟩, .agg #[.int .u16 0, .int .u16 0, .int .u16 0]], []⟩).memory :=
  laidMet_of_run' 70 (by kernel_rfl) (by kernel_rfl)
theorem changed_reads (os : Os) {H : Type} (enc : TypeId × Value → H) : ∃ places, DataW.whole enc Tryd.prog ((laidWorld os).forCall (fun _ _ => 0) ⟨#[], #[.int .i64 0, .string ⟨#[]⟩, .agg #[.int .u16 0, .int .u16 0, .int .u16 0]], []⟩).memory Tryd.f6.params.toList Rows.sealChangedSpec.vars false #[Value.int .i64 0, .string ⟨#[]⟩, .agg #[.int .u16 0, .int .u16 0, .int .u16 0]].toList 8 = some ([.lit (.int .i64 0), .lit (.string []), .agg [.lit (.int .u16 0), .lit (.int .u16 0), .lit (.int .u16 0)]], [], places) :=
  ⟨[], by kernel_rfl⟩
set_option maxRecDepth 100000 in
theorem changed_contract (H : Type) (enc : TypeId × Value → H) (W : World) (base : Nat) (args : Array Value) (ds gs : List (DataW H)) (before : List MemPlace)
    (hval : ∀ (j : Nat) t v, Tryd.f6.params[j]? = some t → args[j]? = some v → Value.okWide Tryd.prog W .any base t v)
    (hW : DataW.Whole enc Tryd.prog Tryd.f6.params.toList Rows.sealChangedSpec.vars false W args.toList ds gs before) (hL : laidMetH Tryd.prog Rows.sealChangedUptoRow.laid W) (hk : Rows.uptoSmall H (ds ++ gs) = true) :
    Calls Tryd.prog 6 args W fun e W' => ∃ v, e = .returned v ∧ Rows.sealChangedSpec.post enc Tryd.prog Tryd.f6 false true false false W args v W' := by
  have hW' := hW
  obtain ⟨p, q, hA0, hV, hpq, hfz, hnd⟩ := hW
  have hA : DataW.TrodAll enc Tryd.prog W 0 (fun _ => true) true Tryd.f6.params.toList args.toList ds p := hA0
  rw [Tryd.params6] at hA hval
  obtain ⟨v0, v1, v2, d0, d1, d2, p0, p1, p2, rfl, rfl, rfl, h0, h1, h2⟩ := trodAll_three hA
  obtain ⟨n0, rfl, rfl, _, wk0⟩ := open_int Tryd.underlying3 (hval 0 3 v0 rfl rfl) h0
  obtain ⟨a0, b0⟩ := i64_bd wk0
  obtain ⟨s1, rfl, rfl, _, _⟩ := Go.ChangeMaps.open_string Tryd.underlying9 (hval 1 9 v1 rfl rfl) h1
  obtain ⟨x2, y2, w2, rfl, bx2, by2, bw2⟩ := changed_a3 (hval 2 31 v2 rfl rfl) h2
  have hb := of_decide_eq_true hk
  have z1 := bulk_string (bytes := s1.data.toList) (by simp) hb
  refine (changed_any n0 a0 b0 s1 x2 y2 w2 (by rw [size_list]; omega) bx2 by2 bw2 W (table hL)).mono fun e W' ⟨he, ho⟩ => ?_
  subst he
  exact ⟨_, rfl, law_post Law.laidOut (by kernel_rfl) rfl rfl Tryd.underlying4 (fun ds hd => by match ds, hd with | [_, _, _], _ => exact ⟨rfl, rfl, rfl⟩) hW' (Only.below ho (Nat.le_refl _) (fun _ h => h.elim))⟩
set_option maxRecDepth 100000 in
theorem changed_lifted (os : Os) (started : os.Started) (H : Type) (enc : TypeId × Value → H) (F : Stop.Interp) :
    ReturnsInHanded {} Tryd.checked os 6 .any ((Rows.OpenSpec.upto Rows.sealChangedSpec).preRow enc Tryd.prog Tryd.f6 Rows.sealChangedUptoRow.domain false Rows.sealChangedUptoRow.laid) (((Rows.OpenSpec.upto Rows.sealChangedSpec).at F).post enc Tryd.prog Tryd.f6 false true false false) := by
  obtain ⟨places, hx⟩ := changed_reads os enc
  refine returnsInHanded_of_row (C := Tryd.checked) (s := Rows.OpenSpec.upto Rows.sealChangedSpec) Law.own started (by kernel_rfl) Tryd.func6
    (witness_row_at (enc := enc) (C := Tryd.checked) false (laidWorld os) #[.int .i64 0, .string ⟨#[]⟩, .agg #[.int .u16 0, .int .u16 0, .int .u16 0]] rfl (by kernel_rfl) (by kernel_rfl) (by kernel_rfl)
      (OpenSpec.preRow_of_cond 8 hx (by kernel_rfl) (fun k hk => by cases hk; kernel_rfl) (by kernel_rfl) (changed_laid os))) ?_
  intro W base args ds gs before hval hW _ hcond _ hL _ _
  exact changed_contract H enc W base args ds gs before hval hW hL (hcond _ rfl)
theorem changed_saidUpto : Rows.SealChangedUptoSaid :=
  OpenClaim.holds_of_cond 6 Tryd.f6 rfl rfl rfl rfl rfl rfl rfl ⟨rfl, rfl, rfl, rfl, rfl⟩ rfl rfl rfl rfl rfl (by kernel_rfl) Tryd.func6 (by kernel_rfl)
    (of_decide_eq_true (by kernel_rfl)) (by unfold Func.isWrapper; first | (rw [if_pos (by decide +kernel)]; kernel_rfl) | (rw [if_neg (by decide +kernel)]; exact ⟨rfl, rfl⟩))
    (fun os started H enc _ F => by rw [OpenClaim.pre_eq_preRow]; exact changed_lifted os started H enc F)
theorem changed_plain (f : FuncId) (fn : Func) (hf : Tryd.pinned.checked.prog.funcNamed "probity/probitylaw14.SealChanged" = some f) (hfn : Tryd.pinned.checked.prog.funcs[f]? = some fn) :
    false = Tryd.pinned.checked.prog.looks [] ∧ ∀ (j : Nat) t, fn.params[j]? = some t → Tryd.pinned.checked.prog.wantsStandIn t = false := by
  obtain rfl : f = 6 := Option.some.inj ((show Tryd.prog.funcNamed "probity/probitylaw14.SealChanged" = some 6 by kernel_rfl).symm.trans hf) |>.symm
  obtain rfl : fn = Tryd.f6 := (Option.some.inj (Tryd.func6.symm.trans hfn)).symm
  refine ⟨by kernel_rfl, fun j t ht => ?_⟩
  rw [Tryd.params6] at ht
  have ht' : t = 3 ∨ t = 9 ∨ t = 31 := by simpa using Array.mem_of_getElem? ht
  rcases ht' with rfl | rfl | rfl
  · exact (show Tryd.prog.wantsStandIn 3 = false by kernel_rfl)
  · exact (show Tryd.prog.wantsStandIn 9 = false by kernel_rfl)
  · exact (show Tryd.prog.wantsStandIn 31 = false by kernel_rfl)
theorem changed_cardUpto : Rows.SealChangedUptoCardSaid :=
  Claim7.holds_tied_plain_at .later [] _ _ _ _ changed_saidUpto (fun _ h => by cases h) (by kernel_rfl) (fun _ h => by cases h) sealChangedUpto_row_tie rfl ⟨rfl, rfl⟩ (by kernel_rfl) rfl changed_plain (by kernel_rfl)
#print axioms changed_cardUpto
end Go.Proofs.YtdgapomeenigbaaDoor
