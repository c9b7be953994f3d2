/- What is proved here: of two messages the one whose time and delay add up to less arrives first, and never otherwise: the law NetOvertakes answers true, for every two times and delays, and leaves its arguments as they were. No conditions. -/
import Derived.Test.YtoaddfmbjehhoaaNetOver
import Derived.OpenShut
namespace Go.Proofs.Ytoaddfmbjehhoaa
open Go.ChangeShapes Go.WideShapes Go.ChangeAt Go.RowKit

theorem u16_bd {a : Int} (h : (Lit.int .u16 a).wf = true) : 0 ≤ a ∧ a ≤ 65535 := by
  simpa [Lit.wf, IntKind.min, IntKind.max, IntKind.signed, IntKind.bits] using h

theorem open_u16s {H : Type} {enc : TypeId × Value → H} {w : World} {base : Nat} {spare : Nat → Bool} {held : Bool} {r : Reach} {b0 : Nat} {v : Value} {d : DataW H} {p : List MemPlace} (hv : Value.okWide Try.prog w r b0 47 v) (h : DataW.Trod enc Try.prog w base spare held 47 v d p) :
    ∃ x y, v = .agg #[.int .u16 x, .int .u16 y] ∧ (Lit.int .u16 x).wf = true ∧ (Lit.int .u16 y).wf = true := by
  simp only [Value.okWide, Try.underlying47] at hv
  obtain ⟨cs, rfl, _, _⟩ := hv
  obtain ⟨fuel, hf⟩ := h
  obtain ⟨xs, m, _, _, hcl, hxl, hg⟩ := DataW.trod_array Try.underlying47 hf
  have e1 : Try.prog.cellsOf 40 = 1 := by kernel_rfl
  have e2 : Try.prog.cellsOf 47 = 2 := by kernel_rfl
  rw [e2] at hcl
  obtain ⟨l⟩ := cs
  simp [Value.cells] at hcl
  match l, hcl with
  | [c0, c1], _ =>
    match xs, hxl with
    | [y0, y1], _ =>
      have h0 := hg 0 (by omega)
      have h1 := hg 1 (by omega)
      simp [e1, Value.cells] at h0 h1
      obtain ⟨x, hx, _, wx⟩ := DataW.trod_int Try.underlying40 h0
      obtain ⟨y, hy, _, wy⟩ := DataW.trod_int Try.underlying40 h1
      simp at hx hy
      subst hx hy
      exact ⟨x, y, rfl, wx, wy⟩

set_option maxRecDepth 100000 in
theorem over_lifted (os : Os) (started : os.Started) (H : Type) (enc : TypeId × Value → H) :
    ReturnsInHanded {} Try.checked os 7 .any (Rows.netOvertakesSpec.pre6 enc Try.prog Try.f7 Rows.netOvertakesRow.domain false) (Rows.netOvertakesSpec.post enc Try.prog Try.f7 false true false false) := by
  refine returnsInHanded_of_change (C := Try.checked) Law.own started (by kernel_rfl) Try.func7
    (ChangeSpec.witness6 (enc := enc) (C := Try.checked) false ⟨#[], #[.int .u16 0, .int .u16 0, .agg #[.int .u16 0, .int .u16 0]], []⟩ 8 (by kernel_rfl) (by kernel_rfl) (by kernel_rfl) (by kernel_rfl)) ?_
  intro W base args ds gs before hval0 hW _ _
  have hval : ∀ (j : Nat) t v, Try.f7.params[j]? = some t → args[j]? = some v → Value.okWide Try.prog W .any base t v := hval0
  have hW' := hW
  obtain ⟨p, q, hA0, hV, hpq, hfz, hnd⟩ := hW
  have hA : DataW.TrodAll enc Try.prog W 0 (fun _ => true) true Try.f7.params.toList args.toList ds p := hA0
  rw [Try.params7] at hA hval
  obtain ⟨v0, v1, v2, d0, d1, d2, p0, p1, p2, rfl, rfl, rfl, h0, h1, h2⟩ := trodAll_three hA
  obtain ⟨a, rfl, _, _, wa⟩ := open_int Try.underlying40 (hval 0 40 v0 rfl rfl) h0
  obtain ⟨b, rfl, _, _, wb⟩ := open_int Try.underlying40 (hval 1 40 v1 rfl rfl) h1
  obtain ⟨x, y, rfl, wx, wy⟩ := open_u16s (hval 2 47 v2 rfl rfl) h2
  refine (over_any a b x y (u16_bd wa) (u16_bd wb) (u16_bd wx) (u16_bd wy)).mono fun e W' ⟨he, hb⟩ => ?_
  subst he
  exact ⟨_, rfl, law_post Law.laidOut (by kernel_rfl) rfl rfl Try.underlying4 (fun ds hd => by match ds, hd with | [_, _, _], _ => exact ⟨rfl, rfl, rfl⟩) hW' hb⟩

theorem over_holds : Rows.NetOvertakesSaid :=
  OpenClaim.holds_of_wide 7 Try.f7 rfl rfl rfl rfl rfl rfl rfl ⟨rfl, rfl, rfl, rfl, rfl⟩ rfl rfl rfl rfl rfl (by kernel_rfl) Try.func7 (by kernel_rfl)
    (of_decide_eq_true (by kernel_rfl)) (by unfold Func.isWrapper; first | (rw [if_pos (by decide +kernel)]; kernel_rfl) | (rw [if_neg (by decide +kernel)]; exact ⟨rfl, rfl⟩))
    (fun os started H enc _ => over_lifted os started H enc)
#print axioms over_holds
end Go.Proofs.Ytoaddfmbjehhoaa
