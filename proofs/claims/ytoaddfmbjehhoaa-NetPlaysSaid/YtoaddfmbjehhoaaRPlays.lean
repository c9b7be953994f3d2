/- What is proved here: any sequence of calls has the results of the reference: the law NetPlays answers true for every number of nodes, script and calls, and leaves its arguments as they were. No conditions. -/
import Derived.Test.YtoaddfmbjehhoaaNetPlays
namespace Go.Proofs.Ytoaddfmbjehhoaa
open Go.ChangeShapes Go.WideShapes Go.ChangeAt Go.RowKit
theorem u16_bd {a : Int} (h : (Lit.int .u16 a).wf = true) : 0 ≤ a ∧ a ≤ 65535 := by
  simpa [Lit.wf, IntKind.min, IntKind.max, IntKind.signed, IntKind.bits] using h
theorem u8_bd {a : Int} (h : (Lit.int .u8 a).wf = true) : 0 ≤ a ∧ a ≤ 255 := by
  simpa [Lit.wf, IntKind.min, IntKind.max, IntKind.signed, IntKind.bits] using h
theorem read_ac {H : Type} {enc : TypeId × Value → H} {w : World} {base : Nat} {spare : Nat → Bool} {held : Bool} : ∀ n cs x, DataW.trod enc Try.prog w base spare held n 33 cs = some x → ∃ t : Ac, cs = ac t ∧ True := by
  intro n cs x h
  obtain ⟨xs, n', _, hx, hcl, hlen, hg⟩ := DataW.trod_struct Try.underlying33 h
  have hl5 : cs.length = 5 := hcl.trans (by kernel_rfl)
  match cs, hl5 with
  | [c0, c1, c2, c3, c4], _ =>
    match xs, hlen with
    | [y0, y1, y2], _ =>
      have h0 := hg 0 _ rfl
      have h1 := hg 1 _ rfl
      have h2 := hg 2 _ rfl
      have e1 : Try.prog.cellsOf 3 = 1 := by kernel_rfl
      have e2 : Try.prog.cellsOf 31 = 3 := by kernel_rfl
      simp [e1, e2] at h0 h1 h2
      obtain ⟨b, hb, _⟩ := DataW.trod_int Try.underlying3 h0
      obtain ⟨c, hc, _⟩ := DataW.trod_int Try.underlying3 h1
      obtain ⟨xs2, n2, _, _, _, hlen2, hg2⟩ := DataW.trod_struct Try.underlying31 h2
      match xs2, hlen2 with
      | [z0, z1, z2], _ =>
        have k0 := hg2 0 _ rfl
        have k1 := hg2 1 _ rfl
        have k2 := hg2 2 _ rfl
        have e3 : Try.prog.cellsOf 9 = 1 := by kernel_rfl
        simp [e1, e3] at k0 k1 k2
        obtain ⟨d, hd, _⟩ := DataW.trod_int Try.underlying3 k0
        obtain ⟨e, he, _⟩ := DataW.trod_int Try.underlying3 k1
        obtain ⟨f, hf, _⟩ := DataW.trod_string Try.underlying9 k2
        simp at hb hc hd he hf
        subst hb hc hd he hf
        exact ⟨⟨b, c, d, e, f⟩, rfl, trivial⟩

set_option maxRecDepth 100000 in
theorem plays_lifted (os : Os) (started : os.Started) (H : Type) (enc : TypeId × Value → H) :
    ReturnsInHanded {} Try.checked os 3 .any (Rows.netPlaysSpec.pre6 enc Try.prog Try.f3 Rows.netPlaysRow.domain false) (Rows.netPlaysSpec.post enc Try.prog Try.f3 false true false false) := by
  refine returnsInHanded_of_change (C := Try.checked) Law.own started (by kernel_rfl) Try.func3
    (ChangeSpec.witness6 (enc := enc) (C := Try.checked) false ⟨#[], #[.int .u8 0, .slice none 0 0, .slice none 0 0], []⟩ 8 (by kernel_rfl) (by kernel_rfl) (by kernel_rfl) (by kernel_rfl)) ?_
  intro W base args ds gs before hval0 hW _ _
  have hval : ∀ (j : Nat) t v, Try.f3.params[j]? = some t → args[j]? = some v → Value.okWide Try.prog W .any base t v := hval0
  have hW' := hW
  obtain ⟨p, q, hA0, hV, hpq, hfz, hnd⟩ := hW
  have hA : DataW.TrodAll enc Try.prog W 0 (fun _ => true) true Try.f3.params.toList args.toList ds p := hA0
  rw [Try.params3] at hA hval
  obtain ⟨v0, v1, v2, d0, d1, d2, p0, p1, p2, rfl, rfl, rfl, h0, h1, h2⟩ := trodAll_three hA
  obtain ⟨nd, rfl, _, _, wn⟩ := open_int Try.underlying5 (hval 0 5 v0 rfl rfl) h0
  obtain ⟨A, n, c, L, rfl, ha, hn⟩ := open_tr (hval 1 22 v1 rfl rfl) h1
  obtain ⟨A1, n1, c1, T, rfl, hat, hn1, hc1, _⟩ := open_arg ac 5 (by omega) ac_len Try.underlying23 (by kernel_rfl) read_ac (hval 2 23 v2 rfl rfl) h2
  refine (plays_any nd (u8_bd wn) ha hn hat hn1).mono fun e W' ⟨he, hb⟩ => ?_
  subst he
  exact ⟨_, rfl, law_post Law.laidOut (by kernel_rfl) rfl rfl Try.underlying4 (fun ds hd => by match ds, hd with | [_, _, _], _ => exact ⟨rfl, rfl, rfl⟩) hW' hb⟩

theorem plays_holds : Rows.NetPlaysSaid :=
  OpenClaim.holds_of_wide 3 Try.f3 rfl rfl rfl rfl rfl rfl rfl ⟨rfl, rfl, rfl, rfl, rfl⟩ rfl rfl rfl rfl rfl (by kernel_rfl) Try.func3 (by kernel_rfl)
    (of_decide_eq_true (by kernel_rfl)) (by unfold Func.isWrapper; first | (rw [if_pos (by decide +kernel)]; kernel_rfl) | (rw [if_neg (by decide +kernel)]; exact ⟨rfl, rfl⟩))
    (fun os started H enc _ => plays_lifted os started H enc)
#print axioms plays_holds
end Go.Proofs.Ytoaddfmbjehhoaa
