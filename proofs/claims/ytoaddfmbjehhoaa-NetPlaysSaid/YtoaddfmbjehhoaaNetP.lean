/- What is proved here: how the net laws' arguments are opened. Conditions: what comes in can be read. -/
import Derived.Test.YtoaddfmbjehhoaaNetH
import Derived.Test.YtoaddfmbjehhoaaLaw
namespace Go.Proofs.Ytoaddfmbjehhoaa
open Go.ChangeShapes Go.WideShapes Go.ChangeAt Go.RowKit Go.Deep

section
variable {H : Type} {enc : TypeId × Value → H} {w : World} {base : Nat} {spare : Nat → Bool} {held : Bool}
theorem read_tr : ∀ n cs x, DataW.trod enc Try.prog w base spare held n 42 cs = some x → ∃ t : Tr, cs = tc t ∧ True := by
  intro n cs x h
  obtain ⟨xs, n', _, hx, hcl, hlen, hg⟩ := DataW.trod_struct Try.underlying42 h
  have hl3 : cs.length = 3 := hcl.trans (by kernel_rfl)
  match cs, hl3 with
  | [c0, c1, c2], _ =>
    match xs, hlen with
    | [y0, y1, y2], _ =>
      have h0 := hg 0 _ rfl
      have h1 := hg 1 _ rfl
      have h2 := hg 2 _ rfl
      have e0 : Try.prog.cellsOf 4 = 1 := by kernel_rfl
      have e1 : Try.prog.cellsOf 3 = 1 := by kernel_rfl
      simp [e0, e1] at h0 h1 h2
      obtain ⟨b, hb, _⟩ := DataW.trod_bool Try.underlying4 h0
      obtain ⟨c, hc, _, _⟩ := DataW.trod_int Try.underlying3 h1
      obtain ⟨d, hd, _, _⟩ := DataW.trod_int Try.underlying3 h2
      simp at hb hc hd
      subst hb hc hd
      exact ⟨⟨b, c, d⟩, rfl, trivial⟩
theorem open_tr {r : Reach} {b0 : Nat} {v : Value} {d : DataW H} {p : List MemPlace} (hv : Value.okWide Try.prog w r b0 22 v) (h : DataW.Trod enc Try.prog w base spare held 22 v d p) :
    ∃ A n c L, v = .slice A n c ∧ Arg tc 3 w A n L ∧ n ≤ maxLen := by
  obtain ⟨A, n, c, L, h1, h2, h3, _⟩ := open_arg tc 3 (by omega) tc_len Try.underlying22 (by kernel_rfl) read_tr hv h
  exact ⟨A, n, c, L, h1, h2, h3⟩
theorem open_msg {r : Reach} {b0 : Nat} {v : Value} {d : DataW H} {p : List MemPlace} (hv : Value.okWide Try.prog w r b0 31 v) (h : DataW.Trod enc Try.prog w base spare held 31 v d p) :
    ∃ fr tgt tx, v = msg fr tgt tx := by
  obtain ⟨v0, v1, v2, y0, y1, y2, m, rfl, rfl, rfl, h0, h1, h2⟩ := Go.Joins.open_agg3 Try.underlying31 (by kernel_rfl) (by kernel_rfl) hv h
  obtain ⟨a, e0, _, _⟩ := DataW.trod_int Try.underlying3 h0
  obtain ⟨b, e1, _, _⟩ := DataW.trod_int Try.underlying3 h1
  obtain ⟨s, e2, _, _⟩ := DataW.trod_string Try.underlying9 h2
  simp at e0 e1 e2
  subst e0 e1 e2
  exact ⟨a, b, s, rfl⟩
end
end Go.Proofs.Ytoaddfmbjehhoaa
