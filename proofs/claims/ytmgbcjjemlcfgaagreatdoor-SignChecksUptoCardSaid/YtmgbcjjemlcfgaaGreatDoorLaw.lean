/- What is proved here: a law that answers true and leaves all that was there as it was meets the statements' form. Conditions: the arguments' types can be read. -/
import Derived.Test.YtmgbcjjemlcfgaaGreatDoorRows
import Derived.WalkKit
import Derived.ProofKit
import Derived.Carry
import Derived.JoinedCond
namespace Go.Proofs.YtmgbcjjemlcfgaaGreatDoor
open Go.ChangeShapes Go.WideShapes Go.ChangeAt Go.RowKit

theorem Law.own : ownKnob Tryz.prog.godebug = none := by kernel_rfl
theorem Law.laidOut : laidOutB Tryz.prog = true := by kernel_rfl

def readRows (P : Program) (ts : List TypeId) : Bool := ts.all fun t => P.readableRec t && decide (t < P.types.size)
theorem below_trodAll {H : Type} {enc : TypeId × Value → H} {P : Program} (hl : laidOutB P = true) {W W' : World} (hb : Below W.heap.size W W') :
    ∀ {ts : List TypeId} {vs : List Value} {ds : List (DataW H)} {ps : List MemPlace}, readRows P ts = true → DataW.TrodAll enc P W 0 (fun _ => true) true ts vs ds ps →
      DataW.TrodAll enc P W' 0 (fun b => decide (b < W.heap.size)) true ts vs ds ps
  | [], [], [], _, _, h => h
  | [], [], _ :: _, _, _, h => h.elim
  | [], _ :: _, _, _, _, h => h.elim
  | _ :: _, [], _, _, _, h => h.elim
  | _ :: _, _ :: _, [], _, _, h => h.elim
  | t :: ts, v :: vs, d :: ds, ps, hr, h => by
    have hlt := h.lt
    obtain ⟨p, q, h1, h2, e⟩ := h
    simp only [readRows, List.all_cons, Bool.and_eq_true] at hr
    refine ⟨p, q, Below.trod hl hr.1.1 (by simpa using hr.1.2) h1 hb (fun x hx => hlt x (by rw [e]; exact List.mem_append_left _ hx)), below_trodAll hl hb (by simpa [readRows] using hr.2) h2, e⟩

section
variable {H : Type} {enc : TypeId × Value → H} {P : Program}
theorem trod_len {w : World} {base : Nat} {sp : Nat → Bool} {held : Bool} : ∀ {ts : List TypeId} {vs : List Value} {ds : List (DataW H)} {ps : List MemPlace}, DataW.TrodAll enc P w base sp held ts vs ds ps → ds.length = ts.length
  | [], [], [], _, _ => rfl
  | [], [], _ :: _, _, h => h.elim
  | [], _ :: _, _, _, h => h.elim
  | _ :: _, [], _, _, h => h.elim
  | _ :: _, _ :: _, [], _, h => h.elim
  | _ :: _, _ :: _, _ :: _, _, ⟨_, _, _, h2, _⟩ => by simp [trod_len h2]
theorem law_post {f : Func} {s : ChangeSpec} {W W' : World} {args : Array Value} {ds gs : List (DataW H)} {before : List MemPlace} {t : TypeId}
    (hl : laidOutB P = true) (hrows : readRows P f.params.toList = true) (hvars : s.vars = []) (hrt : f.resultTypes = #[t]) (ht : P.underlying t = some .bool)
    (hfn : ∀ ds : List (DataW H), ds.length = f.params.toList.length → (s.fn H (ds ++ [])).results = [.lit (.bool true)] ∧ (s.fn H (ds ++ [])).args = ds ∧ (s.fn H (ds ++ [])).vars = [])
    (hW : DataW.Whole enc P f.params.toList s.vars false W args.toList ds gs before) (hb : Below W.heap.size W W') :
    s.post enc P f false true false false W args (.bool true) W' := by
  have hlt : ∀ p ∈ before, p.block < W.heap.size := fun p hp => hW.lt p hp
  have hW' := hW
  obtain ⟨p, q, hA, hV, hpq, _, _⟩ := hW
  have hv2 : gs = [] ∧ q = [] := by
    have hV' : DataW.TrodVars enc P W (fun _ => true) [] gs q := by rw [← hvars]; exact hV
    obtain ⟨h1, h2⟩ := trodVars_none hV'
    exact ⟨h1, h2⟩
  obtain ⟨rfl, rfl⟩ := hv2
  rw [List.append_nil] at hpq
  subst hpq
  obtain ⟨e1, e2, e3⟩ := hfn ds (trod_len hA)
  refine ⟨ds, [], before, [], before, [], hW', ?_, ?_, ?_, World.keptBut_mono (fun x hx => ⟨hx, .inr (.inl hx)⟩) (hb.frame (· ∈ before)), fun h => by cases h⟩
  · rw [e1, hrt]
    exact trodAll_mk1 (shut_bool ht true)
  · rw [e2]
    exact below_trodAll hl hb hrows hA
  · rw [e3, hvars]
    rfl
end
end Go.Proofs.YtmgbcjjemlcfgaaGreatDoor
