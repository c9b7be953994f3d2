/- What is proved here: what a call finds in the library's variables, and the library's reading of numbers. Conditions: the library's variables hold what their initialisers lay; the texts are short. -/
import Derived.Test.YtclpebgjmgfigaaGreatDoorG2
import Derived.Test.YtclpebgjmgfigaaGreatDoorB1
import Derived.Lib.ParseIntBTie
namespace Go.Proofs.YtclpebgjmgfigaaGreatDoor
open Go.RowKit Go.Shelf
theorem atoi_in {l : List UInt8} {v : Int} (h : Lib.atoiAll l = .ok v) : In v := by
  rw [← Lib.parseIntB_64] at h
  have := Lib.parseIntB_bounds h
  unfold In
  have e : ((2 ^ (64 - 1) : Nat) : Int) = 9223372036854775808 := by decide
  omega
theorem atoi_itoa {n : Int} (h : In n) : Lib.atoiAll (Lib.itoa n) = .ok n := by rw [← Lib.parseIntB_64]; exact parse_itoa h
/-- What a call finds in the library's variables. -/
structure EnvA (w : World) : Prop where
  tab : Tab w
  syn : ∃ tp p, w.var? Tryz.prog "strconv.ErrSyntax" = some #[.iface tp p]
  rng : ∃ tp p, w.var? Tryz.prog "strconv.ErrRange" = some #[.iface tp p]
  shp : w.ShapedOpen Tryz.prog
theorem varA_only {w w' : World} {n : String} {cs : Array Value} (ho : Only NoneOf w w') (h : w.var? Tryz.prog n = some cs) : w'.var? Tryz.prog n = some cs := by
  have hb : Below w.heap.size w w' := Only.below ho (Nat.le_refl _) (fun _ e => e.elim)
  unfold World.var? at h ⊢
  obtain ⟨g, hg, h⟩ := Option.bind_eq_some_iff.1 h
  rw [hg]
  simp only [Option.bind_some]
  have hlt : g < w.heap.size := by
    rcases Nat.lt_or_ge g w.heap.size with h1 | h1
    · exact h1
    · rw [Array.getElem?_eq_none h1] at h; cases h
  rw [hb.block g hlt]
  exact h
theorem EnvA.none {w w' : World} (h : EnvA w) (ho : Only NoneOf w w') : EnvA w' := by
  obtain ⟨t, ⟨a, b, hs⟩, ⟨c, d, hr⟩, hp⟩ := h
  have hb : Below w.heap.size w w' := Only.below ho (Nat.le_refl _) (fun _ e => e.elim)
  exact ⟨t.none ho, ⟨a, b, varA_only ho hs⟩, ⟨c, d, varA_only ho hr⟩, hp.keptBut (hb.frame (fun _ => False)) (fun _ e => e.elim)⟩
/-- A number read off a word. -/
theorem atoiA_any (s : ByteArray) (hs : s.size ≤ 4000000000) (w : World) (h : EnvA w) : Calls Tryz.prog 68 #[.string s] w fun e w' => ∃ v : Int, ∃ ev, e = .returned (.tuple #[.int .i64 v, ev]) ∧ ((ev = .nilIface ∧ In v ∧ ∀ m, In m → s.data.toList = Lib.itoa m → v = m) ∨ ((∃ N, ev = .iface 166 (.pointer (some ⟨N, 0, none⟩))) ∧ ∀ m, In m → s.data.toList ≠ Lib.itoa m)) ∧ Only NoneOf w w' := by
  obtain ⟨_, ⟨tp, p, h1⟩, ⟨tq, q, h2⟩, _⟩ := h
  cases hr : Lib.atoiAll s.data.toList
  · rename_i v
    refine (Tryz.strconv_Atoi_ok s (by omega) v hr w).mono ?_
    rintro e w' ⟨rfl, h3⟩
    refine ⟨v, _, rfl, .inl ⟨rfl, atoi_in hr, fun m hm e => ?_⟩, ?_⟩
    · rw [e, atoi_itoa hm] at hr
      cases hr
      rfl
    · rcases h3 with rfl | ⟨t, rfl⟩
      · exact Only.refl _ _
      · exact Only.of_below (Lib.bytesWorld_below _ _ _) _
  · refine (Tryz.strconv_Atoi_syntax_var s (by omega) hr tp p w h1).mono ?_
    rintro e w' ⟨N, rfl, _, _, hb⟩
    refine ⟨_, _, rfl, .inr ⟨⟨N, rfl⟩, fun m hm e => ?_⟩, Only.of_below hb _⟩
    rw [e, atoi_itoa hm] at hr
    cases hr
  · refine (Tryz.strconv_Atoi_range_var s (by omega) hr tq q w h2).mono ?_
    rintro e w' ⟨N, rfl, _, _, hb⟩
    refine ⟨_, _, rfl, .inr ⟨⟨N, rfl⟩, fun m hm e => ?_⟩, Only.of_below hb _⟩
    rw [e, atoi_itoa hm] at hr
    cases hr
/-- The library's variables lie below a block that changes. -/
def EnvB (b : Nat) (w : World) : Prop := ∃ w0, EnvA w0 ∧ Only NoneOf w0 w ∧ w0.heap.size ≤ b
theorem EnvB.env {b : Nat} {w : World} (h : EnvB b w) : EnvA w := by
  obtain ⟨w0, h1, h2, _⟩ := h
  exact h1.none h2
theorem EnvB.next {b : Nat} {w w' : World} (h : EnvB b w) (ho : Only (fun i => i = b) w w') : EnvB b w' := by
  obtain ⟨w0, h1, h2, h3⟩ := h
  exact ⟨w0, h1, h2.trans' ho (fun i hi e => by have e' : i = b := e; omega), h3⟩
end Go.Proofs.YtclpebgjmgfigaaGreatDoor
