/- What is proved here: what a call finds in the library's variables, and the library's cutting, splitting and reading of texts. Conditions: the library's variables hold what their initialisers lay; the texts are short. -/
import Derived.Test.YtpdlbmieciabmaaGreatDoorB1
import Derived.Test.YtpdlbmieciabmaaGreatDoorBrA
import Derived.Test.YtpdlbmieciabmaaGreatDoorBrP
namespace Go.Proofs.YtpdlbmieciabmaaGreatDoor
open Go.RowKit Go.Shelf
/-- What a call finds in the library's variables. -/
structure Env (w : World) : Prop where
  tab : Tab w
  syn : ∃ tp p, w.var? Tryz.prog "strconv.ErrSyntax" = some #[.iface tp p]
  rng : ∃ tp p, w.var? Tryz.prog "strconv.ErrRange" = some #[.iface tp p]
  shp : w.ShapedOpen Tryz.prog
theorem var_only {w w' : World} {n : String} {cs : Array Value} (ho : Only NoneOf w w') (h : w.var? Tryz.prog n = some cs) : w'.var? Tryz.prog n = some cs := by
  have hb : Below w.heap.size w w' := Only.below ho (Nat.le_refl _) (fun _ e => e.elim)
  unfold World.var? at h ⊢
  obtain ⟨g, hg, h⟩ := Option.bind_eq_some_iff.1 h
  rw [hg]
  simp only [Option.bind_some]
  have hlt : g < w.heap.size := by
    rcases Nat.lt_or_ge g w.heap.size with h1 | h1
    · exact h1
    · rw [Array.getElem?_eq_none h1] at h; cases h
  rw [hb.block g hlt]
  exact h
theorem Env.none {w w' : World} (h : Env w) (ho : Only NoneOf w w') : Env w' := by
  obtain ⟨t, ⟨a, b, hs⟩, ⟨c, d, hr⟩, hp⟩ := h
  have hb : Below w.heap.size w w' := Only.below ho (Nat.le_refl _) (fun _ e => e.elim)
  exact ⟨t.none ho, ⟨a, b, var_only ho hs⟩, ⟨c, d, var_only ho hr⟩, hp.keptBut (hb.frame (fun _ => False)) (fun _ e => e.elim)⟩
/-- A text cut at its first line's end. -/
theorem cut_any (s : ByteArray) (hs : s.size ≤ 4000000000) (w : World) (h : Env w) : Calls Tryz.prog 67 #[.string s, .string ⟨#[10]⟩] w fun e w' => ∃ a b : ByteArray, ∃ ok, e = .returned (.tuple #[.string a, .string b, .bool ok]) ∧ Lib.cut s.data.toList [10] = (a.data.toList, b.data.toList, ok) ∧ Only NoneOf w w' :=
  (Tryz.strings_Cut_shaped s ⟨#[10]⟩ w h.shp (by omega)).mono fun e w' h => by
    obtain ⟨rfl, n, rfl⟩ := h
    exact ⟨_, _, _, rfl, rfl, (Only.refl _ _).drewN n⟩
/-- A line split into its words. -/
theorem split_any (s : ByteArray) (hs : s.size ≤ 4000000000) (w : World) (h : Env w) : Calls Tryz.prog 68 #[.string s, .string blankB] w fun e w' => ∃ A cap, e = .returned (.slice A (rowB s).length cap) ∧ SlT 9 strC 1 w' (.slice A (rowB s).length cap) (rowB s) ∧ Only NoneOf w w' :=
  (Tryz.strings_Split_shaped s blankB w h.shp (by omega) (by decide)).mono fun e w' h => by
    obtain ⟨rfl, rfl⟩ := h
    have hl := rowB_len s
    have hc : Lib.countB s blankB ≤ s.size := Lib.countB_le blankB (by decide) s.size s (Nat.le_refl _)
    refine ⟨some ⟨w.heap.size, 0, none⟩, (rowB s).length, by rw [hl], ⟨_, _, rfl, Nat.le_refl _, by omega, fun i p hp => ?_⟩, (Only.refl _ _).alloc _⟩
    have hb := Blk.new w 9 ((Lib.splitB blankB 0 (Lib.countB s blankB) s).map Value.string).toArray
    refine ⟨w.heap.size, 0, _, rfl, hb, fun j v hv => ?_⟩
    have hj : j = 0 := by
      have := (List.getElem?_eq_some_iff.1 hv).1
      rw [strC_len] at this
      omega
    subst hj
    have hv' : v = .string p := by simpa [strC] using hv.symm
    subst hv'
    have h2 : (rowB s)[i]? = some p := hp
    unfold rowB at h2
    rw [hb.cell]
    simp [List.getElem?_map, h2]
/-- A number read off a word. -/
theorem atoi_any (s : ByteArray) (hs : s.size ≤ 4000000000) (w : World) (h : Env w) : Calls Tryz.prog 69 #[.string s] w fun e w' => ∃ v : Int, ∃ ev, e = .returned (.tuple #[.int .i64 v, ev]) ∧ ((ev = .nilIface ∧ In v ∧ ∀ m, In m → s.data.toList = Lib.itoa m → v = m) ∨ ((∃ N, ev = .iface 198 (.pointer (some ⟨N, 0, none⟩))) ∧ ∀ m, In m → s.data.toList ≠ Lib.itoa m)) ∧ Only NoneOf w w' := by
  obtain ⟨_, ⟨tp, p, h1⟩, ⟨tq, q, h2⟩, _⟩ := h
  cases hr : Lib.atoiAll s.data.toList
  · rename_i v
    refine (Tryz.strconv_Atoi_ok s (by omega) v hr w).mono ?_
    rintro e w' ⟨rfl, h3⟩
    refine ⟨v, _, rfl, .inl ⟨rfl, atoi_in hr, fun m hm e => ?_⟩, ?_⟩
    · rw [e, atoi_itoa hm] at hr
      cases hr
      rfl
    · rcases h3 with rfl | ⟨t, rfl⟩
      · exact Only.refl _ _
      · exact Only.of_below (Lib.bytesWorld_below _ _ _) _
  · refine (Tryz.strconv_Atoi_syntax_var s (by omega) hr tp p w h1).mono ?_
    rintro e w' ⟨N, rfl, _, _, hb⟩
    refine ⟨_, _, rfl, .inr ⟨⟨N, rfl⟩, fun m hm e => ?_⟩, Only.of_below hb _⟩
    rw [e, atoi_itoa hm] at hr
    cases hr
  · refine (Tryz.strconv_Atoi_range_var s (by omega) hr tq q w h2).mono ?_
    rintro e w' ⟨N, rfl, _, _, hb⟩
    refine ⟨_, _, rfl, .inr ⟨⟨N, rfl⟩, fun m hm e => ?_⟩, Only.of_below hb _⟩
    rw [e, atoi_itoa hm] at hr
    cases hr
end Go.Proofs.YtpdlbmieciabmaaGreatDoor
