/- What is proved here: the reference's cursor passes strings. Conditions: the text is short. -/
import Derived.Test.YtpdlbmieciabmaaGreatDoorQ1
import Derived.Test.YtpdlbmieciabmaaGreatDoorBrA
import Derived.Test.YtpdlbmieciabmaaGreatDoorBrP
import Derived.WalkSmall
import Derived.Deep.Quiet
import Derived.Deep.RegionHeld3
import Derived.BigRegion
import Derived.Deep.DeepCutAuto
namespace Go.Proofs.YtpdlbmieciabmaaGreatDoor
open Go.RowKit Go.Shelf
theorem bytes_of {t : ByteArray} {l : List UInt8} (h : t.data.toList = l) : t = ⟨l.toArray⟩ := by
  subst h
  rfl
abbrev tCur : TypeId := 118
abbrev curP (C : Nat) : Value := .pointer (some ⟨C, 0, none⟩)
/-- A cursor: its text, its place, and whether the text is bad. -/
def Cur (w : World) (C : Nat) (s : ByteArray) (a : Nat) (b : Bool) : Prop := Blk w C tCur #[.string s, .int .i64 (a : Int), .bool b]
theorem Cur.cells {w : World} {C : Nat} {s : ByteArray} {a : Nat} {b : Bool} (h : Cur w C s a b) : w.cell? ⟨C, 0, none⟩ = some (.string s) ∧ w.cell? ⟨C, 1, none⟩ = some (.int .i64 (a : Int)) ∧ w.cell? ⟨C, 2, none⟩ = some (.bool b) := ⟨h.cell 0, h.cell 1, h.cell 2⟩
theorem Cur.only {S : Nat → Prop} {w w' : World} {C : Nat} {s : ByteArray} {a : Nat} {b : Bool} (h : Cur w C s a b) (ho : Only S w w') (hS : ¬ S C) : Cur w' C s a b := Blk.only h ho hS
theorem Cur.at_ {w : World} {C : Nat} {s : ByteArray} {a a' : Nat} {b : Bool} (h : Cur w C s a b) : Cur (w.setCell ⟨C, 1, none⟩ (.int .i64 (a' : Int))) C s a' b := Blk.set_ h 1 _
theorem Cur.bad {w : World} {C : Nat} {s : ByteArray} {a : Nat} {b : Bool} (h : Cur w C s a b) (b' : Bool) : Cur (w.setCell ⟨C, 2, none⟩ (.bool b')) C s a b' := Blk.set_ h 2 _
theorem cur_set {w w' : World} {C : Nat} (ho : Only (· = C) w w') (j : Nat) (u : Value) : Only (· = C) w (w'.setCell ⟨C, j, none⟩ u) := ho.setCell (p := ⟨C, j, none⟩) (.inl rfl) u
theorem sees_one {s : List UInt8} {x : UInt8} {a a' : Nat} {b : Bool} (h : SeesC s [x] a a' b true) (ha : a ≤ s.length) : a' = a + 1 := by
  have h1 := (h.2.2.1 rfl).2
  have h2 := congrArg List.length h1
  have h3 := h.1
  have h4 := h.2.1
  rw [List.length_append, List.length_drop, List.length_drop, List.length_singleton] at h2
  omega
set_option maxRecDepth 100000 in
set_option maxHeartbeats 1000000 in
theorem sees_any {w : World} {C : Nat} {s : ByteArray} {a : Nat} {b : Bool} (h : Cur w C s a b) (ha : a ≤ s.size) (hs : s.size ≤ 4000000000) (x : ByteArray) (hx : x.size ≤ 1000) :
    Calls Tryz.prog 78 #[curP C, .string x] w fun e w' => ∃ a' see, e = .returned (.bool see) ∧ SeesC s.data.toList x.data.toList a a' b see ∧ a' ≤ s.size ∧ Cur w' C s a' b ∧ Only (· = C) w w' := by
  obtain ⟨c0, c1, c2⟩ := h.cells
  have f1 : w.frozen? ⟨C, 1, none⟩ = false := Blk.frozen h 1
  have H := Lib.hid h
  have hsl := size_list s
  have hxl := size_list x
  cases b with
  | true =>
    have HF := Lib.hid (sees_no (s := s.data.toList) (x := x.data.toList) (a := a) (b := true) (by omega) (.inl rfl))
    clear hsl hxl h
    go_enter Tryz.func78, Tryz.ntmps78
    go_upto_region 1 with (fail)
    go_quiet (fail)
    go_wp2_with fail
    go_ret
    exact ⟨a, false, rfl, HF.out, ha, H.out, (Only.refl _ _).drewN _⟩
  | false =>
    by_cases hl : s.size < a + x.size
    · have HF := Lib.hid (sees_no (s := s.data.toList) (x := x.data.toList) (b := false) (a := a) (by omega) (.inr (.inl (by omega))))
      have d1 : decide ((s.size : Int) < (a : Int) + (x.size : Int)) = true := decide_eq_true (by omega)
      have w1 : IntKind.i64.wrap ((a : Int) + (x.size : Int)) = (a : Int) + (x.size : Int) := IntWalk.i64_in _ (by omega)
      clear hsl hxl h
      go_enter Tryz.func78, Tryz.ntmps78
      go_upto_region 1 with (fail)
      go_quiet (fail)
      go_wp2_with fail
      go_ret
      exact ⟨a, false, rfl, HF.out, ha, H.out, (Only.refl _ _).drewN _⟩
    · have d1 : decide ((s.size : Int) < (a : Int) + (x.size : Int)) = false := decide_eq_false (by omega)
      have d2 : (a : Int) ≤ (a : Int) + (x.size : Int) := by omega
      have d3 : (a : Int) + (x.size : Int) ≤ (s.size : Int) := by omega
      have w1 : IntKind.i64.wrap ((a : Int) + (x.size : Int)) = (a : Int) + (x.size : Int) := IntWalk.i64_in _ (by omega)
      by_cases he : s.extract a (a + x.size) = x
      · have HT := Lib.hid (sees_yes (s := s.data.toList) (x := x.data.toList) (a := a) (by omega) (ext_eq.1 he))
        have b1 := tx_beqT he
        have b2 := tx_listT he
        rw [← hxl] at HT
        clear hsl hxl h he
        go_enter Tryz.func78, Tryz.ntmps78
        go_upto_region 1 with (fail)
        go_quiet (fail)
        go_wp2_with fail
        go_ret
        exact ⟨a + x.size, true, rfl, HT.out, by omega, Cur.at_ (a' := a + x.size) (Blk.drewN H.out _), cur_set ((Only.refl _ _).drewN _) 1 _⟩
      · have HF := Lib.hid (sees_no (s := s.data.toList) (x := x.data.toList) (b := false) (a := a) (by omega) (.inr (.inr (fun e => he (ext_eq.2 e)))))
        have b1 := tx_beqF he
        have b2 := tx_listF he
        clear hsl hxl h he
        go_enter Tryz.func78, Tryz.ntmps78
        go_upto_region 1 with (fail)
        go_quiet (fail)
        go_wp2_with fail
        go_ret
        exact ⟨a, false, rfl, HF.out, ha, H.out, (Only.refl _ _).drewN _⟩
set_option maxRecDepth 100000 in
set_option maxHeartbeats 1000000 in
theorem need_any {w : World} {C : Nat} {s : ByteArray} {a : Nat} {b : Bool} (h : Cur w C s a b) (ha : a ≤ s.size) (hs : s.size ≤ 4000000000) (x : ByteArray) (hx : x.size ≤ 1000) :
    Calls Tryz.prog 48 #[curP C, .string x] w fun e w' => e = .returned (.tuple #[]) ∧ ∃ a' b', NeedC s.data.toList x.data.toList a a' b b' ∧ a' ≤ s.size ∧ Cur w' C s a' b' ∧ Only (· = C) w w' := by
  have H := Lib.hid h
  clear h
  go_enter Tryz.func48, Tryz.ntmps48
  go_wp2_with fail
  refine (sees_any H.out ha hs x hx).mono ?_
  rintro e w1 ⟨a', see, rfl, hc, ha', h1, ho⟩
  have f2 : w1.frozen? ⟨C, 2, none⟩ = false := Blk.frozen h1 2
  obtain ⟨c0, c1, c2⟩ := h1.cells
  have H1 := Lib.hid h1
  have HC := Lib.hid hc.need
  have HO := Lib.hid ho
  clear h1 hc ho
  cases see
  · go_wp2_with fail
    go_end0
    exact ⟨rfl, a', true, by have := HC.out; simpa using this, ha', H1.out.bad true, cur_set HO.out 2 _⟩
  · go_wp2_with fail
    go_end0
    exact ⟨rfl, a', b, by have := HC.out; simpa using this, ha', H1.out, HO.out⟩
end Go.Proofs.YtpdlbmieciabmaaGreatDoor
