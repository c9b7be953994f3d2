/- What is proved here: how the program reads a word, a number and a quoted text of a code, or panics. Conditions: the text is short; the library's variables hold what their initialisers lay. -/
import Derived.Test.YtclpebgjmgfigaaGreatDoorG2
import Derived.Test.YtclpebgjmgfigaaGreatDoorEvI
import Derived.Test.YtclpebgjmgfigaaGreatDoorEcE
namespace Go.Proofs.YtclpebgjmgfigaaGreatDoor
open Go.RowKit Go.Shelf
/-- A word is read, or the call panics where there is none. -/
def WordE (s : ByteArray) (c : UInt8) (b : Nat) (w : World) (e : Ending) (w' : World) : Prop :=
  (e = .panicked wrongP ∧ Only (fun i => i = b) w w' ∧ ∀ x t, ¬ WordAt s.data.toList c x t) ∨ (∃ a r : ByteArray, e = .returned (.string a) ∧ Blk w' b 9 #[.string r] ∧ Only (fun i => i = b) w w' ∧ a.size ≤ s.size ∧ r.size ≤ s.size ∧ ∀ x t, WordAt s.data.toList c x t → a.data.toList = x ∧ r.data.toList = t)
def NumbE (s : ByteArray) (c : UInt8) (b : Nat) (w : World) (e : Ending) (w' : World) : Prop :=
  (e = .panicked wrongP ∧ Only (fun i => i = b) w w' ∧ ∀ m t, ¬ NumAt s.data.toList c m t) ∨ (∃ (n : Int) (r : ByteArray), e = .returned (.int .i64 n) ∧ In n ∧ Blk w' b 9 #[.string r] ∧ Only (fun i => i = b) w w' ∧ r.size ≤ s.size ∧ ∀ m t, NumAt s.data.toList c m t → n = m ∧ r.data.toList = t)
def TextE (s : ByteArray) (b : Nat) (w : World) (e : Ending) (w' : World) : Prop :=
  (e = .panicked wrongP ∧ Only (fun i => i = b) w w' ∧ ∀ x t, ¬ QuoAt s.data.toList x t) ∨ (∃ a r : ByteArray, e = .returned (.string a) ∧ Blk w' b 9 #[.string r] ∧ Only (fun i => i = b) w w' ∧ a.size ≤ s.size ∧ r.size ≤ s.size ∧ ∀ x t, QuoAt s.data.toList x t → a.data.toList = x ∧ r.data.toList = t)
theorem only_one {w w' : World} (b : Nat) (h : Only NoneOf w w') : Only (fun i => i = b) w w' := h.mono (fun _ _ e => e.elim)
set_option maxRecDepth 100000 in
theorem dword_any (c : UInt8) (b : Nat) (s : ByteArray) (hs : s.size ≤ 100000000) (w : World) (hb : Blk w b 9 #[.string s]) (hsh : w.ShapedOpen Tryz.prog) : Calls Tryz.prog 65 #[.string ⟨#[c]⟩, .pointer (some ⟨b, 0, none⟩)] w (WordE s c b w) := by
  have hcut := Tryz.strings_Cut_shaped s ⟨#[c]⟩ w hsh (by omega)
  rw [show (⟨#[c]⟩ : ByteArray).data.toList = [c] from rfl] at hcut
  obtain ⟨x, y, ok, hx⟩ : ∃ x y ok, Lib.cut s.data.toList [c] = (x, y, ok) := ⟨_, _, _, rfl⟩
  have hsm := cut_small s.data.toList c
  have hwd : ∀ x' t', WordAt s.data.toList c x' t' → x' = x ∧ t' = y ∧ ok = true := fun x' t' h => by
    have h2 := cut_word h
    rw [hx] at h2
    simp only [Prod.mk.injEq] at h2
    exact ⟨h2.1.symm, h2.2.1.symm, h2.2.2⟩
  rw [hx] at hcut hsm
  rw [← size_list] at hsm
  have HCUT := Lib.hid hcut
  have HSM := Lib.hid hsm
  have HWD := Lib.hid hwd
  have HB := Lib.hid hb
  have c0 : w.cell? ⟨b, 0, none⟩ = some (.string s) := hb.cell 0
  clear hcut hsm hwd hb hsh hx
  go_enter Tryz.func65, Tryz.ntmps65
  go_wp2_with fail
  refine HCUT.out.mono ?_
  rintro e w1 ⟨rfl, n, rfl⟩
  have HO := Lib.hid ((Only.refl NoneOf w).drewN n)
  obtain ⟨W, eW⟩ : ∃ W, W = w.drewN n := ⟨_, rfl⟩
  rw [← eW] at HO ⊢
  have hb1 : Blk W b 9 #[.string s] := HB.out.only HO.out (fun e => e)
  have f0 := hb1.frozen 0
  have c1 : W.cell? ⟨b, 0, none⟩ = some (.string s) := hb1.cell 0
  have HB1 := Lib.hid hb1
  clear eW hb1 c0
  cases ok with
  | false =>
    go_wp2_with fail
    refine (need_false _).mono ?_
    rintro e w2 ⟨rfl, hw2⟩
    subst hw2
    go_wp2_with fail
    exact ⟨rfl, .inl ⟨rfl, only_one b HO.out, fun x t h => by cases (HWD.out x t h).2.2⟩⟩
  | true =>
    go_wp2_with fail
    refine (need_true _).mono ?_
    rintro e w2 ⟨rfl, hw2⟩
    subst hw2
    go_wp2_with fail
    go_ret
    exact .inr ⟨_, _, rfl, HB1.out.set_ 0 _, (only_one b HO.out).setCell (p := ⟨b, 0, none⟩) (.inl rfl) _, by rw [size_list]; simpa using HSM.out.1, by rw [size_list]; simpa using HSM.out.2, fun x t h => by obtain ⟨rfl, rfl, _⟩ := HWD.out x t h; simp⟩
set_option maxRecDepth 100000 in
theorem dnum_any (c : UInt8) (hc : c ≠ 45 ∧ (c.toNat < 48 ∨ 57 < c.toNat)) (b v : Nat) (s : ByteArray) (hs : s.size ≤ 100000000) (w : World) (hb : Blk w b 9 #[.string s]) (hv : w.cell? ⟨v, 0, none⟩ = some (wordF b)) (he : EnvB b w) : Calls Tryz.prog 67 #[.string ⟨#[c]⟩, .pointer (some ⟨v, 0, none⟩)] w (NumbE s c b w) := by
  have HW := Lib.hid (dword_any c b s hs w hb he.env.shp)
  have HE := Lib.hid he
  have HB := Lib.hid hb
  clear hb he
  go_enter Tryz.func67, Tryz.ntmps67
  go_wp2_with fail
  refine HW.out.mono ?_
  rintro e w2 (⟨rfl, ho, hno⟩ | ⟨a, r, rfl, hb2, ho, has, hrs, hwd⟩)
  · have HO := Lib.hid ho
    have HNO := Lib.hid hno
    clear ho hno
    go_wp2_with fail
    exact ⟨rfl, .inl ⟨rfl, HO.out, fun m t h => HNO.out _ _ (h.word hc)⟩⟩
  · have he2 : EnvA w2 := (HE.out.next ho).env
    have HE2 := Lib.hid he2
    have HB2 := Lib.hid hb2
    have HO := Lib.hid ho
    have HRS := Lib.hid hrs
    have HWD := Lib.hid hwd
    clear he2 hb2 ho hrs hwd
    go_wp2_with fail
    refine (atoiA_any a (by omega) w2 HE2.out).mono ?_
    rintro e w3 ⟨n, ev, rfl, hcase, ho3⟩
    have HO3 := Lib.hid ho3
    have HB3 := Lib.hid (HB2.out.only ho3 (fun e => e))
    have HOO := Lib.hid (HO.out.trans (only_one b ho3))
    clear ho3
    rcases hcase with ⟨rfl, hn, hu⟩ | ⟨⟨N, rfl⟩, hu⟩
    · have HN := Lib.hid hn
      have HU := Lib.hid hu
      clear hn hu
      go_wp2_with fail
      refine (itoa_any n HN.out.1 HN.out.2 w3 (HE2.out.none HO3.out).tab).mono ?_
      rintro e w4 ⟨u, rfl, hul, ho4⟩
      have HB4 := Lib.hid (HB3.out.only ho4 (fun e => e))
      have HO4 := Lib.hid (HOO.out.trans (only_one b ho4))
      have HUL := Lib.hid hul
      clear ho4 hul
      by_cases heq : Lib.itoa n = a.data.toList
      · have hq : (u.toList == a.toList) = true := by
          rw [Lib.toList_data, Lib.toList_data, HUL.out]; exact beq_iff_eq.2 heq
        clear heq
        go_wp2_with fail
        refine (need_true _).mono ?_
        rintro e w5 ⟨rfl, hw5⟩
        subst hw5
        go_wp2_with fail
        go_ret
        exact .inr ⟨n, r, rfl, HN.out, HB4.out, HO4.out, HRS.out, fun m t h => by
          obtain ⟨h1, h2⟩ := HWD.out _ _ (h.word hc)
          exact ⟨HU.out m h.1 h1, h2⟩⟩
      · have hq : (u.toList == a.toList) = false := by
          rw [Lib.toList_data, Lib.toList_data, HUL.out]; exact beq_eq_false_iff_ne.2 heq
        have HQ := Lib.hid heq
        clear heq
        go_wp2_with fail
        refine (need_false _).mono ?_
        rintro e w5 ⟨rfl, hw5⟩
        subst hw5
        go_wp2_with fail
        exact ⟨rfl, .inl ⟨rfl, HO4.out, fun m t h => by
          obtain ⟨h1, h2⟩ := HWD.out _ _ (h.word hc)
          have h3 := HU.out m h.1 h1
          subst h3
          exact HQ.out h1.symm⟩⟩
    · have HU := Lib.hid hu
      clear hu
      go_wp2_with fail
      refine (need_false _).mono ?_
      rintro e w5 ⟨rfl, hw5⟩
      subst hw5
      go_wp2_with fail
      exact ⟨rfl, .inl ⟨rfl, HOO.out, fun m t h => by
        obtain ⟨h1, h2⟩ := HWD.out _ _ (h.word hc)
        exact HU.out m h.1 h1⟩⟩
end Go.Proofs.YtclpebgjmgfigaaGreatDoor
