/- What is proved here: a signature read off a text, by the reference. Condition: the text is short. -/
import Derived.Test.YtmgbcjjemlcfgaaDoorSignM
import Derived.Test.YtmgbcjjemlcfgaaDoorSignI
namespace Go.Proofs.YtmgbcjjemlcfgaaDoor
open Go.RowKit Go.Shelf
theorem split_at {l : List UInt8} {q : Nat} (hc : l[q]? = some 46) : l = l.take q ++ 46 :: l.drop (q + 1) := by
  have hq : q < l.length := (List.getElem?_eq_some_iff.1 hc).1
  have h : l.drop q = 46 :: l.drop (q + 1) := by
    rw [List.drop_eq_getElem_cons hq]
    rw [List.getElem?_eq_getElem hq] at hc
    injection hc with hc
    rw [hc]
  rw [← h, List.take_append_drop]
theorem parts_of {l : List UInt8} {q : Nat} {r s : Int} (hc : l[q]? = some 46) (hn : ∀ c ∈ l.take q, c ≠ 46) (h : IsText l r s) : l.take q = Lib.itoa r ∧ l.drop (q + 1) = Lib.itoa s := by
  have h1 : Lib.cut l [46] = (l.take q, l.drop (q + 1), true) := by
    conv => lhs; rw [split_at hc]
    exact cut_dot hn
  obtain ⟨hr, _, e⟩ := h
  have h2 := text_cut (s := s) hr
  rw [← e, h1] at h2
  simp only [Prod.mk.injEq, and_true] at h2
  exact h2
theorem text_of {l : List UInt8} {q : Nat} {r s : Int} (hc : l[q]? = some 46) (hr : In r) (hs : In s) (h1 : l.take q = Lib.itoa r) (h2 : l.drop (q + 1) = Lib.itoa s) : IsText l r s :=
  ⟨hr, hs, by rw [split_at hc, h1, h2]; rfl⟩
theorem no_dot {l : List UInt8} (hn : ∀ c ∈ l, c ≠ 46) : ∀ r s, ¬ IsText l r s := fun r s ⟨_, _, e⟩ => hn 46 (by rw [e]; unfold textOf; simp) rfl
/-- What holds ahead of the first dot. -/
def DotR (t : ByteArray) (X : World) (j : Value) (wr : World) : Prop :=
  ∃ q : Nat, q ≤ t.size ∧ j = .int .i64 (q : Int) ∧ (∀ c ∈ t.data.toList.take q, c ≠ 46) ∧ wr = X
theorem take_next {l : List UInt8} {q : Nat} {c : UInt8} (hn : ∀ x ∈ l.take q, x ≠ 46) (hc : l[q]? = some c) (hne : c ≠ 46) : ∀ x ∈ l.take (q + 1), x ≠ 46 := by
  intro x hx
  rw [List.take_add_one, hc, Option.toList_some] at hx
  rcases List.mem_append.1 hx with h | h
  · exact hn x h
  · rw [List.mem_singleton.1 h]; exact hne
set_option maxRecDepth 100000 in
set_option maxHeartbeats 1000000 in
theorem rread_any (t : ByteArray) (ht : t.size ≤ 1048576) (w : World) : Calls Tryd.prog 24 #[.string t] w fun e w' => ReadEnd t.data.toList e ∧ Only NoneOf w w' := by
  have hx : Only NoneOf w (w.alloc (.cells #[.int .i64 0, .int .i64 0] tSig)) := (Only.refl _ _).alloc _
  have hb := Blk.new w tSig #[.int .i64 0, .int .i64 0]
  obtain ⟨B, eB⟩ : ∃ B, B = w.heap.size := ⟨_, rfl⟩
  obtain ⟨X, eX⟩ : ∃ X, X = w.alloc (.cells #[.int .i64 0, .int .i64 0] tSig) := ⟨_, rfl⟩
  rw [← eX] at hx hb
  rw [← eB] at hb
  have HX := Lib.hid hx
  have HB := Lib.hid hb
  have EB := Lib.hid eB
  have BW : w.heap.size ≤ B := Nat.le_of_eq eB.symm
  have HBW := Lib.hid BW
  clear hx hb BW
  go_enter Tryd.func24, Tryd.ntmps24
  go_wp2_with fail
  rw [← eX, ← eB]
  clear eX eB
  go_loopw [4] (fun j wr => DotR t X j wr) (fun j _ => t.size - (intOf j).toNat)
  case atStart => exact ⟨0, by omega, rfl, fun c hc => by simp at hc, rfl⟩
  case round =>
    obtain ⟨q, hqs, rfl, hn, rfl⟩ := hrel
    by_cases hlt : q < t.size
    · have hg := str_get t q hlt
      obtain ⟨c, hc⟩ : ∃ c, t[q] = c := ⟨_, rfl⟩
      rw [hc] at hg
      have q0 : (0 : Int) ≤ (q : Int) := by omega
      have q1 : (q : Int) < (t.size : Int) := by omega
      have wq : IntKind.i64.wrap ((q : Int) + 1) = (q : Int) + 1 := IntWalk.i64_in _ (by omega)
      by_cases h46 : c = 46
      · subst h46
        have e46 : ((46 : UInt8).toNat : Int) = 46 := rfl
        have q2 : (q : Int) ≤ (t.size : Int) := by omega
        have q3 : (q : Int) + 1 ≤ (t.size : Int) := by omega
        have hA := rnum_any (t.extract 0 q) (by rw [ByteArray.size_extract]; omega)
        have hD := rnum_any (t.extract (q + 1) t.size) (by rw [ByteArray.size_extract]; omega)
        rw [extract_upto] at hA
        rw [extract_from] at hD
        have HP := Lib.hid (fun r s h => parts_of (r := r) (s := s) hg hn h)
        have HT := Lib.hid (fun r s => text_of (r := r) (s := s) hg)
        have HA := Lib.hid hA
        have HD := Lib.hid hD
        clear hg hn hA hD
        go_wp2_with fail
        refine (HA.out _).mono ?_
        rintro e w1 ⟨hE1, ho1⟩
        have HB1 := Lib.hid (HB.out.only ho1 (fun e => e))
        have HO1 := Lib.hid (HX.out.trans ho1)
        clear ho1
        rcases hE1 with ⟨r, hr, h1, rfl⟩ | ⟨hno1, v, rfl⟩
        · have HR := Lib.hid (And.intro hr h1)
          clear hr h1
          go_wp2_with fail
          refine (HD.out _).mono ?_
          rintro e w2 ⟨hE2, ho2⟩
          have hb2 := HB1.out.only ho2 (fun e => e)
          have HB2 := Lib.hid hb2
          have HO2 := Lib.hid (HO1.out.trans ho2)
          have c0 := hb2.cell 0
          have c1 := hb2.cell 1
          have f0 := hb2.frozen 0
          have f1 := hb2.frozen 1
          clear ho2 hb2
          rcases hE2 with ⟨s, hs, h2, rfl⟩ | ⟨hno2, v, rfl⟩
          · have HN := Lib.hid (HT.out r s HR.out.1 hs HR.out.2 h2)
            clear hs h2
            go_wp2_with fail
            have h8 := (HB2.out.set_ 0 (.int .i64 r)).set_ 1 (.int .i64 s)
            refine bodyPost_ret (v := .tuple #[sgv r s, .bool true]) (read_res rfl rfl rfl h8) rfl ⟨.inl ⟨r, s, HN.out, rfl⟩, (HO2.out.setCell (p := ⟨B, 0, none⟩) (.inr HBW.out) _).setCell (p := ⟨B, 1, none⟩) (.inr HBW.out) _⟩
          · have HN := Lib.hid (fun r' s' h => hno2 s' (h : IsText t.data.toList r' s').2.1 (HP.out r' s' h).2)
            clear hno2
            go_wp2_with fail
            have h8 := (HB2.out.set_ 0 (.int .i64 0)).set_ 1 (.int .i64 0)
            refine bodyPost_ret (v := .tuple #[sgv 0 0, .bool false]) (read_res rfl rfl rfl h8) rfl ⟨.inr ⟨HN.out, rfl⟩, (HO2.out.setCell (p := ⟨B, 0, none⟩) (.inr HBW.out) _).setCell (p := ⟨B, 1, none⟩) (.inr HBW.out) _⟩
        · have HN := Lib.hid (fun r' s' h => hno1 r' (h : IsText t.data.toList r' s').1 (HP.out r' s' h).1)
          clear hno1
          go_wp2_with fail
          refine (HD.out _).mono ?_
          rintro e w2 ⟨hE2, ho2⟩
          have hb2 := HB1.out.only ho2 (fun e => e)
          have HB2 := Lib.hid hb2
          have HO2 := Lib.hid (HO1.out.trans ho2)
          have c0 := hb2.cell 0
          have c1 := hb2.cell 1
          have f0 := hb2.frozen 0
          have f1 := hb2.frozen 1
          clear ho2 hb2
          rcases hE2 with ⟨s, hs, h2, rfl⟩ | ⟨hno2, v, rfl⟩
          · clear hs h2
            go_wp2_with fail
            have h8 := (HB2.out.set_ 0 (.int .i64 0)).set_ 1 (.int .i64 0)
            refine bodyPost_ret (v := .tuple #[sgv 0 0, .bool false]) (read_res rfl rfl rfl h8) rfl ⟨.inr ⟨HN.out, rfl⟩, (HO2.out.setCell (p := ⟨B, 0, none⟩) (.inr HBW.out) _).setCell (p := ⟨B, 1, none⟩) (.inr HBW.out) _⟩
          · clear hno2
            go_wp2_with fail
            have h8 := (HB2.out.set_ 0 (.int .i64 0)).set_ 1 (.int .i64 0)
            refine bodyPost_ret (v := .tuple #[sgv 0 0, .bool false]) (read_res rfl rfl rfl h8) rfl ⟨.inr ⟨HN.out, rfl⟩, (HO2.out.setCell (p := ⟨B, 0, none⟩) (.inr HBW.out) _).setCell (p := ⟨B, 1, none⟩) (.inr HBW.out) _⟩
      · have e46 : ¬ (c.toNat : Int) = 46 := fun h => h46 (UInt8.toNat_inj.1 (by show c.toNat = 46; omega))
        have FIN : Hid (DotR t wr (.int .i64 ((q : Int) + 1)) wr) := Lib.hid ⟨q + 1, by omega, by simp, take_next hn hg h46, rfl⟩
        clear hg hn h46
        go_wp2_with fail
        go_roundw
        case rel => exact FIN.out
        case measure => simp [intOf]; omega
    · obtain rfl : q = t.size := by omega
      have hno := no_dot (l := t.data.toList) (by rw [← size_len t, List.take_length] at hn; exact hn)
      have HN := Lib.hid hno
      have c0 := HB.out.cell 0
      have c1 := HB.out.cell 1
      have f0 := HB.out.frozen 0
      have f1 := HB.out.frozen 1
      clear hn hno
      go_wp2_with fail
      have h8 := (HB.out.set_ 0 (.int .i64 0)).set_ 1 (.int .i64 0)
      refine bodyPost_ret (v := .tuple #[sgv 0 0, .bool false]) (read_res rfl rfl rfl h8) rfl ⟨.inr ⟨HN.out, rfl⟩, (HX.out.setCell (p := ⟨B, 0, none⟩) (.inr HBW.out) _).setCell (p := ⟨B, 1, none⟩) (.inr HBW.out) _⟩
end Go.Proofs.YtmgbcjjemlcfgaaDoor
