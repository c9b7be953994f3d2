/- What is proved here: how the program reads a quoted text of a code, or panics. Conditions: the text is short; the library's variables hold what their initialisers lay. -/
import Derived.Test.YtclpebgjmgfigaaGreatDoorEcD
namespace Go.Proofs.YtclpebgjmgfigaaGreatDoor
open Go.RowKit Go.Shelf
abbrev numF (c : Nat) : Value := .func (.func 67) #[] #[.pointer (some ⟨c, 0, none⟩)]
set_option maxRecDepth 100000 in
set_option maxHeartbeats 1000000 in
theorem dtxt_any (b c d : Nat) (_hcb : c ≠ b) (s : ByteArray) (hs : s.size ≤ 100000000) (w : World) (hb : Blk w b 9 #[.string s]) (hc : w.cell? ⟨c, 0, none⟩ = some (wordF b)) (hd : w.cell? ⟨d, 0, none⟩ = some (numF c)) (he : EnvB b w) : Calls Tryz.prog 69 #[.pointer (some ⟨d, 0, none⟩), .pointer (some ⟨b, 0, none⟩)] w (TextE s b w) := by
  have HN := Lib.hid (dnum_any 58 colon_ok b c s hs w hb hc he)
  have HB := Lib.hid hb
  clear hb hc he
  go_enter Tryz.func69, Tryz.ntmps69
  go_wp2_with fail
  refine HN.out.mono ?_
  rintro e w1 (⟨rfl, ho, hno⟩ | ⟨n, r, rfl, hn, hb1, ho1, hsr, hw⟩)
  · have HO := Lib.hid ho
    have HNO := Lib.hid hno
    clear ho hno
    go_wp2_with fail
    exact ⟨rfl, .inl ⟨rfl, HO.out, fun x t h => HNO.out _ _ h.num⟩⟩
  · have r0 := hb1.cell 0
    have f0 := hb1.frozen 0
    have HB1 := Lib.hid hb1
    have HO1 := Lib.hid ho1
    have HSR := Lib.hid hsr
    have HIN := Lib.hid hn
    have hq : ∀ x t, QuoAt s.data.toList x t → n = x.length ∧ r.data.toList = x ++ t := fun x t h => hw _ _ h.num
    have HQ := Lib.hid hq
    clear hb1 ho1 hsr hw hn hq
    by_cases hneg : n < 0
    · have hneg2 : decide (0 ≤ n) = false := decide_eq_false (by omega)
      have hneg3 : ¬ 0 ≤ n := by omega
      go_wp2_with fail
      refine (need_false _).mono ?_
      rintro e w5 ⟨rfl, hw5⟩
      subst hw5
      go_wp2_with fail
      exact ⟨rfl, .inl ⟨rfl, HO1.out, fun x t h => by have := (HQ.out x t h).1; omega⟩⟩
    · obtain ⟨N, rfl⟩ : ∃ N : Nat, n = (N : Int) := ⟨n.toNat, by omega⟩
      have hneg2 : decide ((0 : Int) ≤ (N : Int)) = true := decide_eq_true (by omega)
      by_cases hbig : r.size < N
      · have hb2 : ¬ (N : Int) ≤ (r.size : Int) := by omega
        have hb3 : ¬ N ≤ r.size := by omega
        go_wp2_with fail
        refine (need_false _).mono ?_
        rintro e w5 ⟨rfl, hw5⟩
        subst hw5
        go_wp2_with fail
        exact ⟨rfl, .inl ⟨rfl, HO1.out, fun x t h => by
          obtain ⟨h1, h2⟩ := HQ.out x t h
          have := congrArg List.length h2
          rw [List.length_append, ← size_list] at this
          omega⟩⟩
      · have n0 : (0 : Int) ≤ (N : Int) := by omega
        have n1 : (N : Int) ≤ (r.size : Int) := by omega
        have n2 : N ≤ r.size := by omega
        go_wp2_with fail
        refine (need_true _).mono ?_
        rintro e w5 ⟨rfl, hw5⟩
        subst hw5
        go_wp2_with fail
        go_ret
        exact .inr ⟨_, _, rfl, HB1.out.set_ 0 _, HO1.out.setCell (p := ⟨b, 0, none⟩) (.inl rfl) _, by rw [ByteArray.size_extract]; have := HSR.out; omega, by rw [ByteArray.size_extract]; have := HSR.out; omega, fun x t h => by
          obtain ⟨h1, h2⟩ := HQ.out x t h
          have hl : N = x.length := by omega
          have hr : r.data.toList.length = r.size := by simp
          refine ⟨?_, ?_⟩
          · simp [h2, hl]
          · have h5 := congrArg List.length h2
            rw [List.length_append, hr] at h5
            simp [h2, hl]
            exact List.take_of_length_le (by omega)⟩
end Go.Proofs.YtclpebgjmgfigaaGreatDoor
