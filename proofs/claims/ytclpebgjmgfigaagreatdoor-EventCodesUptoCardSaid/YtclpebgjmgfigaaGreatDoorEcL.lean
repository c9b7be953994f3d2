/- What is proved here: how the reference's reader takes a number and a quoted text. Conditions: the text is short. -/
import Derived.Test.YtclpebgjmgfigaaGreatDoorEcG
import Derived.Test.YtclpebgjmgfigaaGreatDoorEcH
namespace Go.Proofs.YtclpebgjmgfigaaGreatDoor
open Go.RowKit Go.Shelf
set_option maxRecDepth 100000 in
set_option maxHeartbeats 1000000 in
theorem rrnumb_any (s : ByteArray) (hs : s.size ≤ 100000000) (ok : Bool) (c : UInt8) (hc : c ≠ 45 ∧ (c.toNat < 48 ∨ 57 < c.toNat)) (R : Nat) (w : World) (hb : Blk w R tRdr #[.string s, .bool ok]) : Calls Tryz.prog 42 #[.pointer (some ⟨R, 0, none⟩), .int .u8 (c.toNat : Int)] w (RNumbE s ok c R w) := by
  have HW := Lib.hid (rrword_any s hs ok c R w hb)
  clear hb
  go_enter Tryz.func42, Tryz.ntmps42
  go_wp2_with fail
  refine HW.out.mono ?_
  rintro e w1 ⟨a, r, k, rfl, hb1, ho1, hsa, hsr, hw⟩
  have HB1 := Lib.hid hb1
  have HO1 := Lib.hid ho1
  have HSR := Lib.hid hsr
  have HWD := Lib.hid hw
  clear hb1 ho1 hsr hw
  go_wp2_with fail
  refine (parse01_any a (by omega) w1).mono ?_
  rintro e w2 ⟨x, y, pk, rfl, hx, hy, hp, ho2⟩
  have HX := Lib.hid hx
  have HP := Lib.hid hp
  obtain ⟨V, eV⟩ : ∃ V, V = w2.alloc (.cells #[.int .i64 x, .int .i64 y] tRat) := ⟨_, rfl⟩
  have hv : Only NoneOf w1 V := by rw [eV]; exact ho2.alloc _
  have hbv := HB1.out.only hv (fun e => e)
  have HV := Lib.hid (HO1.out.trans (hv.mono (fun _ _ e => e.elim)))
  have a0 : V.cell? ⟨w2.heap.size, 0, none⟩ = some (.int .i64 x) := by rw [eV]; exact (Blk.new w2 _ _).cell 0
  have a1 : V.cell? ⟨w2.heap.size, 1, none⟩ = some (.int .i64 y) := by rw [eV]; exact (Blk.new w2 _ _).cell 1
  have r0 := hbv.cell 0
  have r1 := hbv.cell 1
  have f1 := hbv.frozen 1
  have HB2 := Lib.hid (HB1.out.only ho2 (fun e => e))
  have HO2 := Lib.hid (HO1.out.trans (ho2.mono (fun _ _ e => e.elim)))
  clear hx hy hp ho2 hv hbv
  have hfail : pk = false ∨ y ≠ 1 ∨ Lib.itoa x ≠ a.data.toList → ∀ m t, ¬ NumAt s.data.toList c m t := fun h m t hm => by
    obtain ⟨h1, _, _⟩ := HWD.out _ _ (hm.word hc)
    obtain ⟨h2, h3, h4⟩ := HP.out m hm.1 h1
    rcases h with h | h | h
    · rw [h4] at h; cases h
    · exact h h3
    · exact h (by rw [h2, h1])
  have HF := Lib.hid hfail
  clear hfail
  rw [eV] at a0 a1 r0 r1 f1
  cases pk with
  | false =>
    have HFF := Lib.hid (HF.out (.inl rfl))
    go_wp2_with fail
    go_ret
    exact ⟨0, r, false, rfl, in_zero, (HB2.out.alloc _).set_ 1 _, (HO2.out.alloc _).setCell (p := ⟨R, 1, none⟩) (.inl rfl) _, HSR.out, fun m t hm => (HFF.out m t hm).elim⟩
  | true =>
    by_cases hy1 : y = 1
    · subst hy1
      go_wp2_with fail
      refine (text_one x HX.out.1 HX.out.2 _).mono ?_
      rintro e w3 ⟨t, rfl, htl, ho3⟩
      have HTL := Lib.hid htl
      have hb3 := (HB2.out.alloc (.cells #[.int .i64 x, .int .i64 1] tRat)).only ho3 (fun e => e)
      have HO3 := Lib.hid ((HO2.out.alloc (.cells #[.int .i64 x, .int .i64 1] tRat)).trans (ho3.mono (fun _ _ e => e.elim)))
      have b0 := ho3.cell_some a0 (fun e => e)
      have s1 := hb3.cell 1
      have g1 := hb3.frozen 1
      have HB3 := Lib.hid hb3
      clear htl ho3 hb3 a0 a1 r0 r1 f1
      by_cases heq : Lib.itoa x = a.data.toList
      · have hq : (t.toList == a.toList) = true := by
          rw [Lib.toList_data, Lib.toList_data, HTL.out]; exact beq_iff_eq.2 heq
        clear heq
        go_wp2_with fail
        go_ret
        exact ⟨x, r, k, rfl, HX.out, HB3.out, HO3.out, HSR.out, fun m t hm => by
          obtain ⟨h1, h2, h3⟩ := HWD.out _ _ (hm.word hc)
          exact ⟨(HP.out m hm.1 h1).1, h2, h3⟩⟩
      · have hq : (t.toList == a.toList) = false := by
          rw [Lib.toList_data, Lib.toList_data, HTL.out]; exact beq_eq_false_iff_ne.2 heq
        have HFF := Lib.hid (HF.out (.inr (.inr heq)))
        clear heq
        go_wp2_with fail
        go_ret
        exact ⟨0, r, false, rfl, in_zero, HB3.out.set_ 1 _, HO3.out.setCell (p := ⟨R, 1, none⟩) (.inl rfl) _, HSR.out, fun m t hm => (HFF.out m t hm).elim⟩
    · have HFF := Lib.hid (HF.out (.inr (.inl hy1)))
      have hy2 : (y == 1) = false := by rw [beq_eq_false_iff_ne]; exact hy1
      have hy3 : (y != 1) = true := by simp [hy1]
      go_wp2_with fail
      go_ret
      exact ⟨0, r, false, rfl, in_zero, (HB2.out.alloc _).set_ 1 _, (HO2.out.alloc _).setCell (p := ⟨R, 1, none⟩) (.inl rfl) _, HSR.out, fun m t hm => (HFF.out m t hm).elim⟩
set_option maxRecDepth 100000 in
set_option maxHeartbeats 1000000 in
theorem rrtext_any (s : ByteArray) (hs : s.size ≤ 100000000) (ok : Bool) (R : Nat) (w : World) (hb : Blk w R tRdr #[.string s, .bool ok]) : Calls Tryz.prog 45 #[.pointer (some ⟨R, 0, none⟩)] w (RTextE s ok R w) := by
  have hn := rrnumb_any s hs ok 58 colon_ok R w hb
  have HN := Lib.hid hn
  clear hb hn
  go_enter Tryz.func45, Tryz.ntmps45
  go_wp2_with fail
  refine HN.out.mono ?_
  rintro e w1 ⟨n, r, k, rfl, hn, hb1, ho1, hsr, hw⟩
  have r0 := hb1.cell 0
  have r1 := hb1.cell 1
  have f0 := hb1.frozen 0
  have f1 := hb1.frozen 1
  have HB1 := Lib.hid hb1
  have HO1 := Lib.hid ho1
  have HSR := Lib.hid hsr
  have HW := Lib.hid hw
  have HIN := Lib.hid hn
  clear hb1 ho1 hsr hw hn
  have hq : ∀ x t, QuoAt s.data.toList x t → n = x.length ∧ r.data.toList = x ++ t ∧ k = ok := fun x t h => HW.out _ _ h.num
  have HQ := Lib.hid hq
  clear hq
  cases k with
  | false =>
    go_wp2_with fail
    go_ret
    exact ⟨_, r, false, rfl, HB1.out.set_ 1 _, HO1.out.setCell (p := ⟨R, 1, none⟩) (.inl rfl) _, Nat.zero_le _, HSR.out, fun hk x t h => by have := (HQ.out x t h).2.2; rw [hk] at this; cases this⟩
  | true =>
    by_cases hneg : n < 0
    · go_wp2_with fail
      go_ret
      exact ⟨_, r, false, rfl, HB1.out.set_ 1 _, HO1.out.setCell (p := ⟨R, 1, none⟩) (.inl rfl) _, Nat.zero_le _, HSR.out, fun hk x t h => by have := (HQ.out x t h).1; omega⟩
    · obtain ⟨N, rfl⟩ : ∃ N : Nat, n = (N : Int) := ⟨n.toNat, by omega⟩
      have hneg2 : decide ((N : Int) < 0) = false := decide_eq_false hneg
      by_cases hbig : r.size < N
      · have hb2 : (r.size : Int) < (N : Int) := by omega
        go_wp2_with fail
        go_ret
        exact ⟨_, r, false, rfl, HB1.out.set_ 1 _, HO1.out.setCell (p := ⟨R, 1, none⟩) (.inl rfl) _, Nat.zero_le _, HSR.out, fun hk x t h => by
          obtain ⟨h1, h2, _⟩ := HQ.out x t h
          have := congrArg List.length h2
          rw [List.length_append, ← size_list] at this
          omega⟩
      · have hb2 : ¬ (r.size : Int) < (N : Int) := by omega
        have n0 : (0 : Int) ≤ (N : Int) := by omega
        have n1 : (N : Int) ≤ (r.size : Int) := by omega
        go_wp2_with fail
        go_ret
        exact ⟨_, _, true, rfl, HB1.out.set_ 0 _, HO1.out.setCell (p := ⟨R, 0, none⟩) (.inl rfl) _, by rw [ByteArray.size_extract]; have := HSR.out; omega, by rw [ByteArray.size_extract]; have := HSR.out; omega, fun hk x t h => by
          obtain ⟨h1, h2, h3⟩ := HQ.out x t h
          have hl : N = x.length := by omega
          have hr : r.data.toList.length = r.size := by simp
          refine ⟨?_, ?_, rfl⟩
          · simp [h2, hl]
          · have h5 := congrArg List.length h2
            rw [List.length_append, hr] at h5
            simp [h2, hl]
            exact List.take_of_length_le (by omega)⟩
end Go.Proofs.YtclpebgjmgfigaaGreatDoor
