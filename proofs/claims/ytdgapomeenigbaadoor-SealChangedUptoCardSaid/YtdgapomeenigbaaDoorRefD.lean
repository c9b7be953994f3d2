/- What is proved here: how the reference of layer 1 divides a row of digits by one. Conditions: the rows read as digits. -/
import Derived.Test.YtdgapomeenigbaaDoorRefC
namespace Go.Proofs.YtdgapomeenigbaaDoor
open Go.RowKit
theorem minus_nil {va vb : Value} {w : World} (ha : Rd w va []) (hb : Rd w vb []) :
    Calls Tryd.prog 84 #[va, vb] w (RetRd [] w) := by
  obtain ⟨a, c, rfl, ha1, ha2⟩ := ha.form
  obtain ⟨b, d, rfl, hb1, hb2⟩ := hb.form
  clear ha hb
  go_enter Tryd.func84, Tryd.ntmps84
  go_wp2_with fail
  go_loop [5, 7] (fun u v => u = .slice none 0 0 ∧ v = .int .i64 0) (fun _ _ => 0)
  case atStart => exact ⟨rfl, rfl⟩
  case round =>
    obtain ⟨rfl, rfl⟩ := hrel
    go_wp2_with fail
    refine (trim_any (Rd.nil _)).mono ?_
    rintro e w' ⟨v', rfl, hv, hw⟩
    rw [hw]
    rw [trimL_nil] at hv
    have HV := Lib.hid hv
    clear hv hw
    go_wp2_with fail
    go_ret
    exact ⟨v', rfl, HV.out, Only.refl _ _⟩
set_option maxRecDepth 100000 in
set_option maxHeartbeats 400000 in
theorem minus_one {va vb : Value} {d : Nat} {w : World} (ha : Rd w va [d]) (hb : Rd w vb [d]) (hd : d < 65536) :
    Calls Tryd.prog 84 #[va, vb] w (RetRd [] w) := by
  obtain ⟨a, ca, rfl, ha1, ha2, hal, hac⟩ := ha.cells (by simp)
  obtain ⟨b, cb, rfl, hb1, hb2, hbl, hbc⟩ := hb.cells (by simp)
  have CA := Lib.hid (hac 0 d rfl)
  have CB := Lib.hid (hbc 0 d rfl)
  simp only [List.length_singleton] at ha1 hb1
  clear ha hb hac hbc
  obtain ⟨i0, hi0, hz0, hz1, hz2⟩ := info_parts info_i64
  go_enter Tryd.func84, Tryd.ntmps84
  go_wp2_with fail
  go_loopw [5, 6, 7] (fun u b v wr => ∃ k : Nat, k ≤ 1 ∧ v = .int .i64 k ∧ b = .int .i64 0 ∧ wr.ownsRow w.heap.size 3 1 u k ((List.replicate k 0).map dv) ∧ Only NoneOf w wr) (fun _ _ v _ => 2 - (intOf v).toNat)
  case atStart => exact ⟨0, by omega, rfl, rfl, World.ownsRow_nil _ _ _ _, Only.refl _ _⟩
  case round =>
    obtain ⟨k, hk, rfl, rfl, hown, ho⟩ := hrel
    rcases Nat.eq_zero_or_pos k with h0 | h0
    · subst h0
      have c1 : wr.cell? ⟨a, 0, none⟩ = some (.int .i64 (d : Int)) := ho.cell_some CA.out (fun e => e)
      have c2 : wr.cell? ⟨b, 0, none⟩ = some (.int .i64 (d : Int)) := ho.cell_some CB.out (fun e => e)
      have HOWN := Lib.hid hown
      have HO := Lib.hid ho
      have hsz := ho.size
      have hdd : IntKind.i64.wrap ((d : Int) - (d : Int)) = 0 := by rw [Int.sub_self]; rfl
      clear hown ho
      go_wp2_with (at_builtin; refine wpList_append_own _ rfl _ _ 36 rfl w.heap.size 3 i0 _ 1 8 Tryd.underlying36 hi0 hz0 hz1 hz2 rfl (by decide) u5 0 [] rfl (by exact (HOWN.out.alloc _)) ⟨wr.heap.size, 0, none⟩ 1 1 [.int .i64 0] rfl rfl (World.news_of_block (cs := #[.int .i64 0]) (t := 3) (fr := (0, 0)) (by simpa using heap_alloc_new wr _)) (by simp [Value.oneCell']) (by rw [maxLen_val]; omega) (by omega) (by simp; omega) ?_; intro v' w1 hown1 hgrow _)
      go_roundw
      case rel => exact ⟨1, by omega, rfl, rfl, hown1, ((HO.out.alloc _).grown hgrow (fun k hk => .inr ((HOWN.out.lt k hk).1)))⟩
      case measure => simp [intOf]
    · obtain rfl : k = 1 := by omega
      have hr : Rd wr u5 [0] := Rd.of_own hown
      have HR := Lib.hid hr
      have HO := Lib.hid ho
      clear hr hown ho
      go_wp2_with fail
      refine (trim_any HR.out).mono ?_
      rintro e w' ⟨v', rfl, hv, hw⟩
      rw [hw]
      rw [trimL_one, if_pos rfl] at hv
      have HV := Lib.hid hv
      clear hv hw
      go_wp2_with fail
      go_ret
      exact ⟨v', rfl, HV.out, HO.out⟩
/-- The quotient's digits when those from k on have been found. -/
def qRow (D : List Nat) (k : Nat) : List Nat := List.replicate k 0 ++ D.drop k
theorem qRow_len {D : List Nat} {k : Nat} (h : k ≤ D.length) : (qRow D k).length = D.length := by simp [qRow]; omega
theorem qRow_set {D : List Nat} {k d : Nat} (hd : D[k]? = some d) : ((qRow D (k + 1)).map dv).toArray.setIfInBounds k (dv d) = ((qRow D k).map dv).toArray := by
  have hk : k < D.length := (List.getElem?_eq_some_iff.1 hd).1
  rw [List.setIfInBounds_toArray, ← List.map_set, qRow, qRow, List.set_append_left _ _ (by simp), List.replicate_succ', List.set_append_right _ _ (by simp), List.length_replicate, Nat.sub_self, List.set_cons_zero, List.append_assoc, List.singleton_append]
  congr 4
  rw [List.drop_eq_getElem_cons hk]
  congr 1
  exact (List.getElem?_eq_some_iff.1 hd).2.symm
theorem qRow_zero (D : List Nat) : qRow D 0 = D := by simp [qRow]
theorem qRow_all (D : List Nat) : qRow D D.length = List.replicate D.length 0 := by simp [qRow]
def OverI (w : World) (D : List Nat) (Q : Nat) (k : Nat) (r : Value) (wr : World) : Prop :=
  Rd wr r [] ∧ Blk wr Q 3 ((qRow D k).map dv).toArray ∧ Only NoneOf w wr
def BisI (w : World) (d : Nat) (low high : Nat) (wr : World) : Prop := low ≤ d ∧ d < high ∧ high ≤ 65536 ∧ Only NoneOf w wr
theorem cmp_le {m d : Nat} : decide ((if m = d then (0 : Int) else if m < d then -1 else 1) ≤ 0) = decide (m ≤ d) := by
  by_cases h1 : m = d
  · simp [h1]
  · by_cases h2 : m < d
    · rw [if_neg h1, if_pos h2]; simp; omega
    · rw [if_neg h1, if_neg h2]; simp; omega
theorem compare_none {va vb : Value} {w : World} (ha : Rd w va []) (hb : Rd w vb [1]) :
    Calls Tryd.prog 82 #[va, vb] w fun e w' => e = .returned (.int .i64 (-1)) ∧ ∃ q, w' = w.drewN q :=
  (compare_len ha hb (by simp)).mono fun _ _ ⟨he, hq⟩ => ⟨by rw [he, if_pos (by simp)], hq⟩
theorem compare_ge {va vb : Value} {d : Nat} {w : World} (ha : Rd w va [d]) (hb : Rd w vb [1]) (hd0 : 0 < d) (hd : d < 65536) :
    Calls Tryd.prog 82 #[va, vb] w fun e w' => ∃ c : Int, e = .returned (.int .i64 c) ∧ 0 ≤ c ∧ ∃ q, w' = w.drewN q :=
  (compare_one ha hb hd (by omega)).mono fun _ _ ⟨he, hq⟩ => ⟨_, he, by split <;> (try split) <;> omega, hq⟩
theorem compare_le {va vb : Value} {m d : Nat} {w : World} (ha : Rd w va [m]) (hb : Rd w vb [d]) (hm : m < 65536) (hd : d < 65536) :
    Calls Tryd.prog 82 #[va, vb] w fun e w' => ∃ c : Int, e = .returned (.int .i64 c) ∧ (c ≤ 0 ↔ m ≤ d) ∧ ∃ q, w' = w.drewN q :=
  (compare_one ha hb hm hd).mono fun _ _ ⟨he, hq⟩ => ⟨_, he, by have := cmp_le (m := m) (d := d); simpa using this, hq⟩
theorem by_zero {va : Value} {w : World} (ha : Rd w va [1]) : Calls Tryd.prog 83 #[va, .int .i64 0] w (RetRd [] w) := by_any (m := 0) ha (by omega)
theorem by_pos {va : Value} {m : Nat} {w : World} (ha : Rd w va [1]) (h0 : 0 < m) (hm : m < 65536) : Calls Tryd.prog 83 #[va, .int .i64 (m : Int)] w (RetRd [m] w) := by
  have h := by_any ha hm
  rwa [trimL_one, if_neg (by omega)] at h
set_option maxRecDepth 100000 in
set_option maxHeartbeats 1000000 in
theorem over_one {va vb : Value} {D : List Nat} {w : World} (ha : Rd w va D) (hb : Rd w vb [1]) (hD : ∀ d ∈ D, d < 65536) (hT : trimL D = D) (hl : D.length ≤ 1000) :
    Calls Tryd.prog 72 #[va, vb] w fun e w' => ∃ q r, e = .returned (.tuple #[q, r]) ∧ Rd w' q D ∧ Rd w' r [] ∧ Only NoneOf w w' := by
  have HA := Lib.hid ha
  have HB := Lib.hid hb
  have HD := Lib.hid hD
  have HTT := Lib.hid hT
  obtain ⟨i0, hi0, hz0, hz1, hz2⟩ := info_parts info_i64
  have hmk := run_make_row' (P := Tryd.prog) 36 3 (.int .i64 0) 8 Tryd.underlying36 info_i64 rfl .i64 .i64 D.length (by omega) (by omega) w
  rw [madeInts, ← qRow_all] at hmk
  obtain ⟨a, ca, rfl, ha1, ha2⟩ := ha.form
  obtain ⟨b, cb, rfl, hb1, hb2⟩ := hb.form
  clear ha hb hD hT
  go_enter Tryd.func72, Tryd.ntmps72
  go_wp2_with fail
  obtain ⟨Q, eQ⟩ : ∃ Q, Q = w.heap.size := ⟨_, rfl⟩
  have H0 : Hid (OverI w D Q D.length (.slice none 0 0) (w.alloc (.cells ((qRow D D.length).map dv).toArray 3))) :=
    Lib.hid ⟨Rd.nil _, by rw [eQ]; exact Blk.new w _ _, (Only.refl NoneOf w).alloc _⟩
  rw [← eQ]
  have EQ := Lib.hid eQ
  clear hmk eQ
  go_loopw [7, 8] (fun r v wr => ∃ k : Nat, k ≤ D.length ∧ v = .int .i64 ((k : Int) - 1) ∧ OverI w D Q k r wr) (fun _ v _ => (intOf v + 1).toNat)
  case atStart => exact ⟨D.length, Nat.le_refl _, rfl, H0.out⟩
  case round =>
    obtain ⟨k, hk, rfl, hI⟩ := hrel
    rcases Nat.eq_zero_or_pos k with h0 | h0
    · subst h0
      have HR := Lib.hid hI.1
      have HQ := Lib.hid (Rd.of_blk (D := D) (c := D.length) (by simpa [qRow_zero] using hI.2.1) (Nat.le_refl _) (by unfold maxLen; omega) (fun j d hd => by simp [hd]))
      have HO := Lib.hid hI.2.2
      clear hI
      go_wp2_with fail
      refine (trim_any HQ.out).mono ?_
      rintro e w' ⟨v', rfl, hv, hw⟩
      rw [hw]
      rw [HTT.out] at hv
      have HV := Lib.hid hv
      clear hv hw
      go_wp2_with fail
      go_ret2
      exact ⟨v', u7, rfl, HV.out, HR.out, HO.out⟩
    · obtain ⟨i, rfl⟩ : ∃ i, k = i + 1 := ⟨k - 1, by omega⟩
      obtain ⟨d, hd⟩ : ∃ d, D[i]? = some d := ⟨_, List.getElem?_eq_getElem (by omega)⟩
      have hd6 : d < 65536 := HD.out d (List.mem_of_getElem? hd)
      rw [show ((i + 1 : Nat) : Int) - 1 = (i : Int) by omega]
      obtain ⟨A, hA0, hAc⟩ : ∃ g, a = some ⟨g, 0, none⟩ ∧ wr.cell? ⟨g, i, none⟩ = some (.int .i64 (d : Int)) := by
        obtain ⟨g, c, he, _, _, _, hc⟩ := HA.out.cells (by intro e; rw [e] at hd; simp at hd)
        simp only [Value.slice.injEq] at he
        exact ⟨g, he.1, hI.2.2.cell_some (hc i d hd) (fun e => e)⟩
      subst hA0
      obtain ⟨B2, R2, eR2⟩ : ∃ x c, u7 = .slice x 0 c := by
        obtain ⟨x, c, he, _⟩ := hI.1.form
        exact ⟨x, c, he⟩
      subst eR2
      have i0 : (0 : Int) ≤ (i : Int) := by omega
      have il : (i : Int) < (D.length : Int) := by omega
      have hI0 := hI.2.1
      have HI := Lib.hid hI
      have HDI := Lib.hid hd
      have HI0 := Lib.hid hI0
      clear hI hd hI0
      go_wp2_with (at_builtin; refine Lib.wpList_append_run _ rfl _ _ _ _ rfl _ _ rfl rfl _ _ (run_append_zero Tryd.underlying36 hi0 _ 1 1 (Nat.le_refl _) _ _ _) ?_)
      have hR1 : Rd (wr.alloc (.cells #[.int .i64 (d : Int)] 3)) (.slice (some ⟨wr.heap.size, 0, none⟩) 1 1) [d] :=
        Rd.of_blk (D := [d]) (Blk.new wr 3 #[dv d]) (c := 1) (by simp) (by unfold maxLen; omega) (fun j x hx => by
          match j, hx with
          | 0, hx => cases hx; rfl)
      refine (trim_at hR1).mono ?_
      rintro e w1 ⟨v1, rfl, hv1, hw1, hob⟩
      rw [← hw1] at hv1

      have hne : ∀ k, v1.ownBlock = some k → ¬ k = Q := fun k hk e => by
        rw [hob] at hk
        have e2 : wr.heap.size = k := by simpa [Value.ownBlock] using hk
        have := HI0.out.lt
        omega
      have HNE := Lib.hid hne
      have ho1 : Only NoneOf wr w1 := by rw [hw1]; exact (Only.refl NoneOf wr).alloc _
      have HV1 := Lib.hid hv1
      have HO1 := Lib.hid ho1
      clear hR1 hv1 hw1 ho1 hob hne
      rcases Nat.eq_zero_or_pos d with hd0 | hd0
      · subst hd0
        have hv0 := HV1.out
        rw [trimL_one, if_pos rfl] at hv0
        have HV0 := Lib.hid hv0
        clear hv0 HV1 hAc hd6
        go_wp2_with fail
        refine (compare_none HV0.out (HB.out.only (HI.out.2.2.trans HO1.out))).mono ?_
        rintro e w2 ⟨rfl, q, hq⟩
        have ho2 : Only NoneOf wr w2 := by rw [hq]; exact HO1.out.drewN _
        have hv2 : Rd w2 v1 [] := HV0.out.only (by rw [hq]; exact (Only.refl _ _).drewN _)
        have hb2 : Blk w2 Q 3 ((qRow D (i + 1)).map dv).toArray := HI.out.2.1.only ho2 (fun e => e)
        have cq : w2.cell? ⟨Q, i, none⟩ = some (dv 0) := by
          rw [hb2.cell, List.getElem?_toArray, List.getElem?_map, qRow, List.getElem?_append_left (by simp), List.getElem?_replicate, if_pos (by omega)]
          rfl
        have fq := hb2.frozen i
        have HO2 := Lib.hid ho2
        have HV2 := Lib.hid hv2
        have HB2 := Lib.hid hb2
        clear hq ho2 hv2 hb2
        go_wp2_with fail
        go_loop [9, 10] (fun l h => l = .int .i64 0 ∧ h = .int .i64 1) (fun _ _ => 0)
        case atStart => exact ⟨rfl, rfl⟩
        case round =>
          obtain ⟨rfl, rfl⟩ := hrel
          go_wp2_with fail
          have hN : Only NoneOf w (w2.setCell ⟨Q, i, none⟩ (.int .i64 0)) := (HI.out.2.2.trans HO2.out).setCell (.inr (by rw [EQ.out]; exact Nat.le_refl _)) _
          refine (by_zero (HB.out.only hN)).mono ?_
          rintro e w3 ⟨v3, rfl, hv3, ho3⟩
          have HN := Lib.hid hN
          have HV3 := Lib.hid hv3
          have HO3 := Lib.hid ho3
          clear hN hv3 ho3
          go_wp2_with fail
          have hs : Only (fun k => k = Q) w2 w3 := ((Only.refl (fun k => k = Q) w2).setCell (p := ⟨Q, i, none⟩) (.inl rfl) (.int .i64 0)).trans' HO3.out (fun _ _ h => h.elim)
          have hv1 := HV2.out.onlyS hs HNE.out
          refine (minus_nil hv1 HV3.out).mono ?_
          rintro e w4 ⟨v4, rfl, hv4, ho4⟩
          have HV4 := Lib.hid hv4
          have HO4 := Lib.hid ho4
          clear hv1 hv4 ho4 hs
          go_wp2_with fail
          go_roundw
          case rel =>
            refine ⟨i, by omega, rfl, HV4.out, ?_, HN.out.trans (HO3.out.trans HO4.out)⟩
            have := HB2.out.set_ i (dv 0)
            rw [qRow_set HDI.out] at this
            exact this.only (HO3.out.trans HO4.out) (fun e => e)
          case measure => simp [intOf]
      · have hv0 := HV1.out
        rw [trimL_one, if_neg (by omega)] at hv0
        have HV0 := Lib.hid hv0
        clear hv0 HV1 hAc
        go_wp2_with fail
        refine (compare_ge HV0.out (HB.out.only (HI.out.2.2.trans HO1.out)) hd0 hd6).mono ?_
        rintro e w2 ⟨c, rfl, hc, q, hq⟩
        have ho2 : Only NoneOf wr w2 := by rw [hq]; exact HO1.out.drewN _
        have hv2 : Rd w2 v1 [d] := HV0.out.only (by rw [hq]; exact (Only.refl _ _).drewN _)
        have hc' : ¬ c < 0 := by omega
        have HO2 := Lib.hid ho2
        have HV2 := Lib.hid hv2
        clear hq ho2 hv2 hc
        go_wp2_with fail
        go_loopw [9, 10] (fun l h wr' => ∃ low high : Nat, l = .int .i64 low ∧ h = .int .i64 high ∧ BisI w2 d low high wr') (fun l h _ => (intOf h - intOf l).toNat)
        case atStart => exact ⟨0, 65536, rfl, rfl, by omega, hd6, by omega, Only.refl _ _⟩
        case round =>
          obtain ⟨low, high, rfl, rfl, hl1, hl2, hl3, hl4⟩ := hrel
          have HL4 := Lib.hid hl4
          clear hl4
          by_cases hlt : low + 1 < high
          · obtain ⟨m, em⟩ : ∃ m, m = (low + high) / 2 := ⟨_, rfl⟩
            have em2 : ((low : Int) + (high : Int)) / 2 = (m : Int) := by omega
            have hm1 : low < m := by omega
            have hm2 : m < high := by omega
            have ht : 1 < (high : Int) - (low : Int) := by omega
            clear em
            go_wp2_with fail
            refine (by_pos (HB.out.only (HI.out.2.2.trans (HO2.out.trans HL4.out))) (by omega) (by omega)).mono ?_
            rintro e w3 ⟨v3, rfl, hv3, ho3⟩
            have HV3 := Lib.hid hv3
            have HO3 := Lib.hid ho3
            clear hv3 ho3
            go_wp2_with fail
            refine (compare_le HV3.out (HV2.out.only (HL4.out.trans HO3.out)) (by omega) hd6).mono ?_
            rintro e w4 ⟨c4, rfl, hc4, q4, hq4⟩
            have HO4 : Hid (Only NoneOf w2 w4) := Lib.hid (by rw [hq4]; exact (HL4.out.trans HO3.out).drewN _)
            clear hq4
            by_cases hmd : m ≤ d
            · have hc5 : c4 ≤ 0 := hc4.2 hmd
              clear hc4
              go_wp2_with fail
              go_roundw
              case rel => exact ⟨m, high, rfl, rfl, hmd, hl2, hl3, HO4.out⟩
              case measure => simp [intOf]; omega
            · have hc5 : ¬ c4 ≤ 0 := fun e => hmd (hc4.1 e)
              clear hc4
              go_wp2_with fail
              go_roundw
              case rel => exact ⟨low, m, rfl, rfl, hl1, by omega, by omega, HO4.out⟩
              case measure => simp [intOf]; omega
          · obtain rfl : low = d := by omega
            have ht : ¬ 1 < (high : Int) - (low : Int) := by omega
            have hw3 := HO2.out.trans HL4.out
            have hb2 : Blk _ Q 3 ((qRow D (i + 1)).map dv).toArray := HI.out.2.1.only hw3 (fun e => e)
            obtain ⟨w3, ew3⟩ : ∃ w3, w3 = wr := ⟨_, rfl⟩
            have cq := hb2.cell i
            rw [List.getElem?_toArray, List.getElem?_map, qRow, List.getElem?_append_left (by simp), List.getElem?_replicate, if_pos (by omega)] at cq
            have cq2 := cq
            simp only [Option.map_some, dv] at cq2
            have fq := hb2.frozen i
            have HB2 := Lib.hid hb2
            have HW3 := Lib.hid hw3
            clear hb2 hw3 cq ew3
            go_wp2_with fail
            have hN := (HI.out.2.2.trans HW3.out).setCell (p := ⟨Q, i, none⟩) (.inr (by rw [EQ.out]; exact Nat.le_refl _)) (dv low)
            refine (by_pos (HB.out.only hN) hd0 hd6).mono ?_
            rintro e w5 ⟨v5, rfl, hv5, ho5⟩
            have HN := Lib.hid hN
            have HV5 := Lib.hid hv5
            have HO5 := Lib.hid ho5
            clear hN hv5 ho5
            go_wp2_with fail
            have hs : Only (fun k => k = Q) w2 w5 := (((Only.refl (fun k => k = Q) w2).trans' HL4.out (fun _ _ h => h.elim)).setCell (p := ⟨Q, i, none⟩) (.inl rfl) (dv low)).trans' HO5.out (fun _ _ h => h.elim)
            refine (minus_one (HV2.out.onlyS hs HNE.out) HV5.out hd6).mono ?_
            rintro e w6 ⟨v6, rfl, hv6, ho6⟩
            have HV6 := Lib.hid hv6
            have HO6 := Lib.hid ho6
            clear hs hv6 ho6
            go_wp2_with fail
            go_roundw
            case rel =>
              refine ⟨i, by omega, rfl, HV6.out, ?_, HN.out.trans (HO5.out.trans HO6.out)⟩
              have := HB2.out.set_ i (dv low)
              rw [qRow_set HDI.out] at this
              exact this.only (HO5.out.trans HO6.out) (fun e => e)
            case measure => simp [intOf]
end Go.Proofs.YtdgapomeenigbaaDoor
