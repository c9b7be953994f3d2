/- What is proved here: the law on quality texts. Conditions: the numbers are ints, the text is short. -/
import Derived.Test.YtpdlbmieciabmaaDoorBsB
import Derived.Test.YtpdlbmieciabmaaDoorBsO
import Derived.Test.YtpdlbmieciabmaaDoorBrZ
import Derived.Test.YtpdlbmieciabmaaDoorBsE
import Derived.Test.YtpdlbmieciabmaaDoorBsW
import Derived.Test.YtpdlbmieciabmaaDoorBrX
import Derived.Test.YtpdlbmieciabmaaDoorBrY
import Derived.Test.YtpdlbmieciabmaaDoorBsC
namespace Go.Proofs.YtpdlbmieciabmaaDoor
open Go.RowKit Go.Shelf
theorem qLinesD_ge : ∀ es : List En, es.length ≤ (qLines es).length
  | [] => Nat.zero_le _
  | e :: es => by
    have ih := qLinesD_ge es
    have h : qLines (e :: es) = eLines e ++ qLines es := by unfold qLines; simp
    rw [h, List.length_append, List.length_cons]
    unfold eLines
    rw [List.length_cons]
    omega
theorem q_small {t : ByteArray} {xs : List En} {c : Int} (ht : t.size ≤ 2000000) (h : (c = 0 ∧ QRd t.data.toList xs) ∨ (c = 11 ∧ xs = [] ∧ ∀ fs, ¬ QRd t.data.toList fs)) : xs.length ≤ 1000000000 := by
  rcases h with ⟨_, h⟩ | ⟨_, rfl, _⟩
  · have e : t.size = (textG (qLines xs)).length := by rw [size_list, h.2.2]
    have h1 := textG_ge (qLines xs)
    have h2 := qLinesD_ge xs
    omega
  · simp
set_option maxRecDepth 100000 in
set_option maxHeartbeats 4000000 in
theorem bquality_law (o : Of) (hok : o.Ok) (ov : Value) (raw : ByteArray) (hraw : raw.size ≤ 1048576) (q0 q1 q2 : Int) (h0 : In q0) (h1 : In q1) (w : World) (he : Env w) (h : OfAt w ov o) : Calls Tryd.prog 3 #[ov, .string raw, .agg #[.int .i64 q0, .int .i64 q1, .int .i64 q2]] w (fun e w' => e = .returned (.bool true) ∧ Only NoneOf w w') := by
  obtain ⟨O, eO⟩ : ∃ O, O = w.heap.size := ⟨_, rfl⟩
  have hov := h
  obtain ⟨ev, rv, rfl, _, _⟩ := h
  obtain ⟨X, eX⟩ : ∃ X, X = (w.alloc (.cells #[ev, rv] tOf)).alloc (.cells #[.int .i64 q0, .int .i64 q1, .int .i64 q2] tQ) := ⟨_, rfl⟩
  have hX : Only NoneOf w X := by rw [eX]; exact ((Only.refl _ _).alloc _).alloc _
  have hb : Blk X O tOf #[ev, rv] := by rw [eX, eO]; exact (Blk.new w _ _).alloc _
  have hq : Blk X (O + 1) tQ #[.int .i64 q0, .int .i64 q1, .int .i64 q2] := by
    have h := Blk.new (w.alloc (.cells #[ev, rv] tOf)) tQ #[.int .i64 q0, .int .i64 q1, .int .i64 q2]
    rw [World.size_alloc, ← eO, ← eX] at h
    exact h
  have hoX := hov.only hX
  have heX := he.none hX
  have HXW := Lib.hid hX
  have HB := Lib.hid hb
  have HQ := Lib.hid hq
  have HOX := Lib.hid hoX
  have HEX := Lib.hid heX
  have EX := Lib.hid eX
  have EO := Lib.hid eO
  clear hX hb hq hoX heX hov eX eO
  go_enter Tryd.func3, Tryd.ntmps3
  go_wp2_with fail
  rw [← EX.out]
  rw [← EO.out]
  refine (sanity16 X HEX.out).mono ?_
  rintro e w1 ⟨rfl, ho1⟩
  obtain ⟨P, eP⟩ : ∃ P, P = w1.heap.size := ⟨_, rfl⟩
  obtain ⟨Z, eZ⟩ : ∃ Z, Z = w1.alloc (.cells #[.bool false, .bool true] 4) := ⟨_, rfl⟩
  have hPZ : Blk Z P 4 #[.bool false, .bool true] := by rw [eZ, eP]; exact Blk.new w1 _ _
  have HPZ := Lib.hid hPZ
  have HZ := Lib.hid (show Only NoneOf X Z by rw [eZ]; exact ho1.alloc _)
  have EZ := Lib.hid eZ
  have EP := Lib.hid eP
  clear ho1 eZ eP hPZ
  go_wp2_with fail
  rw [← EZ.out]
  rw [← EP.out]
  go_loopw [22] (fun i W => ∃ k : Nat, i = .int .i64 k ∧ k ≤ 2 ∧ Only NoneOf Z W) (fun i _ => 2 - (intOf i).toNat)
  case atStart => exact ⟨0, rfl, Nat.zero_le _, Only.refl _ _⟩
  case round =>
    obtain ⟨k, rfl, hk, hW⟩ := hrel
    have HU := Lib.hid (HZ.out.trans hW)
    have HZW := Lib.hid hW
    clear hW
    obtain ⟨w6, rfl⟩ : ∃ x, x = wr := ⟨_, rfl⟩
    by_cases hk2 : k < 2
    · obtain ⟨wild, hwild⟩ : ∃ b : Bool, b = decide (k = 1) := ⟨_, rfl⟩
      have cy : w6.cell? ⟨P, k, none⟩ = some (.bool wild) := by
        refine HZW.out.cell_some ?_ (fun e => e)
        rw [HPZ.out.cell, hwild]
        match k, hk2 with
        | 0, _ => rfl
        | 1, _ => rfl
      have i2 : (k : Int) < 2 := by omega
      have i0 : (0 : Int) ≤ (k : Int) := by omega
      have wk : IntKind.i64.wrap ((k : Int) + 1) = (k : Int) + 1 := IntWalk.i64_in _ (by omega)
      have c0 := HU.out.cell_some (HB.out.cell 0) (fun e => e)
      have c1 := HU.out.cell_some (HB.out.cell 1) (fun e => e)
      clear hwild
      go_wp2_with fail
      refine (make16_any o hok wild (.agg #[ev, rv]) w6 (HOX.out.only HU.out)).mono ?_
      rintro e w2 ⟨ev2, rv2, rfl, hen, hrb, ho2⟩
      have HEN := Lib.hid hen.sl
      have HO2 := Lib.hid (HU.out.trans ho2)
      obtain ⟨es, ees⟩ : ∃ es, es = mkEs wild o := ⟨_, rfl⟩
      have hin : ∀ e ∈ es, EnIn e := by rw [ees]; exact mkEs_in hok wild
      have hlen : (textG (qLines es)).length ≤ 4000 := by rw [ees]; exact mkEs_text hok wild
      have hqlen : (qualL es).length ≤ 4000 := by rw [ees]; exact qualL_len hok wild
      have hnm : ∀ e ∈ es, ∀ v ∈ e.values, v.name.size ≤ 4000000000 := by
        rw [ees]
        intro e he v hv
        have := (mkEs_mem he).2 v hv
        omega
      have hes : es.length ≤ 1000000000 := by
        rw [ees]
        have := mkEs_len wild o
        omega
      rw [← ees] at HEN
      have HIN := Lib.hid hin
      have HLEN := Lib.hid hlen
      have HQL := Lib.hid hqlen
      have HNM := Lib.hid hnm
      have HES := Lib.hid hes
      have HOW := Lib.hid ho2
      clear hen hrb ho2 hin hlen hqlen hnm hes c0 c1 cy ees
      go_wp2_with fail
      refine (quality_any es HIN.out (by have := HLEN.out; omega) _ w2 HEN.out (HEX.out.none HO2.out).tab).mono ?_
      rintro e w3 ⟨s, rfl, hs, ho3⟩
      have HS := Lib.hid hs
      have HO3 := Lib.hid ho3
      clear hs ho3
      go_wp2_with fail
      refine (rquality16_any es HIN.out HNM.out HES.out (fun _ => by have := HLEN.out; omega) _ w3 (HEN.out.only HO3.out)).mono ?_
      rintro e w4 ⟨s2, rfl, hs2, ho4⟩
      obtain rfl : s = s2 := str_same (HS.out.trans hs2.symm)
      have HO4 := Lib.hid ((HO2.out.trans HO3.out).trans ho4)
      have HOW4 := Lib.hid ((HOW.out.trans HO3.out).trans ho4)
      have hsz : s.size ≤ 4000 := by rw [size_list, HS.out]; exact HQL.out
      clear hs2 ho4
      have d0 := HO4.out.cell_some (HQ.out.cell 0) (fun e => e)
      have d1 := HO4.out.cell_some (HQ.out.cell 1) (fun e => e)
      have d2 := HO4.out.cell_some (HQ.out.cell 2) (fun e => e)
      go_wp2_with fail
      refine (bent16_any s (by omega) q0 q1 q2 h0 h1 w4).mono ?_
      rintro e w5 ⟨b, rfl, hbs, ho5⟩
      have HO5 := Lib.hid (HO4.out.trans ho5)
      have hst : Hid (∀ (n : Nat) (t : ByteArray), (five s b raw)[n]? = some t → t.size ≤ 2000000) := Lib.hid (fun n t h => five_size (by omega) hbs hraw h)
      obtain ⟨G, eG⟩ : ∃ G, G = w5.heap.size := ⟨_, rfl⟩
      obtain ⟨Y, eY⟩ : ∃ Y, Y = w5.alloc (.cells #[.string s, .string b, .string raw, .string (s ++ raw), .string (raw ++ s)] 9) := ⟨_, rfl⟩
      have HY := Lib.hid (show Only NoneOf X Y by rw [eY]; exact HO5.out.alloc _)
      have HYW := Lib.hid (show Only NoneOf w6 Y by rw [eY]; exact (HOW4.out.trans ho5).alloc _)
      have HG := Lib.hid (show Blk Y G 9 #[.string s, .string b, .string raw, .string (s ++ raw), .string (raw ++ s)] by rw [eY, eG]; exact Blk.new w5 _ _)
      have EY := Lib.hid eY
      have EG := Lib.hid eG
      clear ho5 d0 d1 d2 eY eG
      go_wp2_with fail
      rw [← EY.out]
      rw [← EG.out]
      go_loopw [51] (fun i W => ∃ j : Nat, i = .int .i64 j ∧ j ≤ 5 ∧ Only NoneOf Y W) (fun i _ => 5 - (intOf i).toNat)
      case atStart => exact ⟨0, rfl, Nat.zero_le _, Only.refl _ _⟩
      case round =>
        obtain ⟨j, rfl, hj, hW⟩ := hrel
        have HW := Lib.hid hW
        clear hW
        by_cases hlt : j < 5
        · obtain ⟨t, ht⟩ : ∃ t, (five s b raw)[j]? = some t := ⟨_, List.getElem?_eq_getElem (show j < (five s b raw).length from hlt)⟩
          have hts := hst.out j t ht
          have cy : Y.cell? ⟨G, j, none⟩ = some (.string t) := by
            rw [HG.out.cell]
            match j, hlt, ht with
            | 0, _, ht => cases ht; rfl
            | 1, _, ht => cases ht; rfl
            | 2, _, ht => cases ht; rfl
            | 3, _, ht => cases ht; rfl
            | 4, _, ht => cases ht; rfl
          have cw := HW.out.cell_some cy (fun e => e)
          have i5 : (j : Int) < 5 := by omega
          have j0 : (0 : Int) ≤ (j : Int) := by omega
          have wj : IntKind.i64.wrap ((j : Int) + 1) = (j : Int) + 1 := IntWalk.i64_in _ (by omega)
          clear cy ht
          go_wp2_with fail
          refine (readq_any t (by omega) wr (HEX.out.none (HY.out.trans HW.out))).mono ?_
          rintro e v1 ⟨xv, d1, xs, rfl, hx, hc, hv1⟩
          have HX := Lib.hid hx.sl
          have HC := Lib.hid hc
          have HV1 := Lib.hid hv1
          clear hx hc hv1
          go_wp2_with fail
          refine (rreadq_any t (by omega) v1).mono ?_
          rintro e v2 ⟨yv, d2, ys, rfl, hy, hc2, hv2⟩
          obtain ⟨rfl, rfl⟩ := q_two HC.out hc2
          have HYS := Lib.hid hy.sl
          have HV2 := Lib.hid hv2
          have hpl := q_small (by omega) HC.out
          clear hy hc2 hv2
          go_wp2_with fail
          refine (entries_same xs hpl _ _ v2 (HX.out.only HV2.out) HYS.out).mono ?_
          rintro e v3 ⟨rfl, hv3⟩
          have HV3 := Lib.hid hv3
          clear hv3
          go_wp2_with fail
          go_roundw
          case rel => exact ⟨j + 1, rfl, by omega, ((HW.out.trans HV1.out).trans HV2.out).trans HV3.out⟩
          case measure => simp [intOf]; omega
        · obtain rfl : j = 5 := by omega
          go_wp2_with fail
          go_roundw
          case rel => exact ⟨k + 1, rfl, by omega, (HZW.out.trans HYW.out).trans HW.out⟩
          case measure => simp [intOf]; omega
    · obtain rfl : k = 2 := by omega
      go_wp2_with fail
      go_ret
      exact ⟨rfl, HXW.out.trans HU.out⟩
end Go.Proofs.YtpdlbmieciabmaaDoor
