/- What is proved here: the law on price texts. Conditions: the numbers are ints, the text is short. -/
import Derived.Test.YtpdlbmieciabmaaDoorBsB
import Derived.Test.YtpdlbmieciabmaaDoorBsO
import Derived.Test.YtpdlbmieciabmaaDoorBrZ
import Derived.Test.YtpdlbmieciabmaaDoorBsE
import Derived.Test.YtpdlbmieciabmaaDoorBsX
import Derived.Test.YtpdlbmieciabmaaDoorBsP
import Derived.Test.YtpdlbmieciabmaaDoorBsR
namespace Go.Proofs.YtpdlbmieciabmaaDoor
open Go.RowKit Go.Shelf
theorem str_same {s t : ByteArray} (h : s.data.toList = t.data.toList) : s = t := by
  obtain ⟨a⟩ := s
  obtain ⟨b⟩ := t
  have : a = b := Array.toList_inj.1 h
  rw [this]
/-- Five texts. -/
def five (s b r : ByteArray) : List ByteArray := [s, b, r, s ++ r, r ++ s]
theorem five_size {s b r : ByteArray} {n : Nat} (hs : s.size ≤ 100000) (hb : b.size ≤ s.size + 1) (hr : r.size ≤ 1048576) {t : ByteArray} (h : (five s b r)[n]? = some t) : t.size ≤ 2000000 := by
  have hm := List.mem_of_getElem? h
  simp only [five, List.mem_cons, List.not_mem_nil, or_false] at hm
  rcases hm with rfl | rfl | rfl | rfl | rfl
  · omega
  · omega
  · omega
  · rw [ByteArray.size_append]; omega
  · rw [ByteArray.size_append]; omega
theorem p_small {t : ByteArray} {xs : List En} {us : List Rb} {c : Int} (ht : t.size ≤ 2000000) (h : (c = 0 ∧ PRd t.data.toList xs us) ∨ (c = 11 ∧ xs = [] ∧ us = [] ∧ ∀ fs us, ¬ PRd t.data.toList fs us)) : xs.length ≤ 1000000000 ∧ us.length ≤ 1000000000 ∧ ∀ r ∈ us, r.lots.length ≤ 1000000000 := by
  rcases h with ⟨_, h⟩ | ⟨_, rfl, rfl, _⟩
  · have e : t.size = (pricL xs us).length := by rw [size_list, h.2.2]
    have h1 := textG_ge (pLines xs us)
    have h2 : (textG (pLines xs us)).length = (pricL xs us).length := rfl
    have h3 : (pLines xs us).length = xs.length + us.length := by unfold pLines; rw [List.length_append, List.length_map, List.length_map]
    refine ⟨by omega, by omega, fun r hr => ?_⟩
    have := lots_le (es := xs) hr
    omega
  · exact ⟨by simp, by simp, fun r hr => by cases hr⟩
set_option maxRecDepth 100000 in
set_option maxHeartbeats 4000000 in
theorem bprices_law (o : Of) (hok : o.Ok) (ov : Value) (raw : ByteArray) (hraw : raw.size ≤ 1048576) (q0 q1 q2 : Int) (h0 : In q0) (h1 : In q1) (w : World) (he : Env w) (h : OfAt w ov o) : Calls Tryd.prog 4 #[ov, .string raw, .agg #[.int .i64 q0, .int .i64 q1, .int .i64 q2]] w (fun e w' => e = .returned (.bool true) ∧ Only NoneOf w w') := by
  obtain ⟨O, eO⟩ : ∃ O, O = w.heap.size := ⟨_, rfl⟩
  have hov := h
  obtain ⟨ev, rv, rfl, _, _⟩ := h
  obtain ⟨X, eX⟩ : ∃ X, X = (w.alloc (.cells #[ev, rv] tOf)).alloc (.cells #[.int .i64 q0, .int .i64 q1, .int .i64 q2] tQ) := ⟨_, rfl⟩
  have hX : Only NoneOf w X := by rw [eX]; exact ((Only.refl _ _).alloc _).alloc _
  have hb : Blk X O tOf #[ev, rv] := by rw [eX, eO]; exact (Blk.new w _ _).alloc _
  have hq : Blk X (O + 1) tQ #[.int .i64 q0, .int .i64 q1, .int .i64 q2] := by
    have h := Blk.new (w.alloc (.cells #[ev, rv] tOf)) tQ #[.int .i64 q0, .int .i64 q1, .int .i64 q2]
    rw [World.size_alloc, ← eO, ← eX] at h
    exact h
  have hoX := hov.only hX
  have heX := he.none hX
  have HXW := Lib.hid hX
  have HB := Lib.hid hb
  have HQ := Lib.hid hq
  have HOX := Lib.hid hoX
  have HEX := Lib.hid heX
  have EX := Lib.hid eX
  have EO := Lib.hid eO
  clear hX hb hq hoX heX hov eX eO
  go_enter Tryd.func4, Tryd.ntmps4
  go_wp2_with fail
  rw [← EX.out]
  rw [← EO.out]
  refine (sanity16 X HEX.out).mono ?_
  rintro e w1 ⟨rfl, ho1⟩
  have c0 := ho1.cell_some (HB.out.cell 0) (fun e => e)
  have c1 := ho1.cell_some (HB.out.cell 1) (fun e => e)
  have HO1 := Lib.hid ho1
  clear ho1
  go_wp2_with fail
  refine (make16_any o hok true (.agg #[ev, rv]) w1 (HOX.out.only HO1.out)).mono ?_
  rintro e w2 ⟨ev2, rv2, rfl, hen, hrb, ho2⟩
  have HEN := Lib.hid hen.sl
  have HRB := Lib.hid hrb.sl
  have HO2 := Lib.hid (HO1.out.trans ho2)
  obtain ⟨es, ees⟩ : ∃ es, es = mkEs true o := ⟨_, rfl⟩
  obtain ⟨rs, ers⟩ : ∃ rs, rs = mkRs o := ⟨_, rfl⟩
  have hin : ∀ e ∈ es, EnIn e := by rw [ees]; exact mkEs_in hok true
  have hrn : ∀ r ∈ rs, RbIn r := by rw [ers]; exact mkRs_in hok
  have hlen : (pricL es rs).length ≤ 2000 := by rw [ees, ers]; exact mkPr_text hok true
  rw [← ees] at HEN
  rw [← ers] at HRB
  have HIN := Lib.hid hin
  have HRN := Lib.hid hrn
  have HLEN := Lib.hid hlen
  clear hen hrb ho2 hin hrn hlen c0 c1
  go_wp2_with fail
  refine (prices_any es rs HIN.out HRN.out (by have := HLEN.out; omega) _ _ w2 HEN.out HRB.out (HEX.out.none HO2.out).tab).mono ?_
  rintro e w3 ⟨s, rfl, hs, ho3⟩
  have HS := Lib.hid hs
  have HO3 := Lib.hid ho3
  clear hs ho3
  go_wp2_with fail
  refine (rprices16_any es rs HIN.out HRN.out (by have := HLEN.out; omega) _ _ w3 (HEN.out.only HO3.out) (HRB.out.only HO3.out)).mono ?_
  rintro e w4 ⟨s2, rfl, hs2, ho4⟩
  obtain rfl : s = s2 := str_same (HS.out.trans hs2.symm)
  have HO4 := Lib.hid ((HO2.out.trans HO3.out).trans ho4)
  have hsz : s.size ≤ 2000 := by rw [size_list, HS.out]; exact HLEN.out
  clear hs2 ho4
  have d0 := HO4.out.cell_some (HQ.out.cell 0) (fun e => e)
  have d1 := HO4.out.cell_some (HQ.out.cell 1) (fun e => e)
  have d2 := HO4.out.cell_some (HQ.out.cell 2) (fun e => e)
  go_wp2_with fail
  refine (bent16_any s (by omega) q0 q1 q2 h0 h1 w4).mono ?_
  rintro e w5 ⟨b, rfl, hbs, ho5⟩
  have HO5 := Lib.hid (HO4.out.trans ho5)
  have hst : Hid (∀ (n : Nat) (t : ByteArray), (five s b raw)[n]? = some t → t.size ≤ 2000000) := Lib.hid (fun n t h => five_size (by omega) hbs hraw h)
  obtain ⟨G, eG⟩ : ∃ G, G = w5.heap.size := ⟨_, rfl⟩
  obtain ⟨Y, eY⟩ : ∃ Y, Y = w5.alloc (.cells #[.string s, .string b, .string raw, .string (s ++ raw), .string (raw ++ s)] 9) := ⟨_, rfl⟩
  have HY := Lib.hid (show Only NoneOf X Y by rw [eY]; exact HO5.out.alloc _)
  have HG := Lib.hid (show Blk Y G 9 #[.string s, .string b, .string raw, .string (s ++ raw), .string (raw ++ s)] by rw [eY, eG]; exact Blk.new w5 _ _)
  have EY := Lib.hid eY
  have EG := Lib.hid eG
  clear ho5 d0 d1 d2 eY eG
  go_wp2_with fail
  rw [← EY.out]
  rw [← EG.out]
  go_loopw [46] (fun i W => ∃ k : Nat, i = .int .i64 k ∧ k ≤ 5 ∧ Only NoneOf Y W) (fun i _ => 5 - (intOf i).toNat)
  case atStart => exact ⟨0, rfl, Nat.zero_le _, Only.refl _ _⟩
  case round =>
    obtain ⟨k, rfl, hk, hW⟩ := hrel
    have HW := Lib.hid hW
    clear hW
    by_cases hlt : k < 5
    · obtain ⟨t, ht⟩ : ∃ t, (five s b raw)[k]? = some t := ⟨_, List.getElem?_eq_getElem (show k < (five s b raw).length from hlt)⟩
      have hts := hst.out k t ht
      have cy : Y.cell? ⟨G, k, none⟩ = some (.string t) := by
        rw [HG.out.cell]
        match k, hlt, ht with
        | 0, _, ht => cases ht; rfl
        | 1, _, ht => cases ht; rfl
        | 2, _, ht => cases ht; rfl
        | 3, _, ht => cases ht; rfl
        | 4, _, ht => cases ht; rfl
      have cw := HW.out.cell_some cy (fun e => e)
      have i5 : (k : Int) < 5 := by omega
      have i0 : (0 : Int) ≤ (k : Int) := by omega
      have wk : IntKind.i64.wrap ((k : Int) + 1) = (k : Int) + 1 := IntWalk.i64_in _ (by omega)
      clear cy ht
      go_wp2_with fail
      refine (readp_any t (by omega) wr (HEX.out.none (HY.out.trans HW.out))).mono ?_
      rintro e v1 ⟨xv, uv, c1, xs, us, rfl, hx, hu, hc, hv1⟩
      have HX := Lib.hid hx.sl
      have HU := Lib.hid hu.sl
      have HC := Lib.hid hc
      have HV1 := Lib.hid hv1
      clear hx hu hc hv1
      go_wp2_with fail
      refine (rreadp_any t (by omega) v1).mono ?_
      rintro e v2 ⟨yv, zv, c2, ys, zs, rfl, hy, hz, hc2, hv2⟩
      obtain ⟨rfl, rfl, rfl⟩ := p_two HC.out hc2
      have HYS := Lib.hid hy.sl
      have HZS := Lib.hid hz.sl
      have HV2 := Lib.hid hv2
      have hxl := HX.out
      have hpl := p_small (by omega) HC.out
      clear hy hz hc2 hv2 hxl
      go_wp2_with fail
      refine (entries_same xs hpl.1 _ _ v2 (HX.out.only HV2.out) HYS.out).mono ?_
      rintro e v3 ⟨rfl, hv3⟩
      have HV3 := Lib.hid hv3
      clear hv3
      go_wp2_with fail
      refine (rebates_same us hpl.2.1 hpl.2.2 _ _ v3 ((HU.out.only HV2.out).only HV3.out) (HZS.out.only HV3.out)).mono ?_
      rintro e v4 ⟨rfl, hv4⟩
      have HV4 := Lib.hid hv4
      clear hv4
      go_wp2_with fail
      go_roundw
      case rel => exact ⟨k + 1, rfl, by omega, (((HW.out.trans HV1.out).trans HV2.out).trans HV3.out).trans HV4.out⟩
      case measure => simp [intOf]; omega
    · obtain rfl : k = 5 := by omega
      go_wp2_with fail
      go_ret
      exact ⟨rfl, (HXW.out.trans HY.out).trans HW.out⟩
end Go.Proofs.YtpdlbmieciabmaaDoor
