/- What is proved here: a quality text, by the bids' code. Conditions: the text is short, the numbers are ints. -/
import Derived.Test.YtpdlbmieciabmaaGreatDoorBrB
import Derived.Test.YtpdlbmieciabmaaGreatDoorBrL
namespace Go.Proofs.YtpdlbmieciabmaaGreatDoor
open Go.RowKit Go.Shelf
/-- What the writing of lines keeps. -/
structure QlS (w : World) (B : Nat) (l : List UInt8) (W : World) : Prop where
  wr : WBu (B + 1) B l W
  none_ : l = [] → W.cell? ⟨B, 1, none⟩ = some (.slice none 0 0)
  only : Only NoneOf w W
theorem only_ws {w W W' : World} {C b : Nat} (h : Only NoneOf w W) (ho : Only (US C b W) W W') (hb : w.heap.size ≤ b) (hC : w.heap.size ≤ C) : Only NoneOf w W' := h.trans' (us_ws ho) (fun i hi hk => by rcases hk with hk | hk <;> omega)
theorem QlS.keep {w W W' : World} {B : Nat} {l : List UInt8} (h : QlS w B l W) (ho : Only NoneOf W W') : QlS w B l W' :=
  ⟨h.wr.none_ ho, fun e => ho.cell_some (h.none_ e) (fun e => e), h.only.trans ho⟩
theorem QlS.line {w W W' : World} {B : Nat} {l : List UInt8} {x : Ln} (h : QlS w B l W) (hB : w.heap.size ≤ B) (hw : WB (B + 1) B (selfP B) (l ++ lineOf x) W') (ho : Only (US (B + 1) B W) W W') : QlS w B (l ++ lineOf x) W' :=
  ⟨.inr hw, fun e => absurd (List.append_eq_nil_iff.1 e).2 (lineOf_ne x), only_ws h.only ho hB (by omega)⟩
theorem QlS.start (w W : World) (hW : Only NoneOf w W) : QlS w W.heap.size [] (W.alloc (.cells #[.pointer none, .slice none 0 0] tWr)) := by
  have hb := Blk.new W tWr #[.pointer none, .slice none 0 0]
  exact ⟨.inl ⟨by omega, by simp, _, hb, ⟨rfl, .inl ⟨rfl, rfl⟩⟩⟩, fun _ => hb.cell 1, hW.alloc _⟩
theorem wb_at {C b : Nat} {p : Value} {l : List UInt8} {w : World} (h : WB C b p l w) : Lib.BuilderAt tWr 5 b b p (Lib.byteCells l) w := h.at_
theorem q_take_le (es : List En) (k : Nat) : (textG (qLines (es.take k))).length ≤ (textG (qLines es)).length := by
  have e : qLines es = qLines (es.take k) ++ qLines (es.drop k) := by
    unfold qLines
    rw [← List.flatMap_append, List.take_append_drop]
  rw [e, textG_app, List.length_append]
  omega
theorem q_part_le {es : List En} {k : Nat} {e : En} (h : es[k]? = some e) (j : Nat) : (textG (qLines (es.take k)) ++ lineOf (wLot, [e.lot]) ++ textG ((e.values.take j).map vLine)).length ≤ (textG (qLines es)).length := by
  have h1 := q_take_le es (k + 1)
  rw [q_text_snoc h] at h1
  have h2 := take_text_le (e.values.map vLine) j
  rw [← List.map_take] at h2
  simp only [List.length_append] at h1 ⊢
  omega
theorem intsU_one {W : World} {B g : Nat} {n : Int} (hb : Blk W g 3 #[.int .i64 n]) (hg : g ≠ B) : IntsU B (some ⟨g, 0, none⟩) [n] W :=
  .inr ⟨g, 0, _, rfl, hg, hb, fun j x hx => by
    match j, hx with
    | 0, hx =>
      simp only [List.getElem?_cons_zero, Option.some.injEq] at hx
      subst hx
      exact hb.cell 0⟩
theorem in_one {n : Int} (h : In n) : ∀ x ∈ [n], In x := fun x hx => by
  obtain rfl := List.mem_singleton.1 hx
  exact h
theorem name_le {es : List En} {e : En} {v : Vl} (he : e ∈ es) (hv : v ∈ e.values) : v.name.size ≤ (textG (qLines es)).length := by
  have h1 : vLine v ∈ qLines es := List.mem_flatMap.2 ⟨e, he, by unfold eLines; exact List.mem_cons_of_mem _ (List.mem_map_of_mem hv)⟩
  have h2 := textG_mem h1
  have h3 := size_list v.name
  unfold vLine at h2
  simp only at h2
  omega
set_option maxRecDepth 100000 in
set_option maxHeartbeats 2000000 in
theorem quality_any (es : List En) (hin : ∀ e ∈ es, EnIn e) (hl : (textG (qLines es)).length ≤ 100000000) (v : Value) (w : World) (h : EnSl w v es) (ht : Tab w) : Calls Tryz.prog 31 #[v] w (RetStr (qualL es) w) := by
  have hright := right_any es v w h
  obtain ⟨A, cap, rfl, hc1, hc2, hat⟩ := en_at h
  have HAT := Lib.hid hat
  have HT := Lib.hid ht
  have HIN := Lib.hid hin
  have hgl := tab_lt ht
  clear hat h ht hin
  go_enter Tryz.func31, Tryz.ntmps31
  go_wp2_with fail
  refine hright.mono ?_
  rintro e w1 ⟨rfl, ho1⟩
  have HO1 := Lib.hid ho1
  clear hright
  cases hr : rightL es with
  | false =>
    have hq : qualL es = [] := by unfold qualL; rw [hr]; rfl
    have HQ := Lib.hid hq
    clear hr hq
    go_wp2_with fail
    go_ret
    exact RetStr.mk (by rw [HQ.out]) HO1.out
  | true =>
    have hq : qualL es = textG (qLines es) := by unfold qualL; rw [if_pos hr]
    have HQ := Lib.hid hq
    clear hr hq
    obtain ⟨B, eB⟩ : ∃ B, B = w1.heap.size := ⟨_, rfl⟩
    have hst := QlS.start w w1 ho1
    rw [← eB] at hst
    have HST := Lib.hid hst
    have hwB : w.heap.size ≤ B := by rw [eB]; exact ho1.size
    have HEB := Lib.hid eB
    have hgb : 3 < B := by omega
    clear hst ho1 eB
    go_wp2_with fail
    rw [← HEB.out]
    go_loopw [15] (fun i wr => ∃ k : Nat, i = .int .i64 k ∧ k ≤ es.length ∧ QlS w B (textG (qLines (es.take k))) wr) (fun i _ => es.length - (intOf i).toNat)
    case atStart => exact ⟨0, rfl, Nat.zero_le _, HST.out⟩
    case round =>
      obtain ⟨k, rfl, hk, hS⟩ := hrel
      have HS := Lib.hid hS
      clear hS
      by_cases hlt : k < es.length
      · obtain ⟨x, hx⟩ : ∃ x, es[k]? = some x := ⟨_, List.getElem?_eq_getElem hlt⟩
        obtain ⟨g, o, u, rfl, hg, c0, c1, c2, c3, c4, hvs⟩ := HAT.out k x hx
        obtain ⟨A2, cap2, rfl, hd1, hd2, hvat⟩ := vl_at hvs
        have ho := HS.out.only
        have d0 := ho.cell_some c0 (fun e => e)
        have d1 := ho.cell_some c1 (fun e => e)
        have d2 := ho.cell_some c2 (fun e => e)
        have d3 := ho.cell_some c3 (fun e => e)
        have d4 := ho.cell_some c4 (fun e => e)
        have hxm := List.mem_of_getElem? hx
        have HXI := Lib.hid (HIN.out x hxm)
        have HXM := Lib.hid hxm
        have HX := Lib.hid hx
        have HV := Lib.hid hvat
        have HQP := Lib.hid (q_part_le hx)
        have hQK := q_take_le es k
        have ik : (k : Int) < es.length := by omega
        obtain ⟨lot, elot⟩ : ∃ n, n = x.lot := ⟨_, rfl⟩
        have hE : Blk (wr.alloc (.cells #[.int .i64 0, .int .i64 lot, .int .i64 0, .int .i64 x.price, .slice A2 x.values.length cap2] 37)) wr.heap.size 37 #[.int .i64 0, .int .i64 lot, .int .i64 0, .int .i64 x.price, .slice A2 x.values.length cap2] := Blk.new wr _ _
        have hI := Blk.new (wr.alloc (.cells #[.int .i64 0, .int .i64 lot, .int .i64 0, .int .i64 x.price, .slice A2 x.values.length cap2] 37)) 3 #[.int .i64 lot]
        rw [World.size_alloc] at hI
        have hE2 := hE.alloc (.cells #[.int .i64 lot] 3)
        have hBw : B < wr.heap.size := by
          have := HS.out.wr
          rcases this with h | h <;> exact Nat.lt_of_lt_of_le (Nat.lt_succ_self B) h.2.1
        have hox : Only NoneOf wr ((wr.alloc (.cells #[.int .i64 0, .int .i64 lot, .int .i64 0, .int .i64 x.price, .slice A2 x.values.length cap2] 37)).alloc (.cells #[.int .i64 lot] 3)) := ((Only.refl _ _).alloc _).alloc _
        have HE2 := Lib.hid hE2
        have HI := Lib.hid hI
        have HOX := Lib.hid hox
        rw [← elot] at d1
        have HEL := Lib.hid elot
        clear hx hvat hvs c0 c1 c2 c3 c4 hE hI hE2 hox ho hxm elot
        go_wp2_with fail
        refine (lineU_any (C := B + 1) (ns := [lot]) lotB (by decide) (HS.out.keep HOX.out).wr (by simp) (in_one (by rw [HEL.out]; exact HXI.out.1)) (intsU_one HI.out (by omega)) (HT.out.none (HS.out.only.trans HOX.out)) hgb (by omega)).mono ?_
        rintro e w2 ⟨rfl, h2, ho2⟩
        have hS2 := (HS.out.keep HOX.out).line (x := (wLot, [lot])) hwB h2 ho2
        have hE3 := (HE2.out.us ho2 (by omega) (by decide)).cell 4
        simp only [List.getElem?_toArray, List.getElem?_cons_zero, List.getElem?_cons_succ] at hE3
        have HS2 := Lib.hid hS2
        clear h2 ho2 hS2 d0 d1 d2 d3 d4
        go_wp2_with fail
        go_loopw [27] (fun i wr => ∃ j : Nat, i = .int .i64 j ∧ j ≤ x.values.length ∧ QlS w B (textG (qLines (es.take k)) ++ lineOf (wLot, [x.lot]) ++ textG ((x.values.take j).map vLine)) wr) (fun i _ => x.values.length - (intOf i).toNat)
        case atStart => exact ⟨0, rfl, Nat.zero_le _, by have := HS2.out; rw [HEL.out] at this; simpa [textG] using this⟩
        case round =>
          clear hE3 hBw
          obtain ⟨j, rfl, hj, hS⟩ := hrel
          have HS3 := Lib.hid hS
          have hqj := HQP.out j
          clear hS
          by_cases hlj : j < x.values.length
          · obtain ⟨y, hy⟩ : ∃ y, x.values[j]? = some y := ⟨_, List.getElem?_eq_getElem hlj⟩
            obtain ⟨g2, o2, rfl, hg2, c0, c1⟩ := HV.out j y hy
            have ho := HS3.out.only
            have d0 := ho.cell_some c0 (fun e => e)
            have d1 := ho.cell_some c1 (fun e => e)
            have hym := List.mem_of_getElem? hy
            have HYI := Lib.hid (HXI.out.2.2 y hym)
            have hyn := name_le HXM.out hym
            have HVT := Lib.hid (v_text_snoc hy)
            have ij : (j : Int) < x.values.length := by omega
            obtain ⟨n, en⟩ : ∃ n, n = y.n := ⟨_, rfl⟩
            rw [← en] at d1
            have hV : Blk (wr.alloc (.cells #[.string y.name, .int .i64 n] 84)) wr.heap.size 84 #[.string y.name, .int .i64 n] := Blk.new wr _ _
            have hI := Blk.new (wr.alloc (.cells #[.string y.name, .int .i64 n] 84)) 3 #[.int .i64 n]
            rw [World.size_alloc] at hI
            have hBw : B < wr.heap.size := by
              have := HS3.out.wr
              rcases this with h | h <;> exact Nat.lt_of_lt_of_le (Nat.lt_succ_self B) h.2.1
            have hox : Only NoneOf wr ((wr.alloc (.cells #[.string y.name, .int .i64 n] 84)).alloc (.cells #[.int .i64 n] 3)) := ((Only.refl _ _).alloc _).alloc _
            have HI3 := Lib.hid hI
            have HOX3 := Lib.hid hox
            have HEN := Lib.hid en
            clear hy hV hI hox ho hym c0 c1 en
            go_wp2_with fail
            refine (lineU_any (C := B + 1) (ns := [n]) y.name (by omega) (HS3.out.keep HOX3.out).wr (by simp) (in_one (by rw [HEN.out]; exact HYI.out)) (intsU_one HI3.out (by omega)) (HT.out.none (HS3.out.only.trans HOX3.out)) hgb (by omega)).mono ?_
            rintro e w2 ⟨rfl, h2, ho2⟩
            have HS4 := Lib.hid ((HS3.out.keep HOX3.out).line (x := (y.name.data.toList, [n])) hwB h2 ho2)
            clear h2 ho2 d0 d1
            go_wp2_with fail
            go_roundw
            case rel => exact ⟨j + 1, by go_num, by omega, by have := HS4.out; rw [HEN.out] at this; rw [HVT.out, ← List.append_assoc]; exact this⟩
            case measure => simp [intOf]; omega
          · obtain rfl : j = x.values.length := by omega
            have ij : ¬ (x.values.length : Int) < x.values.length := by omega
            have hall := HS3.out
            rw [List.take_of_length_le (Nat.le_refl _), ← q_text_snoc HX.out] at hall
            have HG := Lib.hid hall
            clear hall
            go_wp2_with fail
            go_roundw
            case rel => exact ⟨k + 1, by go_num, by omega, HG.out⟩
            case measure => simp [intOf]; omega
      · obtain rfl : k = es.length := by omega
        have ik : ¬ (es.length : Int) < es.length := by omega
        have hall := HS.out
        rw [List.take_of_length_le (Nat.le_refl _)] at hall
        have HG := Lib.hid hall
        clear hall
        by_cases h0 : textG (qLines es) = []
        · have c1 := HG.out.none_ h0
          go_wp2_with fail
          refine (wstring_none (b := B) c1).mono ?_
          rintro e w3 ⟨rfl, ho3⟩
          go_wp2_with fail
          go_ret
          exact RetStr.mk (by rw [HQ.out, h0]) (HG.out.only.trans ho3)
        · go_wp2_with fail
          refine (wstring_any (B := B) (b := B) (l := textG (qLines es)) (by rcases HG.out.wr with h | h; exact .inl (wb_at h); exact .inr (wb_at h)) h0).mono ?_
          rintro e w3 ⟨rfl, hb⟩
          go_wp2_with fail
          go_ret
          exact RetStr.mk (by rw [HQ.out]) (HG.out.only.below' hb hwB)
end Go.Proofs.YtpdlbmieciabmaaGreatDoor
