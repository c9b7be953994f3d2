/- What is proved here: whether a name is a word, and whether lots' values have words for names, by the bids' code. Conditions: there are few. -/
import Derived.Test.YtpdlbmieciabmaaGreatDoorBqF
import Derived.Test.YtpdlbmieciabmaaGreatDoorBrE
import Derived.WalkSmall
namespace Go.Proofs.YtpdlbmieciabmaaGreatDoor
open Go.RowKit Go.Shelf
theorem let_pred (w : World) : PredAt Tryz.prog 93 #[] encR noLet w := fun W r _ => by
  unfold FnGives
  by_cases h1 : r < 97 <;> by_cases h2 : 122 < r
  all_goals
    have z1 : (r : Int) < 97 ↔ r < 97 := by omega
    have z2 : (122 : Int) < (r : Int) ↔ 122 < r := by omega
    go_enter Tryz.func93, Tryz.ntmps93
    go_wp2
    all_goals first | (exfalso; omega) | (go_ret; exact ⟨by simp [noLet, h1, h2], 0, rfl⟩)
theorem contains_let (s : ByteArray) (w : World) : Calls Tryz.prog 92 #[.string s, .func (.func 93) #[] #[]] w fun e w' => e = .returned (.bool (!s.data.toList.all isLet)) ∧ Only NoneOf w w' :=
  (Tryz.strings_ContainsFunc 93 #[] (enters_of Tryz.func93 (by kernel_rfl) rfl) noLet s w (let_pred w)).mono fun e w' h => by
    obtain ⟨rfl, hb⟩ := h
    refine ⟨?_, Only.of_below hb _⟩
    have e : decide (0 ≤ Lib.idxFunc noLet true s) = !(s.data.toList.drop 0).all isLet := idx_let s s.size 0 (by omega)
    rw [e, List.drop_zero]
theorem ba_nil {s : ByteArray} : s = ⟨#[]⟩ ↔ s.data.toList = [] := ⟨fun h => by rw [h], fun h => ba_ext h⟩
set_option maxRecDepth 100000 in
set_option maxHeartbeats 400000 in
theorem isword_any (s : ByteArray) (w : World) : Calls Tryz.prog 61 #[.string s] w fun e w' => e = .returned (.bool (isWordL s.data.toList)) ∧ Only NoneOf w w' := by
  by_cases h0 : s = ⟨#[]⟩
  · subst h0
    go_enter Tryz.func61, Tryz.ntmps61
    go_wp2_with fail
    go_ret
    exact ⟨rfl, Only.refl _ _⟩
  · have b1 := tx_someF h0
    have hw : isWordL s.data.toList = s.data.toList.all isLet := by
      unfold isWordL
      have h2 : s.data.toList ≠ [] := fun e => h0 (ba_nil.2 e)
      cases hl : s.data.toList with
      | nil => exact absurd hl h2
      | cons c l => rfl
    rw [hw]
    clear h0 hw
    go_enter Tryz.func61, Tryz.ntmps61
    go_wp2_with fail
    refine (contains_let s w).mono ?_
    rintro e w1 ⟨rfl, ho⟩
    go_wp2_with fail
    go_ret
    exact ⟨by simp, ho⟩
def lotB : ByteArray := ⟨#[108, 111, 116]⟩
theorem lot_eq {s : ByteArray} : s = lotB ↔ s.data.toList = wLot := ⟨fun h => by rw [h]; rfl, fun h => ba_ext h⟩
theorem right_take {es : List En} {k : Nat} {e : En} (h : es[k]? = some e) (hr : rightL (es.take k) = true) (he : (e.values.all fun v => goodN v.name.data.toList) = true) : rightL (es.take (k + 1)) = true := by
  unfold rightL at hr ⊢
  rw [List.take_add_one, h, Option.toList_some, List.all_append, hr, List.all_cons, he]
  rfl
theorem vals_take {vs : List Vl} {j : Nat} {v : Vl} (h : vs[j]? = some v) (hr : ((vs.take j).all fun v => goodN v.name.data.toList) = true) (he : goodN v.name.data.toList = true) : ((vs.take (j + 1)).all fun v => goodN v.name.data.toList) = true := by
  rw [List.take_add_one, h, Option.toList_some, List.all_append, hr, List.all_cons, he]
  rfl
theorem not_right {es : List En} {e : En} {v : Vl} (he : e ∈ es) (hv : v ∈ e.values) (h : goodN v.name.data.toList = false) : rightL es = false := by
  cases hr : rightL es with
  | false => rfl
  | true => rw [right_val hr he hv] at h; cases h
/-- The cells of an entry, and of a value, in memory. -/
theorem vl_at {w : World} {v : Value} {vs : List Vl} (h : SlOf vlC 2 w v vs) : ∃ A cap, v = .slice A vs.length cap ∧ vs.length ≤ cap ∧ cap ≤ 9223372036854775807 ∧ ∀ (j : Nat) (x : Vl), vs[j]? = some x → ∃ g o, A = some ⟨g, o, none⟩ ∧ g < w.heap.size ∧ w.cell? ⟨g, o + j * 2, none⟩ = some (.string x.name) ∧ w.cell? ⟨g, o + j * 2 + 1, none⟩ = some (.int .i64 x.n) := by
  obtain ⟨A, cap, h1, h2, h3, h4⟩ := h
  refine ⟨A, cap, h1, h2, h3, fun j x hx => ?_⟩
  obtain ⟨g, o, hA, hg, hr⟩ := h4 j x hx
  exact ⟨g, o, hA, hg, hr 0 _ rfl, hr 1 _ rfl⟩
theorem en_at {w : World} {v : Value} {es : List En} (h : EnSl w v es) : ∃ A cap, v = .slice A es.length cap ∧ es.length ≤ cap ∧ cap ≤ 9223372036854775807 ∧ ∀ (i : Nat) (e : En), es[i]? = some e → ∃ g o u, A = some ⟨g, o, none⟩ ∧ g < w.heap.size ∧ w.cell? ⟨g, o + i * 5, none⟩ = some (.int .i64 0) ∧ w.cell? ⟨g, o + i * 5 + 1, none⟩ = some (.int .i64 e.lot) ∧ w.cell? ⟨g, o + i * 5 + 2, none⟩ = some (.int .i64 0) ∧ w.cell? ⟨g, o + i * 5 + 3, none⟩ = some (.int .i64 e.price) ∧ w.cell? ⟨g, o + i * 5 + 4, none⟩ = some u ∧ SlOf vlC 2 w u e.values := by
  obtain ⟨A, n, cap, rfl⟩ : ∃ A n cap, v = .slice A n cap := by
    obtain ⟨L, _, ⟨A, cap, hv, _⟩, _⟩ := h
    exact ⟨_, _, _, hv⟩
  obtain ⟨rfl, h1, h2, h3⟩ := h.at_
  refine ⟨A, cap, rfl, h1, h2, fun i e he => ?_⟩
  obtain ⟨g, o, c, hA, hg, hr, e1, e2, e3⟩ := h3 i e he
  refine ⟨g, o, c.v, hA, hg, hr 0 _ rfl, ?_, hr 2 _ rfl, ?_, hr 4 _ rfl, e3⟩
  · rw [← e1]; exact hr 1 _ rfl
  · rw [← e2]; exact hr 3 _ rfl
set_option maxRecDepth 100000 in
set_option maxHeartbeats 1000000 in
theorem right_any (es : List En) (v : Value) (w : World) (h : EnSl w v es) : Calls Tryz.prog 35 #[v] w fun e w' => e = .returned (.bool (rightL es)) ∧ Only NoneOf w w' := by
  obtain ⟨A, cap, rfl, hc1, hc2, hat⟩ := en_at h
  have HAT := Lib.hid hat
  clear hat h
  go_enter Tryz.func35, Tryz.ntmps35
  go_wp2_with fail
  go_loopw [9] (fun i wr => ∃ k : Nat, i = .int .i64 k ∧ k ≤ es.length ∧ rightL (es.take k) = true ∧ Only NoneOf w wr) (fun i _ => es.length - (intOf i).toNat)
  case atStart => exact ⟨0, rfl, Nat.zero_le _, rfl, Only.refl _ _⟩
  case round =>
    obtain ⟨k, rfl, hk, hr, ho⟩ := hrel
    have HR := Lib.hid hr
    have HO := Lib.hid ho
    clear hr ho
    by_cases hlt : k < es.length
    · obtain ⟨x, hx⟩ : ∃ x, es[k]? = some x := ⟨_, List.getElem?_eq_getElem hlt⟩
      obtain ⟨g, o, u, rfl, hg, c0, c1, c2, c3, c4, hvs⟩ := HAT.out k x hx
      obtain ⟨A2, cap2, rfl, hd1, hd2, hvat⟩ := vl_at hvs
      have d0 := HO.out.cell_some c0 (fun e => e)
      have d1 := HO.out.cell_some c1 (fun e => e)
      have d2 := HO.out.cell_some c2 (fun e => e)
      have d3 := HO.out.cell_some c3 (fun e => e)
      have d4 := HO.out.cell_some c4 (fun e => e)
      have HX := Lib.hid hx
      have HV := Lib.hid hvat
      have ik : (k : Int) < es.length := by omega
      have hxm := Lib.hid (List.mem_of_getElem? hx)
      clear hx hvat hvs c0 c1 c2 c3 c4
      go_wp2_with fail
      go_loopw [16] (fun i wr => ∃ j : Nat, i = .int .i64 j ∧ j ≤ x.values.length ∧ ((x.values.take j).all fun v => goodN v.name.data.toList) = true ∧ Only NoneOf w wr) (fun i _ => x.values.length - (intOf i).toNat)
      case atStart => exact ⟨0, rfl, Nat.zero_le _, rfl, HO.out.alloc _⟩
      case round =>
        obtain ⟨j, rfl, hj, hr2, ho2⟩ := hrel
        have HR2 := Lib.hid hr2
        have HO2 := Lib.hid ho2
        clear hr2 ho2 d0 d1 d2 d3 d4
        by_cases hlj : j < x.values.length
        · obtain ⟨y, hy⟩ : ∃ y, x.values[j]? = some y := ⟨_, List.getElem?_eq_getElem hlj⟩
          obtain ⟨g2, o2, rfl, hg2, c0, c1⟩ := HV.out j y hy
          have d0 := HO2.out.cell_some c0 (fun e => e)
          have d1 := HO2.out.cell_some c1 (fun e => e)
          have ij : (j : Int) < x.values.length := by omega
          have HY := Lib.hid hy
          have hbn := Blk.new wr 84 #[.string y.name, .int .i64 y.n]
          have HBN := Lib.hid hbn
          clear hy c0 c1 hbn
          go_wp2_with fail
          refine (isword_any y.name _).mono ?_
          rintro e w1 ⟨rfl, ho1⟩
          have e0 := (HBN.out.only ho1 (fun e => e)).cell 0
          simp only [List.getElem?_toArray, List.getElem?_cons_zero] at e0
          have HO3 := Lib.hid ((HO2.out.alloc _).trans ho1)
          clear ho1
          cases hw : isWordL y.name.data.toList with
          | false =>
            have hf : rightL es = false := not_right hxm.out (List.mem_of_getElem? HY.out) (by unfold goodN; rw [hw]; rfl)
            have HF := Lib.hid hf
            clear hf hw
            go_wp2_with fail
            go_ret
            exact ⟨by rw [HF.out]; rfl, HO3.out⟩
          | true =>
            by_cases hl : y.name = lotB
            · have hf : rightL es = false := not_right hxm.out (List.mem_of_getElem? HY.out) (by unfold goodN; rw [lot_eq.1 hl]; rfl)
              have HF := Lib.hid hf
              have b1 := tx_litT (lot_eq.1 hl)
              unfold wLot at b1
              clear hf hw hl
              go_wp2_with fail
              go_ret
              exact ⟨by rw [HF.out]; rfl, HO3.out⟩
            · have b1 := tx_litF (fun e => hl (lot_eq.2 e))
              unfold wLot at b1
              have hgd : goodN y.name.data.toList = true := by
                unfold goodN
                rw [hw, Bool.true_and]
                exact bne_iff_ne.2 (fun e => hl (lot_eq.2 e))
              have HG := Lib.hid (vals_take HY.out HR2.out hgd)
              clear hgd hw hl
              go_wp2_with fail
              go_roundw
              case rel => exact ⟨j + 1, by go_num, by omega, HG.out, HO3.out⟩
              case measure => simp [intOf]; omega
        · obtain rfl : j = x.values.length := by omega
          have ij : ¬ (x.values.length : Int) < x.values.length := by omega
          have hall := HR2.out
          rw [List.take_of_length_le (Nat.le_refl _)] at hall
          have HG := Lib.hid (right_take HX.out HR.out hall)
          clear hall
          go_wp2_with fail
          go_roundw
          case rel => exact ⟨k + 1, by go_num, by omega, HG.out, HO2.out⟩
          case measure => simp [intOf]; omega
    · obtain rfl : k = es.length := by omega
      have ik : ¬ (es.length : Int) < es.length := by omega
      have hall := HR.out
      rw [List.take_of_length_le (Nat.le_refl _)] at hall
      have HF := Lib.hid hall
      clear hall
      go_wp2_with fail
      go_ret
      exact ⟨by rw [HF.out]; rfl, HO.out⟩
end Go.Proofs.YtpdlbmieciabmaaGreatDoor
