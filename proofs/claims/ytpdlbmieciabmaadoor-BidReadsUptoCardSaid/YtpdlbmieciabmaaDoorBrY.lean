/- What is proved here: a quality text is read, by the reference's code. Conditions: the text is short. -/
import Derived.Test.YtpdlbmieciabmaaDoorBrW
import Derived.Test.YtpdlbmieciabmaaDoorBrX
namespace Go.Proofs.YtpdlbmieciabmaaDoor
open Go.RowKit Go.Shelf
attribute [local go_sem ↓ high] aph_eq
theorem Blk.ts {w w' : World} {g base : Nat} {t : TypeId} {ts : List TypeId} {cur : Array Value} (h : Blk w g t cur) (ho : Only (TS base w ts) w w') (ht : t ∉ ts) : Blk w' g t cur := h.only ho (fun hs => ht (hs.2 t cur h))
theorem EnOwn.cur {w w' : World} {base n C : Nat} {v : Value} {es : List En} {s : ByteArray} {a : Nat} {b : Bool} (h : EnOwn w base v n es) (hc : Cur w C s a b) (ho : Only (· = C) w w') : EnOwn w' base v n es := h.keep ho (fun b' cur e => by
  have e' : b' = C := e
  subst e'
  exact ⟨fun hb => Blk.ne_ hb hc (by decide) rfl, fun hb => Blk.ne_ hb hc (by decide) rfl⟩)
theorem only_new {w X W : World} {C : Nat} (h : Only NoneOf w X) (ho : Only (· = C) X W) (hC : w.heap.size ≤ C) : Only NoneOf w W := h.trans' ho (fun i hi e => by
  have e' : i = C := e
  omega)
/-- What the reader keeps. -/
structure RqS (s : ByteArray) (w : World) (C : Nat) (v : Value) (es : List En) (a : Nat) (bad : Bool) (W : World) : Prop where
  st : QSt s.data.toList a es bad
  le : a ≤ s.size
  few : es.length ≤ a + bad.toNat
  vals : ∀ e ∈ es, e.values.length ≤ a + bad.toNat
  own : EnOwn W w.heap.size v es.length es
  cur : Cur W C s a bad
  only : Only NoneOf w W
def rqK (s : ByteArray) (a : Nat) (bad : Bool) : Nat := if bad then 0 else s.size + 1 - a
set_option maxRecDepth 100000 in
set_option maxHeartbeats 4000000 in
theorem rreadq_any (s : ByteArray) (hs : s.size ≤ 4000000) (w : World) : Calls Tryd.prog 12 #[.string s] w (QRdE s w) := by
  obtain ⟨C, eC⟩ : ∃ C, C = w.heap.size := ⟨_, rfl⟩
  have hst : RqS s w C (.slice none 0 0) [] 0 false (w.alloc (.cells #[.string s, .int .i64 0, .bool false] tCur)) := ⟨QSt.new _, Nat.zero_le _, Nat.zero_le _, fun e he => (by cases he), EnOwn.nil _ _, by rw [eC]; exact Blk.new w _ _, (Only.refl _ _).alloc _⟩
  have HST := Lib.hid hst
  have HC := Lib.hid eC
  have hwC : w.heap.size ≤ C := by omega
  clear hst eC
  go_enter Tryd.func12, Tryd.ntmps12
  go_wp2_with fail
  rw [← HC.out]
  go_loopg [5] (rqK s 0 false) (fun k v wr => ∃ es a bad, k = rqK s a bad ∧ RqS s w C v es a bad wr)
  case atStart => exact ⟨[], 0, false, rfl, HST.out⟩
  case round =>
    obtain ⟨es, a, bad, rfl, hS⟩ := hrel
    obtain ⟨A, cap, rfl, hc1, hc2⟩ := hS.own.form
    have hle := hS.le
    have HS := Lib.hid hS
    clear hS
    go_wp2_with fail
    refine (more_any HS.out.cur (by omega)).mono ?_
    rintro e w1 ⟨rfl, ho1⟩
    have hown1 := HS.out.own.none_ ho1
    have hcur1 := HS.out.cur.only ho1 (fun e => e)
    have HO1 := Lib.hid (HS.out.only.trans ho1)
    have HOW1 := Lib.hid hown1
    have HCU1 := Lib.hid hcur1
    clear hown1 hcur1 ho1
    cases hm : (!bad && decide (a < s.size)) with
    | false =>
      obtain ⟨c0, c1, c2⟩ := HCU1.out.cells
      have HM := Lib.hid hm
      clear hm
      cases bad with
      | true =>
        have HF := Lib.hid (HS.out.st.2.1 rfl)
        go_wp2_with fail
        go_ret2
        exact QRdE.bad HF.out HO1.out
      | false =>
        have hge : s.data.toList.length ≤ a := by
          have h1 := HM.out
          rw [Bool.not_false, Bool.true_and] at h1
          have h2 := of_decide_eq_false h1
          rw [← size_list]
          omega
        have HF := Lib.hid (HS.out.st.full hge)
        go_wp2_with fail
        go_ret2
        exact QRdE.ok HF.out HOW1.out HO1.out
    | true =>
      rw [Bool.and_eq_true] at hm
      obtain ⟨hb, ha⟩ := hm
      have hbad : bad = false := by simpa using hb
      subst hbad
      have halt := of_decide_eq_true ha
      clear hb ha
      go_wp2_with fail
      refine (cword_any HCU1.out hle (by omega)).mono ?_
      rintro e w2 ⟨a1, t, rfl, hw, hl1, hts, hcur2, ho2⟩
      have HCU2 := Lib.hid hcur2
      have HOW2 := Lib.hid (HOW1.out.cur HCU1.out ho2)
      have HO2 := Lib.hid (only_new HO1.out ho2 hwC)
      have HW := Lib.hid hw
      clear hcur2 ho2 hw
      go_wp2_with fail
      refine (need_any HCU2.out hl1 (by omega) ⟨#[32]⟩ (by decide)).mono ?_
      rintro e w3 ⟨rfl, a2, b1, hn1, hl2, hcur3, ho3⟩
      have HCU3 := Lib.hid hcur3
      have HOW3 := Lib.hid (HOW2.out.cur HCU2.out ho3)
      have HO3 := Lib.hid (only_new HO2.out ho3 hwC)
      have HN1 := Lib.hid hn1
      clear hcur3 ho3 hn1
      go_wp2_with fail
      refine (number_any HCU3.out hl2 (by omega)).mono ?_
      rintro e w4 ⟨a3, n, b2, rfl, hn2, hl3, hcur4, ho4⟩
      have HCU4 := Lib.hid hcur4
      have HOW4 := Lib.hid (HOW3.out.cur HCU3.out ho4)
      have HO4 := Lib.hid (only_new HO3.out ho4 hwC)
      have HN2 := Lib.hid hn2
      clear hcur4 ho4 hn2
      go_wp2_with fail
      refine (need_any HCU4.out hl3 (by omega) ⟨#[10]⟩ (by decide)).mono ?_
      rintro e w5 ⟨rfl, a4, b3, hn3, hl4, hcur5, ho5⟩
      have HCU5 := Lib.hid hcur5
      have HOW5 := Lib.hid (HOW4.out.cur HCU4.out ho5)
      have HO5 := Lib.hid (only_new HO4.out ho5 hwC)
      obtain ⟨la, lb, hnin, hcase⟩ := line_c HW.out HN1.out HN2.out hn3
      have hlt : b3 = false → a < a4 := fun hb => by
        rcases hcase with ⟨_, hd⟩ | ⟨hb2, _⟩
        · have h1 := congrArg List.length hd
          rw [List.length_drop, List.length_append, List.length_cons, List.length_append, List.length_cons, List.length_drop] at h1
          omega
        · rw [hb] at hb2
          cases hb2
      have HLT := Lib.hid hlt
      have HCA := Lib.hid hcase
      have hal : a < s.data.toList.length := by rw [← size_list]; exact halt
      have hbadq : b3 = true → ∀ fs, QSt s.data.toList a4 fs true := fun hb fs => by
        rcases hcase with ⟨hb2, _⟩ | ⟨_, hd⟩
        · rw [hb] at hb2
          cases hb2
        · exact HS.out.st.bad hal lb hd
      have hgood : b3 = false → s.data.toList.drop a = t.data.toList ++ 32 :: (Lib.itoa n ++ 10 :: s.data.toList.drop a4) := fun hb => by
        rcases hcase with ⟨_, hd⟩ | ⟨hb2, _⟩
        · exact hd
        · rw [hb] at hb2
          cases hb2
      have HBQ := Lib.hid hbadq
      have HGD := Lib.hid hgood
      have hfew := HS.out.few
      have HVL := Lib.hid HS.out.vals
      have HWL := Lib.hid HW.out.2.2.2.1
      have HAL := Lib.hid hal
      have hb3n : b3.toNat ≤ 1 := by cases b3 <;> decide
      clear hcur5 ho5 hn3 hcase hlt hbadq hgood hal HW HN1 HN2 HO4 HO3 HO2 HO1 HCU1 HCU2 HCU3 HCU4 HOW1 HOW2 HOW3 HOW4
      have hmes : rqK s a4 b3 < rqK s a false := by
        unfold rqK
        cases b3 with
        | true => simp; omega
        | false => have := HLT.out rfl; simp; omega
      have HME := Lib.hid hmes
      clear hmes
      by_cases ht : t = lotB
      · have b1 := tx_litT (lot_eq.1 ht)
        unfold wLot at b1
        have hst' : QSt s.data.toList a4 (es ++ [⟨n, 0, []⟩]) b3 := by
          cases hb : b3 with
          | true => exact HBQ.out hb _
          | false => exact HS.out.st.lot lb hnin (by have := HGD.out hb; rw [lot_eq.1 ht] at this; exact this)
        have hf1 : es.length + 1 ≤ a4 + b3.toNat := by
          rw [Bool.toNat_false] at hfew
          cases hb : b3 with
          | true => show _ ≤ a4 + 1; omega
          | false => have := HLT.out hb; show _ ≤ a4 + 0; omega
        have hx : Only NoneOf w5 (w5.alloc (.cells #[.int .i64 0, .int .i64 n, .int .i64 0, .int .i64 0, .slice none 0 0] 47)) := (Only.refl _ _).alloc _
        obtain ⟨A5, cap5, W', hrun, k1, k2⟩ := run_append_lot (w5.alloc (.cells #[.int .i64 0, .int .i64 n, .int .i64 0, .int .i64 0, .slice none 0 0] 47)) w.heap.size (.slice A es.length cap) es ⟨n, 0, .slice none 0 0⟩ ⟨n, 0, []⟩ (HOW5.out.none_ hx) ⟨rfl, rfl, OwnOf.nil _ _ _ _ _⟩ (fun _ _ _ _ _ _ e => by cases e) w5.heap.size (Blk.new w5 _ _) (by rw [Bool.toNat_false] at hfew; omega) (Nat.le_trans HO5.out.size hx.size) 29
        have HNEW : Hid (RqS s w C (.slice A5 (es.length + 1) cap5) (es ++ [⟨n, 0, []⟩]) a4 b3 W') := Lib.hid ⟨hst', hl4, by rw [List.length_append, List.length_singleton]; exact hf1, fun x hx => by
            rcases List.mem_append.1 hx with hx | hx
            · have := HVL.out x hx
              rw [Bool.toNat_false] at this
              omega
            · obtain rfl := List.mem_singleton.1 hx
              exact Nat.zero_le _, by rw [List.length_append, List.length_singleton]; exact k1, Blk.ts (HCU5.out.only hx (fun e => e)) k2 (by decide), only_base (HO5.out.trans hx) (ts_base k2) (Nat.le_refl _)⟩
        clear k1 k2 hx hst' hf1 ht
        go_wp2_with fail
        go_roundg (rqK s a4 b3)
        case rel => exact ⟨_, a4, b3, rfl, HNEW.out⟩
        case measure => exact HME.out
      · have b1 := tx_litF (fun e => ht (lot_eq.2 e))
        unfold wLot at b1
        have hno : ∀ (h : t.data.toList = [] ∨ (es = [] ∧ t.data.toList ≠ wLot)), ∀ fs, ¬ QRd s.data.toList fs := fun h => by
          cases hb : b3 with
          | true => exact (HBQ.out hb []).2.1 rfl
          | false => exact HS.out.st.none HAL.out HWL.out (HGD.out hb) h
        have HNO := Lib.hid hno
        clear hno
        by_cases ht0 : t = ⟨#[]⟩
        · have b2 := tx_someT ht0
          have HF := Lib.hid (HNO.out (.inl (by rw [ht0])))
          clear ht ht0
          go_wp2_with fail
          go_ret2
          exact QRdE.bad HF.out HO5.out
        · have b2 := tx_someF ht0
          by_cases h0 : es = []
          · have HF := Lib.hid (HNO.out (.inr ⟨h0, fun e => ht (lot_eq.2 e)⟩))
            subst h0
            clear ht ht0
            go_wp2_with fail
            go_ret2
            exact QRdE.bad HF.out HO5.out
          · obtain ⟨es0, x, rfl⟩ : ∃ a b, es = a ++ [b] := ⟨es.dropLast, es.getLast h0, (List.dropLast_concat_getLast h0).symm⟩
            have hl : (es0 ++ [x]).length = es0.length + 1 := by simp
            have hst' : QSt s.data.toList a4 (es0 ++ [{ x with values := x.values ++ [⟨t, n⟩] }]) b3 := by
              cases hb : b3 with
              | true => exact HBQ.out hb _
              | false => exact HS.out.st.val lb hnin rfl HWL.out (fun e => ht0 (ba_ext e)) (fun e => ht (lot_eq.2 e)) (HGD.out hb)
            have hxv := HVL.out x (by simp)
            rw [Bool.toNat_false] at hxv hfew
            rw [hl] at hfew
            have hf1 : es0.length + 1 ≤ a4 + b3.toNat := by omega
            have hf2 : x.values.length + 1 ≤ a4 + b3.toNat := by
              cases hb : b3 with
              | true => show _ ≤ a4 + 1; omega
              | false => have := HLT.out hb; show _ ≤ a4 + 0; omega
            obtain ⟨G, rfl⟩ : ∃ G, A = some ⟨G, 0, none⟩ := by
              obtain ⟨L, hL⟩ := HOW5.out
              obtain ⟨G, c, e5, _⟩ := own_form hL.own (by rw [hl]; omega)
              simp only [Value.slice.injEq] at e5
              exact ⟨G, e5.1⟩
            have hen := HOW5.out
            rw [hl] at hen
            obtain ⟨A6, k6, hc6, hf6, happ⟩ := run_append_value w5 w.heap.size G cap es0 x ⟨t, n⟩ hen (by omega) HO5.out.size w5.heap.size 45
            have hx : Only NoneOf w5 (w5.alloc (.cells #[.string t, .int .i64 n] 50)) := (Only.refl _ _).alloc _
            obtain ⟨A7, k7, W', hrun, hf7, hc7, hen7, ho7⟩ := happ _ hx (Blk.new w5 _ _)
            have HNEW : Hid (RqS s w C (.slice (some ⟨G, 0, none⟩) (es0.length + 1) cap) (es0 ++ [{ x with values := x.values ++ [⟨t, n⟩] }]) a4 b3 (W'.setCell ⟨G, es0.length * 5 + 4, none⟩ (.slice A7 (x.values.length + 1) k7))) := Lib.hid ⟨hst', hl4, by rw [List.length_append, List.length_singleton]; exact hf1, fun y hy => by
                rcases List.mem_append.1 hy with hy | hy
                · have := HVL.out y (by simp [hy])
                  rw [Bool.toNat_false] at this
                  omega
                · obtain rfl := List.mem_singleton.1 hy
                  show (x.values ++ [(⟨t, n⟩ : Vl)]).length ≤ _
                  rw [List.length_append, List.length_singleton]
                  exact hf2, by rw [List.length_append, List.length_singleton]; exact hen7, Blk.ts HCU5.out ho7 (by decide), only_base HO5.out (ts_base ho7) (Nat.le_refl _)⟩
            have c6 := hx.cell_some hc6 (fun e => e)
            have l0 : (es0.length : Int) < (es0.length : Int) + 1 := by omega
            have l1 : (0 : Int) ≤ (es0.length : Int) := by omega
            have l2 : IntKind.i64.wrap (es0.length : Int) = (es0.length : Int) := IntWalk.i64_in _ (by omega)
            clear happ hen hx hen7 ho7 ht ht0 h0 hst' hf1 hf2 hxv
            rw [hl] at hc1 ⊢
            go_wp2_with fail
            go_roundg (rqK s a4 b3)
            case rel => exact ⟨_, a4, b3, rfl, HNEW.out⟩
            case measure => exact HME.out
end Go.Proofs.YtpdlbmieciabmaaDoor
