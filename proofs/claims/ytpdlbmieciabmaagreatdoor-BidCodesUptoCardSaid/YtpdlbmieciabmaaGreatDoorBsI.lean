/- What is proved here: a text in hexadecimal is turned back, by the bids' code. Condition: the text is short. -/
import Derived.Test.YtpdlbmieciabmaaGreatDoorB2
import Derived.Test.YtpdlbmieciabmaaGreatDoorQ1
import Derived.Test.YtpdlbmieciabmaaGreatDoorShelf
import Derived.Deep.RegionLaw
namespace Go.Proofs.YtpdlbmieciabmaaGreatDoor
open Go.RowKit Go.Shelf
abbrev hexDs : List UInt8 := [48, 49, 50, 51, 52, 53, 54, 55, 56, 57, 97, 98, 99, 100, 101, 102]
theorem idx_x0 : ∀ n : Fin 256, Lib.indexByte hexDs (UInt8.ofNat n.val) = dgt (UInt8.ofNat n.val) := by decide +kernel
theorem idx_x (x : UInt8) : Lib.indexByte [48, 49, 50, 51, 52, 53, 54, 55, 56, 57, 97, 98, 99, 100, 101, 102] x = dgt x := by
  have h := idx_x0 ⟨x.toNat, x.toNat_lt⟩
  have e : UInt8.ofNat x.toNat = x := UInt8.ofNat_toNat
  simp only [e] at h
  exact h
theorem or_two : ∀ m n : Fin 16, bits BinOp.or .i64 (wrap64 (((m.val : Nat) : Int) * 16)) ((n.val : Nat) : Int) % 256 = ((16 * m.val + n.val : Nat) : Int) := by decide +kernel
theorem or_two' : ∀ m n : Fin 16, bits BinOp.or .i64 (((m.val : Nat) : Int) * 16) ((n.val : Nat) : Int) % 256 = ((16 * m.val + n.val : Nat) : Int) := by decide +kernel
theorem even_bool (n : Nat) : decide (n % 2 = 0) = ((n : Int) % 2 == 0) := by
  by_cases h : n % 2 = 0
  · rw [decide_eq_true h]; symm; exact beq_iff_eq.2 (by omega)
  · rw [decide_eq_false h]; symm; exact beq_eq_false_iff_ne.2 (by omega)
/-- What was turned back so far. -/
def PlI (s : List UInt8) (k : Nat) (l : List UInt8) : Prop := k = 2 * l.length ∧ k ≤ s.length ∧ s.take k = hexL l
theorem PlI.new (s : List UInt8) : PlI s 0 [] := ⟨rfl, Nat.zero_le _, rfl⟩
theorem PlI.step {s l : List UInt8} {k : Nat} {x y : UInt8} (h : PlI s k l) (hx : s[k]? = some x) (hy : s[k + 1]? = some y) (dx : 0 ≤ dgt x) (dy : 0 ≤ dgt y) : PlI s (k + 2) (l ++ [twoD x y]) := by
  obtain ⟨h1, h2, h3⟩ := h
  have hl := (List.getElem?_eq_some_iff.1 hy).1
  refine ⟨by rw [List.length_append, List.length_singleton]; omega, by omega, ?_⟩
  rw [show k + 2 = (k + 1) + 1 from rfl, List.take_add_one, List.take_add_one, hx, hy, h3, hexL_app, hexL_two dx dy]
  simp
theorem PlI.no {s l : List UInt8} {k : Nat} {x y : UInt8} (h : PlI s k l) (hx : s[k]? = some x) (hy : s[k + 1]? = some y) (hd : ¬ (0 ≤ dgt x ∧ 0 ≤ dgt y)) : PlainR s ⟨#[]⟩ false := fun z hz => by
  obtain ⟨h1, h2, h3⟩ := h
  have hl := (List.getElem?_eq_some_iff.1 hy).1
  have hzl : s.length = 2 * z.length := by rw [hz, hexL_len]
  obtain ⟨c, hc⟩ : ∃ c, z[l.length]? = some c := ⟨_, List.getElem?_eq_getElem (by omega)⟩
  have e : hexL z = hexL (z.take l.length) ++ (hexC (c.toNat / 16) :: hexC (c.toNat % 16) :: hexL (z.drop (l.length + 1))) := by
    have e1 : z = z.take l.length ++ (c :: z.drop (l.length + 1)) := by
      have h := (List.getElem?_eq_some_iff.1 hc)
      rw [← h.2, List.getElem_cons_drop, List.take_append_drop]
    conv => lhs; rw [e1]
    rw [hexL_app]
    rfl
  have hk : (hexL (z.take l.length)).length = k := by rw [hexL_len, List.length_take]; omega
  rw [hz, e] at hx hy
  rw [List.getElem?_append_right (by omega), hk, Nat.sub_self] at hx
  rw [List.getElem?_append_right (by omega), hk, show k + 1 - k = 1 by omega] at hy
  simp only [List.getElem?_cons_zero, Option.some.injEq] at hx
  simp only [List.getElem?_cons_succ, List.getElem?_cons_zero, Option.some.injEq] at hy
  have hh := hex_dgt c
  rw [hx, hy] at hh
  exact absurd ⟨hh.1, hh.2.1⟩ hd
theorem PlI.end_ {s l : List UInt8} {k : Nat} (h : PlI s k l) (hk : s.length ≤ k + 1) : PlainR s ⟨l.toArray⟩ (decide (s.length % 2 = 0)) := fun z hz => by
  obtain ⟨h1, h2, h3⟩ := h
  have hzl : s.length = 2 * z.length := by rw [hz, hexL_len]
  have hks : k = s.length := by omega
  rw [hks, List.take_length, hz] at h3
  exact ⟨decide_eq_true (by omega), by rw [← hexL_inj h3]⟩
theorem IsB.drew {B b : Nat} {l : List Value} {w : World} (h : Lib.IsBuilder 104 5 B b l w) : Lib.IsBuilder 104 5 B b l w.drew := h
/-- What the turning back of a text answers. -/
def PlE (s : ByteArray) (w : World) (e : Ending) (w' : World) : Prop := ∃ t ok, e = .returned (.tuple #[.string t, .bool ok]) ∧ PlainR s.data.toList t ok ∧ t.size ≤ s.size ∧ Only NoneOf w w'
theorem PlE.mk {s t : ByteArray} {ok : Bool} {w w' : World} (h : PlainR s.data.toList t ok) (ht : t.size ≤ s.size) (ho : Only NoneOf w w') : PlE s w (.returned (.tuple #[.string t, .bool ok])) w' := ⟨t, ok, rfl, h, ht, ho⟩
set_option maxRecDepth 100000 in
set_option maxHeartbeats 2000000 in
theorem plain_any (s : ByteArray) (hs : s.size ≤ 1000000000) (w : World) : Calls Tryz.prog 41 #[.string s] w (PlE s w) := by
  have hb0 := Lib.fresh_isBuilder 104 5 w
  have ho0 : Only NoneOf w (w.alloc (.cells #[.pointer none, .slice none 0 0] 104)) := (Only.refl _ _).alloc _
  have hc0 : (w.alloc (.cells #[.pointer none, .slice none 0 0] 104)).cell? ⟨w.heap.size, 1, none⟩ = some (.slice none 0 0) := Blk.cell (Blk.new w 104 #[.pointer none, .slice none 0 0]) 1
  obtain ⟨Y, eY⟩ : ∃ Y, Y = w.alloc (.cells #[.pointer none, .slice none 0 0] 104) := ⟨_, rfl⟩
  rw [← eY] at hb0 ho0 hc0
  obtain ⟨B, eB⟩ : ∃ B, B = w.heap.size := ⟨_, rfl⟩
  have hBw : w.heap.size ≤ B := by omega
  have hBY : B ≤ Y.heap.size := by rw [eY, eB]; simp
  rw [← eB] at hb0 hc0
  have HB1 := Lib.hid hb0
  have HO1 := Lib.hid ho0
  have HC1 := Lib.hid hc0
  have EY := Lib.hid eY
  have EB := Lib.hid eB
  have hsl := size_list s
  have HSL := Lib.hid hsl
  clear hb0 ho0 hc0 eY eB hsl
  go_enter Tryz.func41, Tryz.ntmps41
  go_wp2_with fail
  rw [← EY.out]
  rw [← EB.out]
  go_loopw [5] (fun i wr => ∃ (k : Nat) (l : List UInt8), i = .int .i64 k ∧ PlI s.data.toList k l ∧ Lib.IsBuilder 104 5 B B (Lib.byteCells l) wr ∧ Only NoneOf w wr ∧ B ≤ wr.heap.size ∧ (k = 0 → wr.cell? ⟨B, 1, none⟩ = some (.slice none 0 0))) (fun i _ => s.size - (intOf i).toNat)
  case atStart => exact ⟨0, [], rfl, PlI.new _, HB1.out, HO1.out, hBY, fun _ => HC1.out⟩
  case round =>
    obtain ⟨k, l, rfl, hpl, hb, ho, hB, hz⟩ := hrel
    have hk : k ≤ s.size := by rw [size_list]; exact hpl.2.1
    have hll : l.length ≤ 1000000000 := by have := hpl.1; omega
    have HPL := Lib.hid hpl
    have HB := Lib.hid hb
    have HO := Lib.hid ho
    have HZ := Lib.hid hz
    clear hb ho hz hpl
    have wk1 : IntKind.i64.wrap ((k : Int) + 1) = (k : Int) + 1 := IntWalk.i64_in _ (by omega)
    have wk2 : IntKind.i64.wrap ((k : Int) + 2) = (k : Int) + 2 := IntWalk.i64_in _ (by omega)
    by_cases hlt : k + 1 < s.size
    · obtain ⟨x, hx⟩ : ∃ x, s.data.toList[k]? = some x := ⟨_, List.getElem?_eq_getElem (by rw [← size_list]; omega)⟩
      obtain ⟨y, hy⟩ : ∃ y, s.data.toList[k + 1]? = some y := ⟨_, List.getElem?_eq_getElem (by rw [← size_list]; omega)⟩
      have ik : (k : Int) + 1 < s.size := by omega
      have i0 : (0 : Int) ≤ (k : Int) := by omega
      have i1 : (0 : Int) ≤ (k : Int) + 1 := by omega
      have ik0 : (k : Int) < s.size := by omega
      have hk0 : k < s.size := by omega
      have hsx : s[k]'hk0 = x := by
        have e : s.data.toList[k]? = some (s[k]'hk0) := by rw [Array.getElem?_toList]; exact Array.getElem?_eq_getElem _
        rw [hx] at e
        exact (Option.some.inj e).symm
      have hsy : s[k + 1]'hlt = y := by
        have e : s.data.toList[k + 1]? = some (s[k + 1]'hlt) := by rw [Array.getElem?_toList]; exact Array.getElem?_eq_getElem _
        rw [hy] at e
        exact (Option.some.inj e).symm
      have HX := Lib.hid hx
      have HY := Lib.hid hy
      clear hx hy
      have ex := idx_x x
      have ey := idx_x y
      obtain ⟨p, ep⟩ : ∃ p, p = dgt x := ⟨_, rfl⟩
      obtain ⟨q, eq⟩ : ∃ q, q = dgt y := ⟨_, rfl⟩
      rw [← ep] at ex
      rw [← eq] at ey
      have EP := Lib.hid ep
      have EQ := Lib.hid eq
      clear ep eq
      by_cases hd : 0 ≤ p ∧ 0 ≤ q
      · obtain ⟨m, rfl⟩ : ∃ m : Nat, p = (m : Int) := ⟨p.toNat, by omega⟩
        obtain ⟨n, rfl⟩ : ∃ n : Nat, q = (n : Int) := ⟨q.toNat, by omega⟩
        have hm16 : m < 16 := by have h1 := dgt_lt x; have h2 := EP.out; omega
        have hn16 : n < 16 := by have h1 := dgt_lt y; have h2 := EQ.out; omega
        have hor := or_two ⟨m, hm16⟩ ⟨n, hn16⟩
        have htw := twoD_nat (x := x) (y := y) (by rw [← EP.out]; omega) (by rw [← EQ.out]; omega)
        rw [← EP.out, ← EQ.out, Int.toNat_natCast, Int.toNat_natCast] at htw
        have hor2 := or_two' ⟨m, hm16⟩ ⟨n, hn16⟩
        simp only at hor hor2
        rw [← htw] at hor hor2
        have n1 : ¬ (m : Int) < 0 := by omega
        have n2 : ¬ (n : Int) < 0 := by omega
        have HST := Lib.hid (HPL.out.step HX.out HY.out (by rw [← EP.out]; omega) (by rw [← EQ.out]; omega))
        clear htw hd
        go_upto_region 5 with (fail)
        go_region_law (first
          | (go_simp; go_at_call 70; refine (Tryz.strings_IndexByte _ _ _).mono ?_; rintro e5 w5 ⟨rfl, rfl⟩))
        all_goals
          go_wp2_with fail
          refine (wwb_any (l := l) (c := twoD x y) (w := wr.drew) (IsB.drew HB.out) (by omega) hB).mono ?_
          rintro e w1 ⟨rfl, hb1, hbel1⟩
          have HO2 := Lib.hid (HO.out.drew.below' hbel1 hBw)
          have hB2 : B ≤ w1.heap.size := Nat.le_trans hB hbel1.size
          have HB2 := Lib.hid hb1
          clear hb1 hbel1
          go_wp2_with fail
          go_roundw
          case rel => exact ⟨k + 2, l ++ [twoD x y], by go_num, HST.out, HB2.out, HO2.out, hB2, fun h => by omega⟩
          case measure => simp [intOf]; omega
      · have hno : PlainR s.data.toList ⟨#[]⟩ false := HPL.out.no HX.out HY.out (by rw [← EP.out, ← EQ.out]; exact hd)
        have HNO := Lib.hid hno
        clear hno
        have hor2 : p < 0 ∨ (¬ p < 0 ∧ q < 0) := by omega
        clear hd
        rcases hor2 with n1 | ⟨n1, n2⟩
        all_goals
          go_upto_region 5 with (fail)
          go_region_law (first
            | (go_simp; go_at_call 70; refine (Tryz.strings_IndexByte _ _ _).mono ?_; rintro e5 w5 ⟨rfl, rfl⟩))
          all_goals
            go_wp2_with fail
            go_ret2
            exact PlE.mk HNO.out (Nat.zero_le _) HO.out.drew
    · have ik : ¬ (k : Int) + 1 < s.size := by omega
      have hend : PlainR s.data.toList ⟨l.toArray⟩ (decide (s.data.toList.length % 2 = 0)) := HPL.out.end_ (by rw [← size_list]; omega)
      rw [← size_list, even_bool] at hend
      have HEND := Lib.hid hend
      have hlk := HPL.out.1
      have HLS := Lib.hid (show (⟨l.toArray⟩ : ByteArray).size ≤ s.size by show l.toArray.size ≤ s.size; rw [List.size_toArray]; omega)
      clear hend
      by_cases hk0 : k = 0
      · obtain rfl : l = [] := List.eq_nil_of_length_eq_zero (by omega)
        have HC := Lib.hid (HZ.out hk0)
        clear HZ
        go_wp2_with fail
        refine (wstring_none HC.out).mono ?_
        rintro e w1 ⟨rfl, hon⟩
        have HO1 := Lib.hid (HO.out.trans hon)
        clear hon
        go_wp2_with fail
        go_ret2
        exact PlE.mk HEND.out HLS.out HO1.out
      · have HH := Lib.hid (show l ≠ [] from fun e => hk0 (by rw [hlk, e]; rfl))
        clear HZ
        go_wp2_with fail
        refine (wstring_any HB.out HH.out).mono ?_
        rintro e w1 ⟨rfl, hbel⟩
        have HO1 := Lib.hid (HO.out.below' hbel hBw)
        clear hbel
        go_wp2_with fail
        go_ret2
        exact PlE.mk HEND.out HLS.out HO1.out
end Go.Proofs.YtpdlbmieciabmaaGreatDoor
