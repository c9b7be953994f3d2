/- What is proved here: the coefficients out of a seed. Conditions: the table of powers of ten reads as its initialiser lays it; the seed is short. -/
import Derived.Test.YtdgapomeenigbaaDoorFieldB
import Derived.Deep.OwnRows
namespace Go.Proofs.YtdgapomeenigbaaDoor
open Go.RowKit Go.Shelf
def q0 : Int := 1152921504606845789
def coefS (l : List UInt8) (i : Nat) : List UInt8 := [99, 111, 101, 102, 47] ++ Lib.itoa (i : Int) ++ [47] ++ l
def coefN (l : List UInt8) (i : Nat) : Int := hashF q0 (coefS l i)
def iv (n : Int) : Value := .int .i64 n
def coefL (l : List UInt8) (k : Nat) : List Int := (List.range k).map (coefN l)
def rowC (l : List UInt8) (k i : Nat) : List Value := (coefL l i).map iv ++ List.replicate (k - i) (iv 0)
theorem coefL_len (l : List UInt8) (k : Nat) : (coefL l k).length = k := by simp [coefL]
theorem rowC_len (l : List UInt8) (k i : Nat) (h : i ≤ k) : (rowC l k i).length = k := by simp [rowC, coefL_len]; omega
theorem rowC_at (l : List UInt8) (k i : Nat) (h : i < k) : (rowC l k i)[i]? = some (iv 0) := by
  rw [rowC, List.getElem?_append_right (by simp [coefL_len]), List.length_map, coefL_len, Nat.sub_self, List.getElem?_replicate]
  simp; omega
theorem rowC_set (l : List UInt8) (k i : Nat) (h : i < k) : (rowC l k i).set i (iv (coefN l i)) = rowC l k (i + 1) := by
  rw [rowC, rowC, List.set_append_right _ _ (by simp [coefL_len]), List.length_map, coefL_len, Nat.sub_self, show k - i = (k - (i + 1)) + 1 by omega, List.replicate_succ, List.set_cons_zero, coefL, coefL, List.range_succ, List.map_append, List.map_append, List.append_assoc]
  rfl
theorem rowC_all (l : List UInt8) (k : Nat) : rowC l k k = (coefL l k).map iv := by simp [rowC]
theorem coefS_list (s t : ByteArray) (i : Nat) (ht : t.data.toList = Lib.itoa (i : Int)) : ((⟨#[99, 111, 101, 102, 47]⟩ ++ t ++ ⟨#[47]⟩ ++ s : ByteArray)).data.toList = coefS s.data.toList i := by
  rw [append_list, append_list, append_list, ht]; rfl
theorem coefS_fits (s t : ByteArray) (hs : s.size ≤ 17592186044416) (ht : t.size ≤ 21) : ((⟨#[99, 111, 101, 102, 47]⟩ ++ t ++ ⟨#[47]⟩ ++ s : ByteArray)).size ≤ 35184372088832 := by
  have z6 : (⟨#[99, 111, 101, 102, 47]⟩ : ByteArray).size = 5 := rfl
  have z1 : (⟨#[47]⟩ : ByteArray).size = 1 := rfl
  simp only [ByteArray.size_append]; omega
theorem madeRow (k : Nat) (l : List UInt8) : madeCells #[Value.int .i64 0] k = (rowC l k 0).toArray := by
  apply Array.ext'
  apply List.ext_getElem?
  intro i
  by_cases h : i < k
  · simp [madeCells, rowC, coefL, iv, h, Nat.mod_one]
  · simp [madeCells, rowC, coefL, h]
theorem info_int : (Tryd.prog.info? 3).map (fun i => (i.zero, i.size, i.bytes)) = some (some (.int .i64 0), 1, 8) := by kernel_rfl
set_option maxRecDepth 100000 in
set_option maxHeartbeats 400000 in
theorem coefs_any (s : ByteArray) (hs : s.size ≤ 17592186044416) (k : Nat) (hk0 : 1 ≤ k) (hk : k ≤ 13) (w : World) (ht : Tab w) :
    Calls Tryd.prog 19 #[.string s, .int .i64 (k : Int)] w fun e w' => ∃ g c, e = .returned (.slice (some ⟨g, 0, none⟩) k c) ∧ w.heap.size ≤ g ∧ k ≤ c ∧ Blk w' g 3 ((coefL s.data.toList k).map iv).toArray ∧ Only NoneOf w w' := by
  have HT := Lib.hid ht
  clear ht
  have k1 : ¬ (k : Int) < 1 := by omega
  have k13 : ¬ 13 < (k : Int) := by omega
  have hmk := run_make_row' (P := Tryd.prog) 36 3 (.int .i64 0) 8 Tryd.underlying36 info_int rfl .i64 .i64 k (by omega) (by omega) w
  rw [madeRow k s.data.toList] at hmk
  go_enter Tryd.func19, Tryd.ntmps19
  go_wp2_with fail
  clear hmk
  go_loopw [17] (fun v wr => ∃ i : Nat, v = .int .i64 i ∧ i ≤ k ∧ Blk wr w.heap.size 3 (rowC s.data.toList k i).toArray ∧ Only NoneOf w wr) (fun v _ => k - (intOf v).toNat)
  case atStart => exact ⟨0, rfl, by omega, Blk.new w _ _, (Only.refl NoneOf w).alloc _⟩
  case round =>
    obtain ⟨i, rfl, hi, hb, ho⟩ := hrel
    by_cases hlt : i < k
    · have HB := Lib.hid hb
      have HO := Lib.hid ho
      have HLEN := Lib.hid (itoa_len (n := (i : Int)) (by omega) (by omega))
      have ik : (i : Int) < (k : Int) := by omega
      have i0 : 0 ≤ (i : Int) := by omega
      have ik2 : i < k := hlt
      clear hb ho hlt
      go_wp2_with fail
      refine (itoa_any (i : Int) (by omega) (by omega) _ (HT.out.none HO.out)).mono ?_
      rintro e w1 ⟨t, rfl, htl, ho1⟩
      have hts : t.size ≤ 21 := by rw [size_list, htl]; exact HLEN.out
      have HTL := Lib.hid htl
      have HO1 := Lib.hid ho1
      clear htl ho1
      go_wp2_with fail
      refine (fHash_any _ 1152921504606845789 (coefS_fits s t hs hts) (by omega) (by omega) _).mono ?_
      rintro e w2 ⟨rfl, ho2⟩
      rw [coefS_list s t i HTL.out]
      obtain ⟨c, ec⟩ : ∃ c, c = hashF 1152921504606845789 (coefS s.data.toList i) := ⟨_, rfl⟩
      rw [← ec]
      have hb2 : Blk w2 w.heap.size 3 (rowC s.data.toList k i).toArray := HB.out.only (HO1.out.trans ho2) (fun h => h)
      have hc2 : w2.cell? ⟨w.heap.size, i, none⟩ = some (iv 0) := by rw [hb2.cell, List.getElem?_toArray, rowC_at _ _ _ ik2]
      have hf2 := hb2.frozen i
      have HB2 := Lib.hid hb2
      have HO2 := Lib.hid ho2
      have EC := Lib.hid ec
      clear ec hb2 ho2
      go_wp2_with fail
      go_roundw
      case rel =>
        refine ⟨i + 1, by go_num, by omega, ?_, ((HO.out.trans (HO1.out.trans HO2.out)).setCell (.inr (Nat.le_refl _)) _)⟩
        have := HB2.out.set_ i (iv c)
        rw [List.setIfInBounds_toArray, EC.out] at this
        have e := rowC_set s.data.toList k i ik2
        unfold coefN q0 at e
        rw [e] at this
        rw [EC.out]
        exact this
      case measure => simp [intOf]; omega
    · obtain rfl : i = k := by omega
      have HB := Lib.hid hb
      have HO := Lib.hid ho
      clear hb ho
      go_wp2_with fail
      go_ret
      exact ⟨_, _, rfl, Nat.le_refl _, Nat.le_refl _, by rw [← rowC_all]; exact HB.out, HO.out⟩
end Go.Proofs.YtdgapomeenigbaaDoor
