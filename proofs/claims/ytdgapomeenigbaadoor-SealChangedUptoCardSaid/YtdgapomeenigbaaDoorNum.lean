/- What is proved here: the reference's decimal texts of integers. Conditions: the integers have 64 bits. -/
import Derived.Test.YtdgapomeenigbaaDoorShaI
import Derived.Lib.ItoaNum
namespace Go.Proofs.YtdgapomeenigbaaDoor
open Go.RowKit

/-- The call returned a string with these bytes, and all that lay lies as it lay. -/
def RetStr (l : List UInt8) (w : World) (e : Ending) (w' : World) : Prop := ∃ t : ByteArray, e = .returned (.string t) ∧ t.data.toList = l ∧ Only NoneOf w w'
theorem RetStr.mk {l : List UInt8} {w w' : World} {t : ByteArray} (h : t.data.toList = l) (ho : Only NoneOf w w') : RetStr l w (.returned (.string t)) w' := ⟨t, rfl, h, ho⟩
theorem size_list (t : ByteArray) : t.size = t.data.toList.length := by simp
theorem dec_len (k : Nat) : ∀ u, u < 10 ^ (k + 1) → (Lib.decDigits u).length ≤ k + 1 := by
  induction k with
  | zero => intro u h; rw [Lib.decDigits, dif_pos (by simpa using h)]; simp
  | succ k ih =>
    intro u h
    rw [Lib.decDigits]
    split
    · simp
    · rw [List.length_append]
      have := ih (u / 10) (by rw [Nat.pow_succ] at h; omega)
      simp; omega
theorem dec_small {u : Nat} (h : u < 10) : Lib.decDigits u = [UInt8.ofNat (48 + u)] := by rw [Lib.decDigits, dif_pos h]
theorem dec_big {u : Nat} (h : ¬ u < 10) : Lib.decDigits u = Lib.decDigits (u / 10) ++ [UInt8.ofNat (48 + u % 10)] := by
  conv => lhs; rw [Lib.decDigits, dif_neg h]
theorem dec_len20 {u : Nat} (h : u < 18446744073709551616) : (Lib.decDigits u).length ≤ 20 := dec_len 19 u (by omega)
theorem itoa_len {n : Int} (h0 : -9223372036854775808 ≤ n) (h1 : n ≤ 9223372036854775807) : (Lib.itoa n).length ≤ 21 := by
  unfold Lib.itoa
  split
  · have := dec_len20 (u := n.natAbs) (by omega); simp; omega
  · have := dec_len20 (u := n.toNat) (by omega); omega
set_option maxHeartbeats 400000 in
theorem digit_any (u : Nat) (hu : u < 10) (w : World) : Calls Tryd.prog 48 #[.int .i64 (u : Int)] w (RetStr (Lib.decDigits u) w) := by
  have hr : (u : Int) < 10 := by omega
  have h0 : ¬ (u : Int) < 0 := by omega
  have hd : decide ((u : Int) < 0) = false := decide_eq_false h0
  obtain ⟨b, eb⟩ : ∃ b, b = UInt8.ofNat (48 + u) := ⟨_, rfl⟩
  have EB := Lib.hid eb
  clear eb
  have tok : True := trivial
  go_enter Tryd.func48, Tryd.ntmps48
  go_wp2_with (have _t := tok; refine wpList_convert_back rfl 32 9 5 (.tmp 28) rfl w.heap.size 0 1 1 rfl [b] rfl (bytesAt_one _ _ _ _ ?hv) Tryd.underlying32 Tryd.underlying5 Tryd.underlying9 ?_; clear tok _t)
  case hv => rw [EB.out]; simp; omega
  go_ret
  exact RetStr.mk (by rw [dec_small hu, ← EB.out]) ((Only.refl NoneOf w).alloc _)
set_option maxHeartbeats 400000 in
theorem decpos_any (k : Nat) : ∀ (u : Nat) (w : World), u ≤ k → u ≤ 9223372036854775807 → Calls Tryd.prog 48 #[.int .i64 (u : Int)] w (RetStr (Lib.decDigits u) w) := by
  induction k with
  | zero => intro u w hk _; exact digit_any u (by omega) w
  | succ k ih =>
    intro u w hk hm
    by_cases h10 : u < 10
    · exact digit_any u h10 w
    · have c1 := ih (u / 10)
      have c2 := digit_any (u % 10) (by omega)
      have e1 : ((u / 10 : Nat) : Int) = (u : Int) / 10 := by omega
      have e2 : ((u % 10 : Nat) : Int) = (u : Int) % 10 := by omega
      rw [e1] at c1
      rw [e2] at c2
      have C1 := Lib.hid c1
      have C2 := Lib.hid c2
      have HB := Lib.hid (dec_big h10)
      have L1 := Lib.hid (dec_len20 (u := u / 10) (by omega))
      have h0 : ¬ (u : Int) < 0 := by omega
      have hd : decide ((u : Int) < 0) = false := decide_eq_false h0
      have h9 : ¬ (u : Int) < 10 := by omega
      clear c1 c2 e1 e2 ih
      go_enter Tryd.func48, Tryd.ntmps48
      go_wp2_with fail
      refine (C1.out _ (by omega) (by omega)).mono ?_
      rintro e w1 ⟨t1, rfl, ht1, ho1⟩
      have z1 : t1.size ≤ 20 := by rw [size_list, ht1]; exact L1.out
      have HT1 := Lib.hid ht1
      have HO1 := Lib.hid ho1
      clear ht1 ho1
      go_wp2_with fail
      refine (C2.out _).mono ?_
      rintro e w2 ⟨t2, rfl, ht2, ho2⟩
      have z2 : t2.size ≤ 20 := by rw [size_list, ht2, dec_small (by omega)]; simp
      have HT2 := Lib.hid ht2
      have HO2 := Lib.hid ho2
      clear ht2 ho2
      go_wp2_with fail
      go_ret
      refine RetStr.mk ?_ (HO1.out.trans HO2.out)
      rw [append_list, HT1.out, HT2.out, dec_small (u := u % 10) (by omega), HB.out]
set_option maxHeartbeats 400000 in
theorem decneg_any (k : Nat) : ∀ (u : Nat) (w : World), u ≤ k → 0 < u → u ≤ 9223372036854775808 → Calls Tryd.prog 48 #[.int .i64 (-(u : Int))] w (RetStr (45 :: Lib.decDigits u) w) := by
  induction k with
  | zero => intro u w hk h0 _; omega
  | succ k ih =>
    intro u w hk hp hm
    by_cases h10 : u < 10
    · have C2 := Lib.hid (digit_any u h10)
      have HT := Lib.hid (dec_small h10)
      have h0 : -(u : Int) < 0 := by omega
      have hd : decide (-(u : Int) < 0) = true := decide_eq_true h0
      have h9 : -10 < -(u : Int) := by omega
      have hn : IntKind.i64.wrap (- -(u : Int)) = (u : Int) := by rw [Int.neg_neg]; exact IntWalk.i64_in _ (by omega)
      clear ih
      go_enter Tryd.func48, Tryd.ntmps48
      go_wp2_with fail
      refine (C2.out _).mono ?_
      rintro e w2 ⟨t2, rfl, ht2, ho2⟩
      have z2 : t2.size ≤ 20 := by rw [size_list, ht2, HT.out]; simp
      have HT2 := Lib.hid ht2
      have HO2 := Lib.hid ho2
      clear ht2 ho2
      go_wp2_with fail
      go_ret
      refine RetStr.mk ?_ HO2.out
      rw [append_list, HT2.out]
      rfl
    · have c1 := ih (u / 10)
      have c2 := digit_any (u % 10) (by omega)
      have e1 : ((u / 10 : Nat) : Int) = (u : Int) / 10 := by omega
      have e2 : ((u % 10 : Nat) : Int) = (u : Int) % 10 := by omega
      rw [e1] at c1
      rw [e2] at c2
      clear e1 e2
      have C1 := Lib.hid c1
      have C2 := Lib.hid c2
      have HB := Lib.hid (dec_big h10)
      have L1 := Lib.hid (dec_len20 (u := u / 10) (by omega))
      have h0 : -(u : Int) < 0 := by omega
      have hd : decide (-(u : Int) < 0) = true := decide_eq_true h0
      have h9 : ¬ -10 < -(u : Int) := by omega
      clear c1 c2 ih
      go_enter Tryd.func48, Tryd.ntmps48
      go_wp2_with fail
      refine (C1.out _ (by omega) (by omega) (by omega)).mono ?_
      rintro e w1 ⟨t1, rfl, ht1, ho1⟩
      have z1 : t1.size ≤ 21 := by rw [size_list, ht1]; have := L1.out; simp; omega
      have HT1 := Lib.hid ht1
      have HO1 := Lib.hid ho1
      clear ht1 ho1
      go_wp2_with fail
      refine (C2.out _).mono ?_
      rintro e w2 ⟨t2, rfl, ht2, ho2⟩
      have z2 : t2.size ≤ 20 := by rw [size_list, ht2, dec_small (by omega)]; simp
      have HT2 := Lib.hid ht2
      have HO2 := Lib.hid ho2
      clear ht2 ho2
      go_wp2_with fail
      go_ret
      refine RetStr.mk ?_ (HO1.out.trans HO2.out)
      rw [append_list, HT1.out, HT2.out, dec_small (u := u % 10) (by omega), HB.out]
      rfl
theorem decimal_any (n : Int) (h0 : -9223372036854775808 ≤ n) (h1 : n ≤ 9223372036854775807) (w : World) : Calls Tryd.prog 48 #[.int .i64 n] w (RetStr (Lib.itoa n) w) := by
  by_cases h : n < 0
  · obtain ⟨u, rfl⟩ : ∃ u : Nat, n = -(u : Int) := ⟨n.natAbs, by omega⟩
    have := decneg_any u u w (Nat.le_refl _) (by omega) (by omega)
    have e : Lib.itoa (-(u : Int)) = 45 :: Lib.decDigits u := by unfold Lib.itoa; rw [if_pos h]; simp
    rw [e]
    exact this
  · obtain ⟨u, rfl⟩ : ∃ u : Nat, n = (u : Int) := ⟨n.toNat, by omega⟩
    have := decpos_any u u w (Nat.le_refl _) (by omega)
    have e : Lib.itoa (u : Int) = Lib.decDigits u := by unfold Lib.itoa; rw [if_neg h]; simp
    rw [e]
    exact this
end Go.Proofs.YtdgapomeenigbaaDoor
