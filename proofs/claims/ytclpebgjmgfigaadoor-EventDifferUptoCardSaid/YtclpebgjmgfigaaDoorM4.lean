/- What is proved here: several parts. small laws on decimal numerals and on strings that calls return; no function of the program. No conditions. · decimal texts of numbers and of pairs in plain Lean: they are read back; no program in sight. No conditions. · numbers that wrap around, in plain Lean. No conditions. -/
import Derived.Test.YtclpebgjmgfigaaDoorM1
import Derived.Lib.ItoaNum
import Derived.Lib.ParseIntB
import Derived.Lib.IndexMore
import Derived.Lib.IndexLaws
namespace Go.Proofs.YtclpebgjmgfigaaDoor
open Go.RowKit

/-- The call returned a string with these bytes, and all that lay lies as it lay. -/
def RetStr (l : List UInt8) (w : World) (e : Ending) (w' : World) : Prop := ∃ t : ByteArray, e = .returned (.string t) ∧ t.data.toList = l ∧ Only NoneOf w w'
theorem RetStr.mk {l : List UInt8} {w w' : World} {t : ByteArray} (h : t.data.toList = l) (ho : Only NoneOf w w') : RetStr l w (.returned (.string t)) w' := ⟨t, rfl, h, ho⟩
theorem size_list (t : ByteArray) : t.size = t.data.toList.length := by simp
theorem dec_len (k : Nat) : ∀ u, u < 10 ^ (k + 1) → (Lib.decDigits u).length ≤ k + 1 := by
  induction k with
  | zero => intro u h; rw [Lib.decDigits, dif_pos (by simpa using h)]; simp
  | succ k ih =>
    intro u h
    rw [Lib.decDigits]
    split
    · simp
    · rw [List.length_append]
      have := ih (u / 10) (by rw [Nat.pow_succ] at h; omega)
      simp; omega
theorem dec_small {u : Nat} (h : u < 10) : Lib.decDigits u = [UInt8.ofNat (48 + u)] := by rw [Lib.decDigits, dif_pos h]
theorem dec_big {u : Nat} (h : ¬ u < 10) : Lib.decDigits u = Lib.decDigits (u / 10) ++ [UInt8.ofNat (48 + u % 10)] := by
  conv => lhs; rw [Lib.decDigits, dif_neg h]
theorem dec_len20 {u : Nat} (h : u < 18446744073709551616) : (Lib.decDigits u).length ≤ 20 := dec_len 19 u (by omega)
theorem itoa_len {n : Int} (h0 : -9223372036854775808 ≤ n) (h1 : n ≤ 9223372036854775807) : (Lib.itoa n).length ≤ 21 := by
  unfold Lib.itoa
  split
  · have := dec_len20 (u := n.natAbs) (by omega); simp; omega
  · have := dec_len20 (u := n.toNat) (by omega); omega
end Go.Proofs.YtclpebgjmgfigaaDoor
namespace Go.Proofs.YtclpebgjmgfigaaDoor
def In (n : Int) : Prop := -9223372036854775808 ≤ n ∧ n ≤ 9223372036854775807
def digit (c : UInt8) : Prop := 48 ≤ c.toNat ∧ c.toNat ≤ 57
def dstep (v : Nat) (c : UInt8) : Nat := v * 10 + (c.toNat - 48)
theorem of_digit {d : Nat} (h : d < 10) : (UInt8.ofNat (48 + d)).toNat = 48 + d := by rw [UInt8.toNat_ofNat']; omega
theorem dec_spec : ∀ (k u : Nat), u < 10 ^ (k + 1) → (∀ c ∈ Lib.decDigits u, digit c) ∧ (Lib.decDigits u).foldl dstep 0 = u ∧ Lib.decDigits u ≠ [] := by
  intro k
  induction k with
  | zero =>
    intro u h
    have h10 : u < 10 := by simpa using h
    rw [dec_small h10]
    refine ⟨fun c hc => ?_, ?_, by simp⟩
    · obtain rfl := List.mem_singleton.1 hc
      unfold digit
      rw [of_digit h10]
      omega
    · simp only [List.foldl_cons, List.foldl_nil, dstep]
      rw [of_digit h10]
      omega
  | succ k ih =>
    intro u h
    by_cases h10 : u < 10
    · exact ih u (Nat.lt_of_lt_of_le h10 (by rw [Nat.pow_succ]; have := Nat.pow_pos (n := k) (show 0 < 10 by omega); omega))
    · obtain ⟨h1, h2, h3⟩ := ih (u / 10) (by rw [Nat.pow_succ] at h; omega)
      rw [dec_big h10]
      have hd : u % 10 < 10 := by omega
      refine ⟨fun c hc => ?_, ?_, by simp⟩
      · rcases List.mem_append.1 hc with hc | hc
        · exact h1 c hc
        · obtain rfl := List.mem_singleton.1 hc
          unfold digit
          rw [of_digit hd]
          omega
      · rw [List.foldl_append, h2]
        simp only [List.foldl_cons, List.foldl_nil, dstep]
        rw [of_digit hd]
        omega
theorem dec_ok {u : Nat} (h : u < 10000000000000000000) : (∀ c ∈ Lib.decDigits u, digit c) ∧ (Lib.decDigits u).foldl dstep 0 = u ∧ Lib.decDigits u ≠ [] := dec_spec 18 u (by omega)
theorem fold_ge (l : List UInt8) : ∀ v, v ≤ l.foldl dstep v := by
  induction l with
  | nil => intro v; exact Nat.le_refl _
  | cons c r ih => intro v; exact Nat.le_trans (by unfold dstep; omega) (ih (dstep v c))
theorem parseM_digits {M : Nat} (hM : M < 18446744073709551616) (l : List UInt8) : ∀ acc, (∀ c ∈ l, digit c) → l.foldl dstep acc ≤ M → Lib.parseUintM M acc l = .ok (l.foldl dstep acc) := by
  induction l with
  | nil => intro acc _ _; rfl
  | cons c r ih =>
    intro acc hd hv
    have hc := hd c (by simp)
    have hg := fold_ge r (dstep acc c)
    rw [List.foldl_cons] at hv
    have hs : dstep acc c ≤ M := by omega
    unfold dstep at hs
    rw [Lib.parseUintM, if_pos (show 48 ≤ c.toNat ∧ c.toNat ≤ 57 from hc), if_neg (by omega), if_neg (by omega)]
    exact ih _ (fun x hx => hd x (by simp [hx])) hv
theorem itoa_pos {n : Int} (h : 0 ≤ n) : Lib.itoa n = Lib.decDigits n.toNat := by unfold Lib.itoa; rw [if_neg (by omega)]
theorem itoa_min {n : Int} (h : n < 0) : Lib.itoa n = 45 :: Lib.decDigits n.natAbs := by unfold Lib.itoa; rw [if_pos h]
theorem digit_head {l : List UInt8} (h : ∀ c ∈ l, digit c) (hne : l ≠ []) : ∃ c r, l = c :: r ∧ digit c := by
  cases l with
  | nil => exact absurd rfl hne
  | cons c r => exact ⟨c, r, rfl, h c (by simp)⟩
/-- What was written is read. -/
theorem parse_itoa {n : Int} (h : In n) : Lib.parseIntB 64 (Lib.itoa n) = .ok n := by
  obtain ⟨h0, h1⟩ := h
  by_cases hn : n < 0
  · obtain ⟨hd, hv, hne⟩ := dec_ok (u := n.natAbs) (by omega)
    rw [itoa_min hn]
    have hp : Lib.parseUintB 64 (Lib.decDigits n.natAbs) = .ok n.natAbs := by
      unfold Lib.parseUintB
      rw [if_neg hne, parseM_digits (by omega) _ 0 hd (by rw [hv]; omega), hv]
    unfold Lib.parseIntB
    have e45 : (45 : UInt8).toNat = 45 := rfl
    simp only [e45, or_true, if_true, hp, not_true_eq_false, false_and, if_false, true_and]
    rw [if_neg (by omega)]
    congr 1
    omega
  · obtain ⟨hd, hv, hne⟩ := dec_ok (u := n.toNat) (by omega)
    rw [itoa_pos (by omega)]
    obtain ⟨c, r, hl, hc⟩ := digit_head hd hne
    have hp : Lib.parseUintB 64 (c :: r) = .ok n.toNat := by
      unfold Lib.parseUintB
      rw [← hl, if_neg hne, parseM_digits (by omega) _ 0 hd (by rw [hv]; omega), hv]
    rw [hl]
    unfold Lib.parseIntB
    unfold digit at hc
    have c45 : ¬ c.toNat = 45 := by omega
    have c43 : ¬ c.toNat = 43 := by omega
    simp only [c45, c43, or_self, if_false, hp, not_false_eq_true, true_and, false_and]
    rw [if_neg (by omega)]
    congr 1
    omega
theorem itoa_inj {n m : Int} (hn : In n) (hm : In m) (e : Lib.itoa n = Lib.itoa m) : n = m := by
  have h := parse_itoa hn
  rw [e, parse_itoa hm] at h
  cases h; rfl
theorem parse_in {l : List UInt8} {v : Int} (h : Lib.parseIntB 64 l = .ok v) : In v := by
  cases l with
  | nil => cases h
  | cons c r =>
    unfold Lib.parseIntB at h
    simp only at h
    generalize Lib.parseUintB 64 _ = q at h
    cases q with
    | ok u =>
      simp only at h
      split at h
      · cases h
      · split at h
        · cases h
        · cases h
          unfold In
          split <;> omega
    | _ => cases h
theorem itoa_nodot {n : Int} (h : In n) : ∀ c ∈ Lib.itoa n, c ≠ 46 := by
  obtain ⟨h0, h1⟩ := h
  have key : ∀ u : Nat, u < 10000000000000000000 → ∀ c ∈ Lib.decDigits u, c ≠ 46 := fun u hu c hc e => by
    have h2 := (dec_ok hu).1 c hc
    subst e
    unfold digit at h2
    have e46 : (46 : UInt8).toNat = 46 := rfl
    omega
  by_cases hn : n < 0
  · rw [itoa_min hn]
    intro c hc
    rcases List.mem_cons.1 hc with rfl | hc
    · decide
    · exact key _ (by omega) c hc
  · rw [itoa_pos (by omega)]
    exact key _ (by omega)
def textOf (r s : Int) : List UInt8 := Lib.itoa r ++ 46 :: Lib.itoa s
/-- This list is the text of this pair. -/
def IsText (l : List UInt8) (r s : Int) : Prop := In r ∧ In s ∧ l = textOf r s
theorem dot_first {a b : List UInt8} (h : ∀ c ∈ a, c ≠ 46) : Lib.index (a ++ 46 :: b) [46] = a.length := by
  refine Lib.index_first (by simp) ?_ ?_
  · unfold Lib.occAt
    rw [List.drop_left]
    simp
  · intro j hj
    unfold Lib.occAt
    rw [List.drop_append_of_le_length (by omega), List.drop_eq_getElem_cons hj]
    have := h a[j] (List.getElem_mem hj)
    simp only [List.cons_append, List.isPrefixOf_cons_cons]
    have e : ((46 : UInt8) == a[j]) = false := by simpa using fun e => this e.symm
    rw [e]; rfl
theorem cut_dot {a b : List UInt8} (h : ∀ c ∈ a, c ≠ 46) : Lib.cut (a ++ 46 :: b) [46] = (a, b, true) := by
  unfold Lib.cut
  rw [dot_first h, if_pos (by omega)]
  simp
theorem text_cut {r s : Int} (h : In r) : Lib.cut (textOf r s) [46] = (Lib.itoa r, Lib.itoa s, true) := cut_dot (itoa_nodot h)
theorem text_inj {l : List UInt8} {r s r' s' : Int} (h : IsText l r s) (k : IsText l r' s') : r = r' ∧ s = s' := by
  obtain ⟨h1, h2, rfl⟩ := h
  obtain ⟨k1, k2, e⟩ := k
  have c := text_cut (s := s) h1
  rw [e, text_cut k1] at c
  simp only [Prod.mk.injEq, and_true] at c
  exact ⟨itoa_inj h1 k1 c.1.symm, itoa_inj h2 k2 c.2.symm⟩
end Go.Proofs.YtclpebgjmgfigaaDoor
namespace Go.Proofs.YtclpebgjmgfigaaDoor
open Go.RowKit
theorem wrap_i (z : Int) : IntKind.i64.wrap z = (z + 9223372036854775808) % 18446744073709551616 - 9223372036854775808 := by
  have h : IntKind.i64.wrap z = if 9223372036854775808 ≤ z % 18446744073709551616 then z % 18446744073709551616 - 18446744073709551616 else z % 18446744073709551616 := by
    unfold IntKind.wrap
    simp [IntKind.bits, IntKind.signed]
  rw [h]
  split <;> omega
theorem wrap_in (z : Int) : In (IntKind.i64.wrap z) := by rw [wrap_i]; unfold In; omega
theorem wrap_of {z : Int} (h : In z) : IntKind.i64.wrap z = z := by obtain ⟨h0, h1⟩ := h; rw [wrap_i]; omega
end Go.Proofs.YtclpebgjmgfigaaDoor
