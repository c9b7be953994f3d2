/- What is proved here: what reading a number off a text digit by digit gives, in plain Lean. No conditions. -/
import Derived.Test.YtclpebgjmgfigaaGreatDoorM4
namespace Go.Proofs.YtclpebgjmgfigaaGreatDoor
open Go.RowKit Go.Shelf
theorem wrap_step (x d : Int) : IntKind.i64.wrap (IntKind.i64.wrap (10 * IntKind.i64.wrap (-x)) - d) = IntKind.i64.wrap (-(x * 10 + d)) := by
  rw [wrap_i, wrap_i, wrap_i, wrap_i]
  omega
theorem wrap_neg (x : Int) : IntKind.i64.wrap (-IntKind.i64.wrap (-x)) = IntKind.i64.wrap x := by
  rw [wrap_i, wrap_i, wrap_i]
  omega
/-- How the reading of a number ends. -/
def NumE (l : List UInt8) (e : Ending) : Prop := (∃ n, In n ∧ l = Lib.itoa n ∧ e = .returned (.tuple #[.int .i64 n, .bool true])) ∨ ((∀ n, In n → l ≠ Lib.itoa n) ∧ ∃ v, e = .returned (.tuple #[.int .i64 v, .bool false]))
/-- Where the digits begin. -/
def beg (l : List UInt8) : Nat := if l.head? = some 45 then 1 else 0
theorem itoa_body {l : List UInt8} {n : Int} (h : In n) (e : l = Lib.itoa n) : l.drop (beg l) = Lib.decDigits n.natAbs ∧ (beg l = 1 → n = -(n.natAbs : Int)) ∧ (beg l = 0 → n = (n.natAbs : Int)) := by
  obtain ⟨h0, h1⟩ := h
  by_cases hn : n < 0
  · rw [itoa_min hn] at e
    rw [e]
    exact ⟨rfl, fun _ => (by omega), fun h => (by cases h)⟩
  · have hp := itoa_pos (show 0 ≤ n by omega)
    obtain ⟨hd, _, hne⟩ := dec_ok (u := n.toNat) (by omega)
    obtain ⟨c, r, hl, hc⟩ := digit_head hd hne
    have hb : beg l = 0 := by
      rw [e, hp, hl]
      unfold beg
      rw [if_neg]
      intro h
      simp only [List.head?_cons, Option.some.injEq] at h
      subst h
      unfold digit at hc
      have e45 : (45 : UInt8).toNat = 45 := rfl
      omega
    rw [hb, e, hp, show n.toNat = n.natAbs by omega]
    exact ⟨rfl, fun h => (by cases h), fun _ => (by omega)⟩
theorem body_ok {l : List UInt8} {n : Int} (h : In n) (e : l = Lib.itoa n) : (∀ c ∈ l.drop (beg l), digit c) ∧ (l.drop (beg l)).foldl dstep 0 = n.natAbs ∧ l.drop (beg l) ≠ [] ∧ (l.drop (beg l)).length ≤ 19 := by
  obtain ⟨h1, _, _⟩ := itoa_body h e
  obtain ⟨h0, h2⟩ := h
  rw [h1]
  obtain ⟨a, b, c⟩ := dec_ok (u := n.natAbs) (by omega)
  exact ⟨a, b, c, dec_len 18 _ (by omega)⟩
/-- What is read at the end. -/
def numV (l : List UInt8) : Int := if beg l = 0 then IntKind.i64.wrap (((l.drop (beg l)).foldl dstep 0 : Nat) : Int) else IntKind.i64.wrap (-((l.drop (beg l)).foldl dstep 0 : Nat) : Int)
theorem numV_in (l : List UInt8) : In (numV l) := by unfold numV; split <;> exact wrap_in _
theorem beg_le (l : List UInt8) : beg l = 0 ∨ beg l = 1 := by unfold beg; split <;> simp
theorem numV_itoa {l : List UInt8} {n : Int} (h : In n) (e : l = Lib.itoa n) : numV l = n := by
  obtain ⟨_, h2, h3⟩ := itoa_body h e
  obtain ⟨_, hv, _⟩ := body_ok h e
  unfold numV
  rw [hv]
  rcases beg_le l with hb | hb
  · rw [if_pos hb, ← h3 hb]; exact wrap_of h
  · rw [if_neg (by omega), ← h2 hb]; exact wrap_of h
theorem fold_snoc (p : List UInt8) (c : UInt8) : (p ++ [c]).foldl dstep 0 = p.foldl dstep 0 * 10 + (c.toNat - 48) := by simp [dstep]
theorem size_len (t : ByteArray) : t.data.toList.length = t.size := by simp
theorem no_empty {l : List UInt8} (h : l = []) : ∀ n, In n → l ≠ Lib.itoa n := fun _ hn e => (body_ok hn e).2.2.1 (by rw [h]; simp)
theorem no_short {l : List UInt8} (h : l.length ≤ beg l) : ∀ n, In n → l ≠ Lib.itoa n := fun _ hn e => (body_ok hn e).2.2.1 (List.drop_eq_nil_of_le h)
theorem no_long {l : List UInt8} (h : 19 < l.length - beg l) : ∀ n, In n → l ≠ Lib.itoa n := fun _ hn e => by
  have := (body_ok hn e).2.2.2
  rw [List.length_drop] at this
  omega
theorem no_digit {l : List UInt8} {q : Nat} {c : UInt8} (hq : beg l ≤ q) (hc : l[q]? = some c) (hd : ¬ digit c) : ∀ n, In n → l ≠ Lib.itoa n := fun _ hn e => by
  refine hd ((body_ok hn e).1 c ?_)
  have : (l.drop (beg l))[q - beg l]? = some c := by rw [List.getElem?_drop, show beg l + (q - beg l) = q by omega, hc]
  exact List.mem_of_getElem? this
theorem no_text {l : List UInt8} (h : Lib.itoa (numV l) ≠ l) : ∀ n, In n → l ≠ Lib.itoa n := fun _ hn e => by
  rw [numV_itoa hn e] at h
  exact h e.symm
/-- What has been read behind place b up to place q. -/
def upTo (l : List UInt8) (b q : Nat) : Int := IntKind.i64.wrap (-(((l.drop b).take (q - b)).foldl dstep 0 : Nat) : Int)
theorem upTo_zero (l : List UInt8) (b : Nat) : upTo l b b = 0 := by unfold upTo; rw [Nat.sub_self]; rfl
theorem upTo_step {l : List UInt8} {b q : Nat} {c : UInt8} (hq : b ≤ q) (hc : l[q]? = some c) (hd : digit c) : IntKind.i64.wrap (IntKind.i64.wrap (10 * upTo l b q) - ((c.toNat : Int) - 48)) = upTo l b (q + 1) := by
  unfold upTo
  have h1 : (l.drop b)[q - b]? = some c := by rw [List.getElem?_drop, show b + (q - b) = q by omega, hc]
  rw [wrap_step, show q + 1 - b = q - b + 1 by omega, List.take_add_one, h1, Option.toList_some, fold_snoc]
  congr 2
  unfold digit at hd
  omega
theorem upTo_all {l : List UInt8} : (beg l = 0 → IntKind.i64.wrap (-upTo l (beg l) l.length) = numV l) ∧ (beg l ≠ 0 → upTo l (beg l) l.length = numV l) := by
  unfold upTo numV
  rw [List.take_of_length_le (by rw [List.length_drop]; exact Nat.le_refl _)]
  refine ⟨fun h => ?_, fun h => ?_⟩
  · rw [if_pos h, wrap_neg]
  · rw [if_neg h]
theorem upTo_in (l : List UInt8) (b q : Nat) : In (upTo l b q) := wrap_in _
end Go.Proofs.YtclpebgjmgfigaaGreatDoor
