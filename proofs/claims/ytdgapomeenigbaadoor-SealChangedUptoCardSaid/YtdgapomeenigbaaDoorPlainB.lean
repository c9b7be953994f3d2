/- What is proved here: the string of a check holds its key and its text; what is opened has this box; no function of the program. No conditions. -/
import Derived.Test.YtdgapomeenigbaaDoorPlain
namespace Go.Proofs.YtdgapomeenigbaaDoor
open Go.RowKit
def decVal (l : List UInt8) : Nat := l.foldl (fun a c => 10 * a + (c.toNat - 48)) 0
theorem decVal_snoc (l : List UInt8) (c : UInt8) : decVal (l ++ [c]) = 10 * decVal l + (c.toNat - 48) := by simp [decVal]
theorem dig_nat {u : Nat} (h : u < 10) : (UInt8.ofNat (48 + u)).toNat = 48 + u := by
  rw [UInt8.toNat_ofNat']; omega
theorem decVal_dec (u : Nat) : decVal (Lib.decDigits u) = u := by
  induction u using Nat.strongRecOn with
  | _ u ih =>
    by_cases h : u < 10
    · rw [dec_small h]
      have := dig_nat h
      simp only [decVal, List.foldl_cons, List.foldl_nil, this]
      omega
    · rw [dec_big h, decVal_snoc, ih _ (by omega), dig_nat (by omega)]
      omega
theorem dec_digit (u : Nat) : ∀ c ∈ Lib.decDigits u, 48 ≤ c.toNat := by
  induction u using Nat.strongRecOn with
  | _ u ih =>
    intro c hc
    by_cases h : u < 10
    · rw [dec_small h] at hc
      rw [List.mem_singleton.1 hc, dig_nat h]; omega
    · rw [dec_big h] at hc
      rcases List.mem_append.1 hc with h1 | h1
      · exact ih _ (by omega) c h1
      · rw [List.mem_singleton.1 h1, dig_nat (by omega)]; omega
theorem itoa_slash (n : Int) : (47 : UInt8) ∉ Lib.itoa n := by
  intro h
  unfold Lib.itoa at h
  split at h
  · rcases List.mem_cons.1 h with h1 | h1
    · cases h1
    · have := dec_digit _ _ h1; exact absurd this (by decide)
  · have := dec_digit _ _ h; exact absurd this (by decide)
theorem itoa_inj {n m : Int} (h : Lib.itoa n = Lib.itoa m) : n = m := by
  have key : ∀ u v : Nat, Lib.decDigits u ≠ 45 :: Lib.decDigits v := fun u v e => by
    have := dec_digit u 45 (by rw [e]; simp)
    exact absurd this (by decide)
  unfold Lib.itoa at h
  split at h <;> split at h
  · have := congrArg decVal (List.cons.inj h).2
    rw [decVal_dec, decVal_dec] at this; omega
  · exact absurd h.symm (key _ _)
  · exact absurd h (key _ _)
  · have := congrArg decVal h
    rw [decVal_dec, decVal_dec] at this; omega
theorem cut_at : ∀ {x y a b : List UInt8}, (47 : UInt8) ∉ x → (47 : UInt8) ∉ y → x ++ 47 :: a = y ++ 47 :: b → x = y ∧ a = b
  | [], [], _, _, _, _, h => ⟨rfl, (List.cons.inj h).2⟩
  | [], c :: y, _, _, _, hy, h => by
    have := (List.cons.inj h).1
    exact absurd (by simp [← this]) hy
  | c :: x, [], _, _, hx, _, h => by
    have := (List.cons.inj h).1
    exact absurd (by simp [this]) hx
  | c :: x, d :: y, a, b, hx, hy, h => by
    have h1 := (List.cons.inj h).1
    have h2 := cut_at (x := x) (y := y) (fun e => hx (List.mem_cons_of_mem _ e)) (fun e => hy (List.mem_cons_of_mem _ e)) (List.cons.inj h).2
    exact ⟨by rw [h1, h2.1], h2.2⟩
theorem checkS_inj {n m : Int} {a b : List UInt8} (h : checkS n a = checkS m b) : n = m ∧ a = b := by
  have e : ∀ k (l : List UInt8), checkS k l = [99, 104, 101, 99, 107, 47] ++ (Lib.itoa k ++ 47 :: l) := fun k l => by simp [checkS]
  rw [e, e] at h
  have h2 := cut_at (itoa_slash n) (itoa_slash m) (List.append_cancel_left h)
  exact ⟨itoa_inj h2.1, h2.2⟩
theorem seal_take (key : Int) (l : List UInt8) : (sealS key l).take 32 = shaL (checkS key l) := by
  rw [sealS, List.take_append_of_le_length (by rw [shaL_len]; omega), List.take_of_length_le (by rw [shaL_len]; omega)]
theorem seal_drop (key : Int) (l : List UInt8) : (sealS key l).drop 32 = combL key l := by
  rw [sealS, List.drop_append, shaL_len, List.drop_of_length_le (by rw [shaL_len]; omega)]; rfl
/-- What is opened has this box. -/
theorem open_box {key : Int} {l s : List UInt8} (h : openS key l = (s, true)) : sealS key s = l := by
  unfold openS at h
  split at h
  · cases h
  · split at h
    · rename_i hc
      have e : combL key (l.drop 32) = s := (Prod.mk.injEq _ _ _ _ ▸ h).1
      rw [← e, sealS, hc, combL_back, List.take_append_drop]
    · cases h
theorem open_none {key : Int} {l : List UInt8} (h : (openS key l).2 = false) : openS key l = ([], false) := by
  unfold openS at h ⊢
  split
  · rfl
  · rename_i h1
    rw [if_neg h1] at h
    split
    · rename_i h2
      rw [if_pos h2] at h
      cases h
    · rfl
/-- A box that is opened, and is not that of a text, but has its check: two strings have one sum. -/
theorem open_clash {key other : Int} {l s t : List UInt8} (h : openS other l = (s, true)) (ht : l.take 32 = (sealS key t).take 32) (hne : key ≠ other ∨ l ≠ sealS key t) :
    checkS key t ≠ checkS other s ∧ shaL (checkS key t) = shaL (checkS other s) := by
  have hb := open_box h
  refine ⟨fun e => ?_, ?_⟩
  · obtain ⟨rfl, rfl⟩ := checkS_inj e
    rcases hne with h1 | h1
    · exact h1 rfl
    · exact h1 hb.symm
  · rw [← seal_take, ← seal_take, hb, ht]
/-- A box with another check, but the same hidden part, is not opened. -/
theorem open_turned {key : Int} {l t : List UInt8} (hd : l.drop 32 = (sealS key t).drop 32) (hne : l ≠ sealS key t) : (openS key l).2 = false := by
  cases hb : (openS key l).2 with
  | false => rfl
  | true =>
    exfalso
    have h : openS key l = ((openS key l).1, true) := by rw [← hb]
    have h1 := open_box h
    have h2 := congrArg (List.drop 32) h1
    rw [hd, seal_drop, seal_drop] at h2
    have h3 := congrArg (combL key) h2
    rw [combL_back, combL_back] at h3
    rw [h3] at h1
    exact hne h1.symm
theorem open_self (key : Int) (l : List UInt8) (h : l.length < 32) : (openS key l).2 = false := by rw [openS_short h]
end Go.Proofs.YtdgapomeenigbaaDoor
