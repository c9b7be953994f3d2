/- What is proved here: the plain laws of sealing: a seal opened gives its text; no function of the program. No conditions. -/
import Derived.Test.YtdgapomeenigbaaDoorCoefs
namespace Go.Proofs.YtdgapomeenigbaaDoor
open Go.RowKit
def sbyte (key : Int) (i : Nat) : UInt8 := ((shaL (streamS key (i / 32)))[i % 32]?).getD 0
theorem xorL_get (h p : List UInt8) (hh : h.length = 32) (i : Nat) (hi : i < 32) : (xorL h p)[i]? = (p[i]?).map (· ^^^ (h[i]?).getD 0) := by
  unfold xorL
  rw [List.getElem?_zipWith]
  obtain ⟨x, ex⟩ : ∃ x, h[i]? = some x := ⟨_, List.getElem?_eq_getElem (by omega)⟩
  rw [ex]
  cases p[i]? with
  | none => rfl
  | some y => simp [UInt8.xor_comm]
theorem combK_get (key : Int) (l : List UInt8) (k : Nat) : ∀ i, i < 32 * k → (combK key l k)[i]? = (l[i]?).map (· ^^^ sbyte key i) := by
  induction k with
  | zero => intro i hi; omega
  | succ k ih =>
    intro i hi
    rw [combK]
    by_cases h1 : i < 32 * k
    · by_cases h2 : i < l.length
      · rw [List.getElem?_append_left (by rw [combK_len]; omega), ih i h1]
      · rw [List.getElem?_append_right (by rw [combK_len]; omega), List.getElem?_eq_none (by omega : l.length ≤ i), List.getElem?_eq_none]
        · rfl
        · rw [xorL_len, shaL_len, seg_len, combK_len]; omega
    · by_cases h2 : 32 * k ≤ l.length
      · rw [List.getElem?_append_right (by rw [combK_len]; omega), combK_len, Nat.min_eq_left h2, xorL_get _ _ (shaL_len _) _ (by omega)]
        have e1 : i / 32 = k := by omega
        have e2 : i % 32 = i - 32 * k := by omega
        rw [sbyte, e1, e2, seg, List.getElem?_take, if_pos (by omega), List.getElem?_drop, show 32 * k + (i - 32 * k) = i by omega]
      · rw [List.getElem?_eq_none (by omega : l.length ≤ i), List.getElem?_eq_none]
        · rfl
        · rw [List.length_append, combK_len, xorL_len, shaL_len, seg_len]; omega
theorem combL_get (key : Int) (l : List UInt8) (i : Nat) : (combL key l)[i]? = (l[i]?).map (· ^^^ sbyte key i) := by
  by_cases h : i < l.length
  · exact combK_get key l _ i (by omega)
  · rw [List.getElem?_eq_none (by omega : l.length ≤ i), List.getElem?_eq_none (by rw [combL_len]; omega)]; rfl
theorem combL_back (key : Int) (l : List UInt8) : combL key (combL key l) = l := by
  apply List.ext_getElem?
  intro i
  rw [combL_get, combL_get]
  cases l[i]? with
  | none => rfl
  | some x => simp [UInt8.xor_assoc]
theorem open_seal (key : Int) (l : List UInt8) : openS key (sealS key l) = (l, true) := by
  have h1 : 32 ≤ (sealS key l).length := by rw [sealS_len]; omega
  have h2 : (sealS key l).drop 32 = combL key l := by rw [sealS, List.drop_append, shaL_len, List.drop_of_length_le (by rw [shaL_len]; omega)]; rfl
  have h3 : (sealS key l).take 32 = shaL (checkS key l) := by rw [sealS, List.take_append_of_le_length (by rw [shaL_len]; omega), List.take_of_length_le (by rw [shaL_len]; omega)]
  rw [openS_good h1 (by rw [h2, h3, combL_back]), h2, combL_back]
/-- Two texts sealed alike are one text. -/
theorem seal_inj (key : Int) {a b : List UInt8} (h : sealS key a = sealS key b) : a = b := by
  have := congrArg (openS key) h
  rw [open_seal, open_seal] at this
  exact (Prod.mk.injEq _ _ _ _ ▸ this).1
set_option maxRecDepth 1000000 in
theorem wrong_key : openS 8 (sealS 7 [97, 98, 99]) = ([], false) := by decide +kernel
end Go.Proofs.YtdgapomeenigbaaDoor
