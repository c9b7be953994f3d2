/- What is proved here: whether a name is a word, by the bids' code and by the reference. No conditions but that the name is short. -/
import Derived.Test.YtpdlbmieciabmaaGreatDoorB1
import Derived.Test.YtpdlbmieciabmaaGreatDoorQ1
import Derived.Shelf.GgClosure.StringsIndexFuncTop
namespace Go.Proofs.YtpdlbmieciabmaaGreatDoor
open Go.RowKit Go.Shelf
/-- Whether a rune is no letter. -/
def noLet (r : Nat) : Bool := decide (r < 97) || decide (122 < r)
theorem decode_let (s : ByteArray) (i : Nat) : noLet (Utf8.decode s i).1 = !isLet (s.get! i) ∧ (isLet (s.get! i) = true → (Utf8.decode s i).2 = 1) := by
  have hb := (s.get! i).toNat_lt
  have h0 : s.get! (i + 0) = s.get! i := rfl
  unfold isLet
  by_cases hA : (s.get! i).toNat < 128
  · have e : Utf8.decode s i = ((s.get! i).toNat, 1) := by
      unfold Utf8.decode
      simp only [h0]
      rw [if_pos hA]
    rw [e]
    refine ⟨?_, fun _ => rfl⟩
    unfold noLet
    by_cases h1 : (s.get! i).toNat < 97 <;> by_cases h2 : 122 < (s.get! i).toNat <;> simp [h1, h2] <;> omega
  · have hn : ¬ (97 ≤ (s.get! i).toNat ∧ (s.get! i).toNat ≤ 122) := by omega
    refine ⟨?_, fun h => absurd (of_decide_eq_true h) hn⟩
    rw [decide_eq_false hn]
    have key : 122 < (Utf8.decode s i).1 := by
      unfold Utf8.decode
      simp only [h0]
      rw [if_neg hA]
      have r0 : (122 : Nat) < Utf8.runeError := by decide
      split
      · split
        · rename_i h; exact Nat.lt_of_lt_of_le (by omega) h
        · exact r0
      · split
        · split
          · rename_i h
            rw [Bool.and_eq_true] at h
            exact Nat.lt_of_lt_of_le (by omega) (of_decide_eq_true h.1)
          · exact r0
        · split
          · split
            · rename_i h
              rw [Bool.and_eq_true] at h
              exact Nat.lt_of_lt_of_le (by omega) (of_decide_eq_true h.1)
            · exact r0
          · exact r0
    unfold noLet
    rw [decide_eq_true key, Bool.or_true]
    rfl
theorem idx_let (s : ByteArray) : ∀ (f pos : Nat), s.size ≤ pos + f → decide (0 ≤ Lib.idxFuncFrom noLet true s f pos) = !(s.data.toList.drop pos).all isLet
  | 0, pos, h => by
    have e : s.data.toList.drop pos = [] := List.drop_eq_nil_of_le (by rw [← size_list]; omega)
    rw [e]
    rfl
  | f + 1, pos, h => by
    unfold Lib.idxFuncFrom
    by_cases hp : pos < s.size
    · rw [if_pos hp]
      have hl : pos < s.data.toList.length := by rw [← size_list]; exact hp
      obtain ⟨d1, d2⟩ := decode_let s pos
      have hg : s.get! pos = s.data.toList[pos] := by
        show s.data[pos]! = _
        rw [getElem!_pos s.data pos hp, Array.getElem_toList]
      rw [List.drop_eq_getElem_cons hl, List.all_cons, ← hg]
      cases hx : isLet (s.get! pos) with
      | true =>
        rw [hx] at d1
        rw [if_neg (by rw [d1]; decide), d2 hx, idx_let s f (pos + 1) (by omega), Bool.true_and]
      | false =>
        rw [hx] at d1
        rw [if_pos (by rw [d1]; rfl), Bool.false_and]
        exact decide_eq_true (by omega)
    · rw [if_neg hp]
      have e : s.data.toList.drop pos = [] := List.drop_eq_nil_of_le (by rw [← size_list]; omega)
      rw [e]
      rfl
end Go.Proofs.YtpdlbmieciabmaaGreatDoor
