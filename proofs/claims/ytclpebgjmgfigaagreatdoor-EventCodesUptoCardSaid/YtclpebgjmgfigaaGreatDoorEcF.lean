/- What is proved here: how the reference cuts a word off a text. Conditions: the text is short. -/
import Derived.Test.YtclpebgjmgfigaaGreatDoorG2
import Derived.Test.YtclpebgjmgfigaaGreatDoorM3
import Derived.OwnWalk
namespace Go.Proofs.YtclpebgjmgfigaaGreatDoor
open Go.RowKit Go.Shelf
/-- What stands ahead of a byte, and behind it. -/
def UntilE (s : ByteArray) (c : UInt8) (w : World) (e : Ending) (w' : World) : Prop := ∃ (a b : ByteArray) (ok : Bool), e = .returned (.tuple #[.string a, .string b, .bool ok]) ∧ a.size ≤ s.size ∧ b.size ≤ s.size ∧ (∀ x t, WordAt s.data.toList c x t → a.data.toList = x ∧ b.data.toList = t ∧ ok = true) ∧ Only NoneOf w w'
theorem word_here {l x t : List UInt8} {c : UInt8} {k : Nat} (h : WordAt l c x t) (hk : l[k]? = some c) (hn : ∀ d ∈ l.take k, d ≠ c) : x = l.take k ∧ t = l.drop (k + 1) := by
  obtain ⟨hlt, hc⟩ := List.getElem?_eq_some_iff.1 hk
  have e : l = l.take k ++ c :: l.drop (k + 1) := by
    conv => lhs; rw [← List.take_append_drop k l]
    rw [List.drop_eq_getElem_cons hlt, hc]
  exact split_sep h.1 hn (h.2.symm.trans e)
theorem word_none {l x t : List UInt8} {c : UInt8} (h : WordAt l c x t) (hn : ∀ d ∈ l, d ≠ c) : False := hn c (by rw [h.2]; simp) rfl
theorem no_more {l : List UInt8} {c d : UInt8} {k : Nat} (hn : ∀ d ∈ l.take k, d ≠ c) (hk : l[k]? = some d) (hd : d ≠ c) : ∀ d ∈ l.take (k + 1), d ≠ c := fun y hy => by
  rw [List.take_add_one, hk] at hy
  rcases List.mem_append.1 hy with h | h
  · exact hn y h
  · have e : y = d := by simpa using h
    rw [e]; exact hd
set_option maxRecDepth 100000 in
set_option maxHeartbeats 400000 in
theorem until_any (s : ByteArray) (hs : s.size ≤ 100000000) (c : UInt8) (w : World) : Calls Tryz.prog 72 #[.string s, .int .u8 (c.toNat : Int)] w (UntilE s c w) := by
  have hlen : s.data.toList.length = s.size := by simp
  have HLEN := Lib.hid hlen
  clear hlen
  go_enter Tryz.func72, Tryz.ntmps72
  go_wp2_with fail
  go_loopw [7] (fun v wr => ∃ k : Nat, v = .int .i64 (k : Int) ∧ k ≤ s.size ∧ Hid (∀ d ∈ s.data.toList.take k, d ≠ c) ∧ wr = w) (fun v _ => s.size - (intOf v).toNat)
  case atStart => exact ⟨0, rfl, Nat.zero_le _, Lib.hid (fun d hd => by simp at hd), rfl⟩
  case round =>
    obtain ⟨k, rfl, hk, HN, rfl⟩ := hrel
    by_cases hlt : k < s.size
    · have hg := str_get s k hlt
      obtain ⟨d, hd⟩ : ∃ d, s[k] = d := ⟨_, rfl⟩
      rw [hd] at hg
      have HG := Lib.hid hg
      have k0 : (0 : Int) ≤ (k : Int) := by omega
      have k1 : (k : Int) < (s.size : Int) := by omega
      have k2 : (k : Int) ≤ (s.size : Int) := by omega
      have k3 : (k : Int) + 1 ≤ (s.size : Int) := by omega
      have wk : IntKind.i64.wrap ((k : Int) + 1) = (k : Int) + 1 := IntWalk.i64_in _ (by omega)
      clear hg
      by_cases hdc : d = c
      · subst hdc
        go_wp2_with fail
        go_region
        go_wp2_with fail
        go_ret3
        exact ⟨_, _, true, rfl, by rw [ByteArray.size_extract]; omega, by rw [ByteArray.size_extract]; omega, fun x t h => by
          obtain ⟨h1, h2⟩ := word_here h HG.out HN.out
          refine ⟨?_, ?_, rfl⟩
          · rw [h1]; simp
          · rw [h2]; simp; rw [List.take_of_length_le (by rw [List.length_drop, HLEN.out]; exact Nat.le_refl _)], (Only.refl _ _).drew⟩
      · have hne : ((d.toNat : Int) == (c.toNat : Int)) = false := by
          rw [beq_eq_false_iff_ne]; exact fun h => hdc (UInt8.toNat_inj.1 (by omega))
        have hne2 : ¬ (d.toNat : Int) = (c.toNat : Int) := fun h => hdc (UInt8.toNat_inj.1 (by omega))
        have HM := Lib.hid (no_more HN.out HG.out hdc)
        clear hdc
        go_wp2_with fail
        go_roundw
        case rel => exact ⟨k + 1, by go_num, by omega, HM, by first | rfl | trivial⟩
        case measure => simp [intOf]; omega
    · obtain rfl : k = s.size := by omega
      have hk' : ¬ (s.size : Int) < (s.size : Int) := by omega
      go_wp2_with fail
      go_ret3
      exact ⟨_, _, false, rfl, Nat.zero_le _, Nat.zero_le _, fun x t h => by
        have hn := HN.out
        rw [← HLEN.out, List.take_length] at hn
        exact (word_none h hn).elim, Only.refl _ _⟩
end Go.Proofs.YtclpebgjmgfigaaGreatDoor
