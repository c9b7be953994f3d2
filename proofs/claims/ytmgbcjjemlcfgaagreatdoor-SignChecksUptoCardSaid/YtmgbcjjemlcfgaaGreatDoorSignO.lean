/- What is proved here: the law package's own check answers true. Conditions: the library's variables hold what their initialisers lay. -/
import Derived.Test.YtmgbcjjemlcfgaaGreatDoorSignG
import Derived.Test.YtmgbcjjemlcfgaaGreatDoorSignI
namespace Go.Proofs.YtmgbcjjemlcfgaaGreatDoor
open Go.RowKit Go.Shelf
theorem read_in {l : List UInt8} {r s : Int} (h : IsText l r s) {e : Ending} (he : ReadEnd l e) : e = .returned (.tuple #[sgv r s, .bool true]) := by
  rcases he with ⟨r', s', h', rfl⟩ | ⟨h', _⟩
  · obtain ⟨rfl, rfl⟩ := text_inj h h'; rfl
  · exact absurd h (h' r s)
theorem read_out {l : List UInt8} (h : ∀ r s, ¬ IsText l r s) {e : Ending} (he : ReadEnd l e) : e = .returned (.tuple #[sgv 0 0, .bool false]) := by
  rcases he with ⟨r', s', h', rfl⟩ | ⟨_, h'⟩
  · exact absurd h' (h r' s')
  · exact h'
theorem text_12 : IsText [49, 50, 46, 51] 12 3 := ⟨⟨by omega, by omega⟩, ⟨by omega, by omega⟩, by decide +kernel⟩
theorem text_012 : ∀ r s, ¬ IsText [48, 49, 50, 46, 51] r s := fun r s ⟨hr, hs, e⟩ => by
  have h := text_cut (s := s) hr
  rw [← e] at h
  have h1 : Lib.itoa r = [48, 49, 50] := by
    have h2 : Lib.cut [48, 49, 50, 46, 51] [46] = ([48, 49, 50], [51], true) := by decide +kernel
    rw [h2] at h
    simp only [Prod.mk.injEq, and_true] at h
    exact h.1.symm
  have h3 := parse_itoa hr
  rw [h1] at h3
  have h4 : Lib.parseIntB 64 [48, 49, 50] = .ok 12 := by decide +kernel
  rw [h4] at h3
  cases h3
  have h5 : Lib.itoa 12 = [49, 50] := by decide +kernel
  rw [h5] at h1
  cases h1
theorem text_neg : textOf 12 (-3) = [49, 50, 46, 45, 51] := by decide +kernel
theorem mem_one : memB 1 = true := memB_true.2 ⟨1, rfl, by omega, by rw [P0_val]; omega, pw_one _⟩
theorem good_one_one (t : List UInt8) : goodB 1 t 1 0 = true := goodB_true.2 ⟨memB_true.1 mem_one, memB_true.1 mem_one, by omega, by rw [Q0_int]; omega, by
  show gp 0 = 1 * pw 1 _ % P0
  rw [pw_one]
  exact pw_zero 4⟩
/-- The key of a seed signs; what was signed is accepted. -/
theorem good_sign (x : Int) (t : List UInt8) : goodB (pub x : Int) t (gp (nonce (expo x) t) : Int) (sigS x t (nonce (expo x) t) : Int) = true := goodB_true.2 (good_signed x t _)
end Go.Proofs.YtmgbcjjemlcfgaaGreatDoor
