/- What is proved here: members and accepted signatures, by the program. Condition: the texts are short. -/
import Derived.Test.YtmgbcjjemlcfgaaGreatDoorSignD
namespace Go.Proofs.YtmgbcjjemlcfgaaGreatDoor
open Go.RowKit Go.Shelf
open Classical in
noncomputable def memB (a : Int) : Bool := decide (memI a)
open Classical in
noncomputable def goodB (key : Int) (text : List UInt8) (r s : Int) : Bool := decide (Good key text r s)
theorem memB_true {a : Int} : memB a = true ↔ memI a := by unfold memB; simp
theorem goodB_true {key : Int} {text : List UInt8} {r s : Int} : goodB key text r s = true ↔ Good key text r s := by unfold goodB; simp
theorem memB_of {a : Int} (h0 : 0 < a) (h1 : a < 2305843009213691579) : memB a = decide (powI a Q0 2305843009213691579 = 1) := by
  obtain ⟨k, rfl⟩ : ∃ k : Nat, a = (k : Int) := ⟨a.toNat, by omega⟩
  rw [powI_pw, Bool.eq_iff_iff, memB_true, decide_eq_true_iff]
  constructor
  · rintro ⟨k', e, h⟩
    obtain rfl : k = k' := by omega
    exact h.2.2
  · intro h
    exact ⟨k, rfl, by omega, by rw [P0_val]; omega, h⟩
theorem memB_low {a : Int} (h : ¬ 0 < a) : memB a = false := by
  rw [Bool.eq_false_iff, Ne, memB_true]
  rintro ⟨k, rfl, hk, _⟩
  omega
theorem memB_high {a : Int} (h : ¬ a < 2305843009213691579) : memB a = false := by
  rw [Bool.eq_false_iff, Ne, memB_true]
  rintro ⟨k, rfl, _, hk, _⟩
  rw [P0_val] at hk
  omega
theorem memB_in {a : Int} (h : memB a = true) : 0 < a ∧ a < 2305843009213691579 := by
  obtain ⟨k, rfl, hk0, hk, _⟩ := memB_true.1 h
  rw [P0_val] at hk
  omega
set_option maxRecDepth 100000 in
set_option maxHeartbeats 400000 in
theorem fmember_any (a : Int) (h0 : -9223372036854775808 ≤ a) (h1 : a ≤ 9223372036854775807) (w : World) : Calls Tryz.prog 18 #[.int .i64 a] w fun e w' => e = .returned (.bool (memB a)) ∧ Only NoneOf w w' := by
  by_cases p0 : 0 < a
  · by_cases p1 : a < 2305843009213691579
    · have hp := fpow_any a Q0 2305843009213691579 h0 h1 (by rw [Q0_val]; omega) (by omega) (by omega) w
      have hm := memB_of p0 p1
      rw [Q0_int] at hp
      obtain ⟨v, ev⟩ : ∃ v, v = powI a Q0 2305843009213691579 := ⟨_, rfl⟩
      rw [← ev] at hp hm
      rw [hm]
      have hv : (decide ((v : Int) = 1)) = decide (v = 1) := by rw [decide_eq_decide]; omega
      have HP := Lib.hid hp
      have HV := Lib.hid hv
      clear hp hm ev hv h0 h1
      go_enter Tryz.func18, Tryz.ntmps18
      go_wp2_with fail
      refine HP.out.mono ?_
      rintro e w1 ⟨rfl, ho⟩
      have HO := Lib.hid ho
      clear ho
      by_cases hv1 : v = 1
      · subst hv1
        go_wp2_with fail
        go_ret
        exact ⟨rfl, HO.out⟩
      · have hv2 : ¬ (v : Int) = 1 := by omega
        go_wp2_with fail
        go_ret
        exact ⟨by simp [hv1]; omega, HO.out⟩
    · rw [memB_high p1]
      go_enter Tryz.func18, Tryz.ntmps18
      go_wp2_with fail
      go_ret
      exact ⟨rfl, Only.refl _ _⟩
  · rw [memB_low p0]
    go_enter Tryz.func18, Tryz.ntmps18
    go_wp2_with fail
    go_ret
    exact ⟨rfl, Only.refl _ _⟩
theorem good_no_key {key r s : Int} {text : List UInt8} (h : memB key = false) : goodB key text r s = false := by
  rw [Bool.eq_false_iff, Ne, goodB_true]
  rintro ⟨h1, _⟩
  rw [memB_true.2 h1] at h; cases h
theorem good_no_r {key r s : Int} {text : List UInt8} (h : memB r = false) : goodB key text r s = false := by
  rw [Bool.eq_false_iff, Ne, goodB_true]
  rintro ⟨_, h1, _⟩
  rw [memB_true.2 h1] at h; cases h
theorem good_no_s {key r s : Int} {text : List UInt8} (h : s < 0 ∨ ¬ s < 1152921504606845789) : goodB key text r s = false := by
  rw [Bool.eq_false_iff, Ne, goodB_true]
  rintro ⟨_, _, h1, h2, _⟩
  rw [Q0_int] at h2
  omega
theorem good_of {key r s : Int} {text : List UInt8} (hk : memB key = true) (hr : memB r = true) (h0 : 0 ≤ s) (h1 : s < 1152921504606845789) : goodB key text r s = decide ((gp s.toNat : Int) = r * (powI key (chal r key text) 2305843009213691579 : Int) % 2305843009213691579) := by
  obtain ⟨k, rfl, hkm⟩ := memB_true.1 hk
  obtain ⟨ρ, rfl, hrm⟩ := memB_true.1 hr
  rw [powI_pw, Bool.eq_iff_iff, goodB_true, decide_eq_true_iff]
  have e : ((ρ * pw k (chal ρ k text) % P0 : Nat) : Int) = (ρ : Int) * (pw k (chal ρ k text) : Int) % 2305843009213691579 := by
    have h : ((ρ * pw k (chal ρ k text) : Nat) : Int) = (ρ : Int) * (pw k (chal ρ k text) : Int) := by simp
    rw [← h, P0_val]
    omega
  rw [← e]
  constructor
  · rintro ⟨_, _, _, _, h⟩
    rw [h]
    rfl
  · intro h
    refine ⟨⟨k, rfl, hkm⟩, ⟨ρ, rfl, hrm⟩, h0, by rw [Q0_int]; exact h1, ?_⟩
    exact Int.ofNat_inj.1 h
end Go.Proofs.YtmgbcjjemlcfgaaGreatDoor
