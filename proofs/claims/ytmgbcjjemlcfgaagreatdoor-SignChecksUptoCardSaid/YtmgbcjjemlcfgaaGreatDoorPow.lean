/- What is proved here: powers in the field, by the reference. Conditions: the modulus is positive, the exponent is not negative. -/
import Derived.Test.YtmgbcjjemlcfgaaGreatDoorGroup
import Derived.Test.YtmgbcjjemlcfgaaGreatDoorRf11
namespace Go.Proofs.YtmgbcjjemlcfgaaGreatDoor
open Go.RowKit Go.Shelf
theorem res_nat (a : Int) (M : Nat) (hM : 0 < M) : ((res a (M : Int) : Nat) : Int) = a % (M : Int) := res_eq (by omega)
set_option maxHeartbeats 400000 in
theorem rpow_any (a : Int) (n : Nat) (m : Int) (h0 : -9223372036854775808 ≤ a) (h1 : a ≤ 9223372036854775807) (hn : n ≤ 9223372036854775807) (hm0 : 0 < m) (hm : m ≤ 9223372036854775807) (w : World) :
    Calls Tryz.prog 13 #[.int .i64 a, .int .i64 (n : Int), .int .i64 m] w fun e w' => e = .returned (.int .i64 (powI a n m : Int)) ∧ w' = w := by
  obtain ⟨M, rfl⟩ : ∃ M : Nat, m = (M : Int) := ⟨m.toNat, by omega⟩
  have hM : 0 < M := by omega
  have ha := rresidue_any a (M : Int) h0 h1 hm0 hm w
  have hb := rresidue_any 1 (M : Int) (by omega) (by omega) hm0 hm w
  rw [← res_nat _ _ hM] at ha hb
  have hu : res a (M : Int) < M := by have := res_lt (a := a) hm0; omega
  have ho : res 1 (M : Int) < M := by have := res_lt (a := 1) hm0; omega
  obtain ⟨g, eg⟩ : ∃ g, g = powI a n (M : Int) := ⟨_, rfl⟩
  have hst : res 1 (M : Int) * res a (M : Int) ^ n % M = g := by
    have e1 : res 1 (M : Int) = 1 % M := by
      have h2 := res_nat 1 M hM
      have h3 : ((1 % M : Nat) : Int) = 1 % (M : Int) := by simp
      omega
    rw [e1, Nat.mod_mul_mod, Nat.one_mul, eg, powI, Int.toNat_natCast]
  rw [← eg]
  obtain ⟨u, eu⟩ : ∃ u, u = res a (M : Int) := ⟨_, rfl⟩
  obtain ⟨o, eo⟩ : ∃ o, o = res 1 (M : Int) := ⟨_, rfl⟩
  rw [← eu] at ha hu hst
  rw [← eo] at hb ho hst
  have HA := Lib.hid ha
  have HB := Lib.hid hb
  have HST := Lib.hid hst
  have hp1 : ¬ (M : Int) < 1 := by omega
  have hn0 : decide ((n : Int) < 0) = false := decide_eq_false (by omega)
  clear ha hb hst eu eo eg h0 h1
  go_enter Tryz.func13, Tryz.ntmps13
  go_wp2_with fail
  refine HA.out.mono ?_
  rintro e w' ⟨rfl, hw⟩
  rw [hw]
  clear hw
  go_wp2_with fail
  refine HB.out.mono ?_
  rintro e w' ⟨rfl, hw⟩
  rw [hw]
  clear hw
  go_wp2_with fail
  go_loop [1, 7, 8] (fun y x z => ∃ u v t : Nat, x = .int .i64 (u : Int) ∧ y = .int .i64 (v : Int) ∧ z = .int .i64 (t : Int) ∧ u < M ∧ t < M ∧ v ≤ n ∧ Hid (t * u ^ v % M = g)) (fun y _ _ => (intOf y).toNat)
  case atStart => exact ⟨u, n, o, rfl, rfl, rfl, hu, ho, Nat.le_refl _, HST⟩
  case round =>
    obtain ⟨u, v, t, rfl, rfl, rfl, hu, ht, hvn, HG⟩ := hrel
    by_cases hv : v = 0
    · subst hv
      have e := HG.out
      rw [Nat.pow_zero, Nat.mul_one, Nat.mod_eq_of_lt ht] at e
      clear HG
      go_wp2_with fail
      go_ret
      exact ⟨rfl, rfl⟩
    · have hv2 : (0 : Int) < (v : Int) := by omega
      have hvv : ((v : Int) / 2) = ((v / 2 : Nat) : Int) := by omega
      have c1 := rmul_any (t : Int) (u : Int) (M : Int) (by omega) (by omega) (by omega) (by omega) hm0 hm w
      have c2 := rmul_any (u : Int) (u : Int) (M : Int) (by omega) (by omega) (by omega) (by omega) hm0 hm w
      have e1 : (t : Int) * (u : Int) % (M : Int) = ((t * u % M : Nat) : Int) := by rw [Int.natCast_emod, Int.natCast_mul]
      have e2 : (u : Int) * (u : Int) % (M : Int) = ((u * u % M : Nat) : Int) := by rw [Int.natCast_emod, Int.natCast_mul]
      rw [e1] at c1
      rw [e2] at c2
      have C1 := Lib.hid c1
      have C2 := Lib.hid c2
      have l1 : t * u % M < M := Nat.mod_lt _ hM
      have l2 : u * u % M < M := Nat.mod_lt _ hM
      have L1 := Lib.hid l1
      have L2 := Lib.hid l2
      have HVV := Lib.hid hvv
      clear c1 c2 e1 e2 l1 l2 hvv
      by_cases ho : v % 2 = 1
      · have hov : (v : Int) % 2 = 1 := by omega
        have HN := Lib.hid (pstep_odd HG.out ho)
        clear ho
        go_wp2_with fail
        refine C1.out.mono ?_
        rintro e w' ⟨rfl, hw⟩
        rw [hw]
        clear hw
        go_wp2_with fail
        refine C2.out.mono ?_
        rintro e w' ⟨rfl, hw⟩
        rw [hw]
        clear hw
        go_wp2_with fail
        go_round
        case rel => exact ⟨_, v / 2, _, rfl, by rw [HVV.out], rfl, L2.out, L1.out, by omega, HN⟩
        case measure => simp [intOf]; omega
      · have hov : (v : Int) % 2 = 0 := by omega
        have HN := Lib.hid (pstep_even HG.out (show v % 2 = 0 by omega))
        clear ho
        go_wp2_with fail
        refine C2.out.mono ?_
        rintro e w' ⟨rfl, hw⟩
        rw [hw]
        clear hw
        go_wp2_with fail
        go_round
        case rel => exact ⟨_, v / 2, _, rfl, by rw [HVV.out], rfl, L2.out, ht, by omega, HN⟩
        case measure => simp [intOf]; omega
end Go.Proofs.YtmgbcjjemlcfgaaGreatDoor
