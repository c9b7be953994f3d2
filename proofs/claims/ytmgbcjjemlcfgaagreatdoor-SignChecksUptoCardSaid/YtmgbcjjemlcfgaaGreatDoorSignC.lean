/- What is proved here: exponents, public keys, keys of seeds and challenges, by the program and by the reference. Condition: the texts are short. -/
import Derived.Test.YtmgbcjjemlcfgaaGreatDoorSignB
import Derived.Test.YtmgbcjjemlcfgaaGreatDoorRf11
import Derived.Test.YtmgbcjjemlcfgaaGreatDoorGroup
namespace Go.Proofs.YtmgbcjjemlcfgaaGreatDoor
open Go.RowKit Go.Shelf
theorem tmod_expo {x m : Int} (em : m = x.tmod 1152921504606845789) : (-1152921504606845789 < m ∧ m < 1152921504606845789) ∧ (expo x : Int) = if m < 0 then m + 1152921504606845789 else m := by
  have h1 := Int.lt_tmod_of_pos x (show (0 : Int) < 1152921504606845789 by omega)
  have h2 := Int.tmod_lt_of_pos x (show (0 : Int) < 1152921504606845789 by omega)
  refine ⟨by omega, ?_⟩
  rw [expo_eq, Q0_int, em, Int.tmod_eq_emod]
  split <;> split <;> omega
set_option maxRecDepth 100000 in
theorem sexp_any (x : Int) (w : World) : Calls Tryz.prog 27 #[.int .i64 x] w fun e w' => e = .returned (.int .i64 (expo x : Int)) ∧ w' = w := by
  obtain ⟨m, em⟩ : ∃ m, m = x.tmod 1152921504606845789 := ⟨_, rfl⟩
  obtain ⟨h1, h2⟩ := tmod_expo em
  have h3 := expo_lt x
  rw [Q0_val] at h3
  obtain ⟨g, eg⟩ : ∃ g, g = expo x := ⟨_, rfl⟩
  rw [← eg] at h2 h3 ⊢
  have e1 : IntKind.i64.wrap (x.tmod 1152921504606845789) = m := by rw [← em]; exact IntWalk.i64_in _ (by omega)
  have e2 : IntKind.i64.wrap (m + 1152921504606845789) = m + 1152921504606845789 := IntWalk.i64_in _ (by omega)
  have e3 : (m + 1152921504606845789).tmod 1152921504606845789 = (g : Int) := by
    rw [Int.tmod_eq_emod_of_nonneg (by omega)]
    split at h2 <;> omega
  have e4 : IntKind.i64.wrap (g : Int) = (g : Int) := IntWalk.i64_in _ (by omega)
  have em' := em.symm
  clear eg em h2
  go_enter Tryz.func27, Tryz.ntmps27
  go_wp2_with fail
  go_ret
  exact ⟨rfl, rfl⟩
set_option maxRecDepth 100000 in
theorem rexp_any (x : Int) (w : World) : Calls Tryz.prog 14 #[.int .i64 x] w fun e w' => e = .returned (.int .i64 (expo x : Int)) ∧ w' = w := by
  obtain ⟨m, em⟩ : ∃ m, m = x.tmod 1152921504606845789 := ⟨_, rfl⟩
  obtain ⟨h1, h2⟩ := tmod_expo em
  have h3 := expo_lt x
  rw [Q0_val] at h3
  obtain ⟨g, eg⟩ : ∃ g, g = expo x := ⟨_, rfl⟩
  rw [← eg] at h2 h3 ⊢
  have e1 : IntKind.i64.wrap (x.tmod 1152921504606845789) = m := by rw [← em]; exact IntWalk.i64_in _ (by omega)
  have e2 : IntKind.i64.wrap (m + 1152921504606845789) = m + 1152921504606845789 := IntWalk.i64_in _ (by omega)
  have em' := em.symm
  have H2 := Lib.hid h2
  clear eg em h2
  go_enter Tryz.func14, Tryz.ntmps14
  go_wp2_with fail
  · go_ret
    exact ⟨ret_int (by have := H2.out; split at this <;> omega), rfl⟩
  · go_ret
    exact ⟨ret_int (by have := H2.out; split at this <;> omega), rfl⟩
theorem powI_gp (n : Nat) : powI 4 n 2305843009213691579 = gp n := rfl
theorem powI_pw (k n : Nat) : powI (k : Int) n 2305843009213691579 = pw k n := by
  unfold powI
  have h : res (k : Int) 2305843009213691579 = k % P0 := by
    have h1 : (res (k : Int) 2305843009213691579 : Int) = (k : Int) % 2305843009213691579 := res_nat k P0 (by rw [P0_val]; omega)
    rw [P0_val]
    omega
  rw [h]
  exact pw_base k n
theorem pw_small (a n : Nat) : pw a n < 2305843009213691579 := pw_lt a n
theorem pub_small (x : Int) : pub x < 2305843009213691579 := pw_lt _ _
set_option maxRecDepth 100000 in
theorem spub_any (x : Int) (w : World) : Calls Tryz.prog 26 #[.int .i64 x] w fun e w' => e = .returned (.int .i64 (pub x : Int)) ∧ Only NoneOf w w' := by
  have hn := expo_lt x
  rw [Q0_val] at hn
  have hp : powI 4 (expo x) 2305843009213691579 = pub x := powI_gp _
  obtain ⟨n, en⟩ : ∃ n, n = expo x := ⟨_, rfl⟩
  have hx := sexp_any x w
  rw [← en] at hx hn hp
  have HX := Lib.hid hx
  have HP := Lib.hid hp
  clear hx en hp
  go_enter Tryz.func26, Tryz.ntmps26
  go_wp2_with fail
  refine HX.out.mono ?_
  rintro e w1 ⟨rfl, hw⟩
  subst hw
  go_wp2_with fail
  refine (fpow_any 4 n 2305843009213691579 (by omega) (by omega) (by omega) (by omega) (by omega) _).mono ?_
  rintro e w2 ⟨rfl, ho⟩
  have HO := Lib.hid ho
  clear ho
  rw [HP.out]
  go_wp2_with fail
  go_ret
  exact ⟨rfl, HO.out⟩
set_option maxRecDepth 100000 in
theorem rpub_any (x : Int) (w : World) : Calls Tryz.prog 5 #[.int .i64 x] w fun e w' => e = .returned (.int .i64 (pub x : Int)) ∧ w' = w := by
  have hn := expo_lt x
  rw [Q0_val] at hn
  have hp : powI 4 (expo x) 2305843009213691579 = pub x := powI_gp _
  obtain ⟨n, en⟩ : ∃ n, n = expo x := ⟨_, rfl⟩
  have hx := rexp_any x w
  rw [← en] at hx hn hp
  have HX := Lib.hid hx
  have HP := Lib.hid hp
  clear hx en hp
  go_enter Tryz.func5, Tryz.ntmps5
  go_wp2_with fail
  refine HX.out.mono ?_
  rintro e w1 ⟨rfl, hw⟩
  subst hw
  go_wp2_with fail
  refine (rpow_any 4 n 2305843009213691579 (by omega) (by omega) (by omega) (by omega) (by omega) _).mono ?_
  rintro e w2 ⟨rfl, hw⟩
  subst hw
  rw [HP.out]
  go_wp2_with fail
  go_ret
  exact ⟨rfl, rfl⟩
theorem hashS_key (s : List UInt8) : hashS 107 [] s = 107 :: s := rfl
set_option maxRecDepth 100000 in
set_option maxHeartbeats 400000 in
theorem skey_any (s : ByteArray) (w : World) (hs : s.size ≤ 17592186044416) : Calls Tryz.prog 9 #[.string s] w fun e w' => e = .returned (.tuple #[.int .i64 (keyOf s.data.toList : Int), .int .i64 (pub (keyOf s.data.toList) : Int)]) ∧ Only NoneOf w w' := by
  have hk := keyOf_eq s.data.toList
  have hk2 := (keyOf_lt s.data.toList).2
  rw [Q0_val] at hk2
  rw [Q0_int] at hk
  obtain ⟨k, ek⟩ : ∃ k, k = keyOf s.data.toList := ⟨_, rfl⟩
  rw [← ek] at hk hk2 ⊢
  have hh : hashF 1152921504606845788 (hashS 107 [] s.data.toList) = (k : Int) - 1 := by
    rw [hashS_key, hk]; simp
  have HH := Lib.hid hh
  clear ek hk hh
  go_enter Tryz.func9, Tryz.ntmps9
  go_wp2_with fail
  refine (shash_any 107 s 1152921504606845788 _ [] w (Nums.nil w) hs (by simp) (by omega) (by omega)).mono ?_
  rintro e w1 ⟨rfl, ho⟩
  have HO := Lib.hid ho
  clear ho
  rw [HH.out]
  have e1 : IntKind.i64.wrap ((k : Int) - 1 + 1) = (k : Int) := by rw [show (k : Int) - 1 + 1 = (k : Int) by omega]; exact IntWalk.i64_in _ (by omega)
  go_wp2_with fail
  refine (spub_any k w1).mono ?_
  rintro e w2 ⟨rfl, ho⟩
  have HO2 := Lib.hid (HO.out.trans ho)
  clear ho
  go_wp2_with fail
  go_ret2
  exact ⟨rfl, HO2.out⟩
end Go.Proofs.YtmgbcjjemlcfgaaGreatDoor
