/- What is proved here: the laws on keys, on signatures and on their being accepted answer true. Conditions: the library's variables hold what their initialisers lay. -/
import Derived.Test.YtmgbcjjemlcfgaaDoorSignP
import Derived.Test.YtmgbcjjemlcfgaaDoorSignE
import Derived.Test.YtmgbcjjemlcfgaaDoorKeyR
import Derived.Test.YtmgbcjjemlcfgaaDoorPow
namespace Go.Proofs.YtmgbcjjemlcfgaaDoor
open Go.RowKit Go.Shelf
theorem pub_key (s : List UInt8) : pub (keyOf s : Int) = gp (keyOf s) := by unfold pub; rw [expo_self (keyOf_lt s).2]
theorem cut_size (s : ByteArray) : (s.extract 0 (min s.size 300)).size ≤ 17592186044416 := by rw [ByteArray.size_extract]; omega
set_option maxRecDepth 100000 in
set_option maxHeartbeats 1000000 in
theorem keys_any (s : ByteArray) (w : World) (he : Env w) : Calls Tryd.prog 3 #[.string s] w fun e w' => e = .returned (.bool true) ∧ Only NoneOf w w' := by
  have hcz := cut_size s
  obtain ⟨m, em⟩ : ∃ m, m = min s.size 300 := ⟨_, rfl⟩
  rw [← em] at hcz
  have m1 : min (s.size : Int) 300 = (m : Int) := by omega
  have m2 : (m : Int) ≤ (s.size : Int) := by omega
  have m0 : (0 : Int) ≤ (m : Int) := by omega
  have hk := fun W => skey_any (s.extract 0 m) W hcz
  have hr := fun W => rkey_any (s.extract 0 m) W hcz
  have hb := keyOf_lt (s.extract 0 m).data.toList
  have hp := pub_key (s.extract 0 m).data.toList
  rw [Q0_val] at hb
  obtain ⟨k, ek⟩ : ∃ k, k = keyOf (s.extract 0 m).data.toList := ⟨_, rfl⟩
  rw [← ek] at hk hr hb hp
  have hw := fun W => rpow_any 4 k 2305843009213691579 (by omega) (by omega) (by omega) (by omega) (by omega) W
  rw [powI_gp, ← hp] at hw
  obtain ⟨p, ep⟩ : ∃ p, p = pub k := ⟨_, rfl⟩
  rw [← ep] at hk hr hw
  obtain ⟨K, eK⟩ : ∃ K : Int, K = (k : Int) := ⟨_, rfl⟩
  have k0 : (0 : Int) < K := by omega
  have k1 : K < 1152921504606845789 := by omega
  rw [← eK] at hk hr hw
  have HK := Lib.hid hk
  have HR := Lib.hid hr
  have HW := Lib.hid hw
  have HE := Lib.hid he
  clear hcz hk hr hb hp ek hw ep he em eK
  go_enter Tryd.func3, Tryd.ntmps3
  go_wp2_with fail
  refine (sanity_any w HE.out).mono ?_
  rintro e w1 ⟨rfl, ho1⟩
  have HO1 := Lib.hid ho1
  clear ho1
  go_wp2_with fail
  refine (HK.out w1).mono ?_
  rintro e w2 ⟨rfl, ho2⟩
  have HO2 := Lib.hid (HO1.out.trans ho2)
  clear ho2
  go_wp2_with fail
  refine (HR.out w2).mono ?_
  rintro e w3 ⟨rfl, ho3⟩
  have HO3 := Lib.hid (HO2.out.trans ho3)
  clear ho3
  go_wp2_with fail
  refine (HW.out w3).mono ?_
  rintro e w4 ⟨rfl, hw4⟩
  subst hw4
  go_wp2_with fail
  go_ret
  exact ⟨rfl, HO3.out⟩
set_option maxRecDepth 100000 in
set_option maxHeartbeats 1000000 in
theorem signs_any (x : Int) (s : ByteArray) (w : World) (he : Env w) : Calls Tryd.prog 4 #[.int .i64 x, .string s] w fun e w' => e = .returned (.bool true) ∧ Only NoneOf w w' := by
  have hcz := cut_size s
  obtain ⟨m, em⟩ : ∃ m, m = min s.size 300 := ⟨_, rfl⟩
  rw [← em] at hcz
  have m1 : min (s.size : Int) 300 = (m : Int) := by omega
  have m2 : (m : Int) ≤ (s.size : Int) := by omega
  have m0 : (0 : Int) ≤ (m : Int) := by omega
  have hk := fun W => ssign_any x (s.extract 0 m) W hcz
  have hr := fun W => rsign_any x (s.extract 0 m) W hcz
  obtain ⟨a, b, hab⟩ : ∃ a b : Int, signed x (s.extract 0 m).data.toList = sgv a b := ⟨_, _, rfl⟩
  rw [hab] at hk hr
  unfold sgv at hk hr
  have HK := Lib.hid hk
  have HR := Lib.hid hr
  have HE := Lib.hid he
  clear hcz hk hr hab he em
  go_enter Tryd.func4, Tryd.ntmps4
  go_wp2_with fail
  refine (sanity_any w HE.out).mono ?_
  rintro e w1 ⟨rfl, ho1⟩
  have HO1 := Lib.hid ho1
  clear ho1
  go_wp2_with fail
  refine (HK.out w1).mono ?_
  rintro e w2 ⟨rfl, ho2⟩
  have HO2 := Lib.hid (HO1.out.trans ho2)
  clear ho2
  go_wp2_with fail
  refine (HR.out w2).mono ?_
  rintro e w3 ⟨rfl, ho3⟩
  have HO3 := Lib.hid (HO2.out.trans ho3)
  clear ho3
  go_wp2_with fail
  go_ret
  exact ⟨rfl, HO3.out⟩
set_option maxRecDepth 100000 in
set_option maxHeartbeats 1000000 in
theorem verifies_any (r s : ByteArray) (hr : r.size ≤ 17592186044416) (w : World) (he : Env w) : Calls Tryd.prog 5 #[.string r, .string s] w fun e w' => e = .returned (.bool true) ∧ Only NoneOf w w' := by
  have hcz := cut_size s
  obtain ⟨m, em⟩ : ∃ m, m = min s.size 300 := ⟨_, rfl⟩
  rw [← em] at hcz
  have m1 : min (s.size : Int) 300 = (m : Int) := by omega
  have m2 : (m : Int) ≤ (s.size : Int) := by omega
  have m0 : (0 : Int) ≤ (m : Int) := by omega
  have hk := fun W => skey_any r W hr
  obtain ⟨k, ek⟩ : ∃ k, k = keyOf r.data.toList := ⟨_, rfl⟩
  rw [← ek] at hk
  have hsg := fun W => ssign_any k (s.extract 0 m) W hcz
  have hgd := good_sign k (s.extract 0 m).data.toList
  unfold signed at hsg
  obtain ⟨a, ea⟩ : ∃ a : Int, a = (gp (nonce (expo k) (s.extract 0 m).data.toList) : Int) := ⟨_, rfl⟩
  obtain ⟨b, eb⟩ : ∃ b : Int, b = (sigS k (s.extract 0 m).data.toList (nonce (expo k) (s.extract 0 m).data.toList) : Int) := ⟨_, rfl⟩
  have ha : 0 ≤ a ∧ a < 2305843009213691579 := by rw [ea]; have := pw_small 4 (nonce (expo k) (s.extract 0 m).data.toList); unfold gp; omega
  rw [← ea, ← eb] at hsg hgd
  have hpk := pub_small k
  obtain ⟨pk, epk⟩ : ∃ pk, pk = pub k := ⟨_, rfl⟩
  rw [← epk] at hk hgd hpk
  have hv := fun W => sverify_any pk a b (s.extract 0 m) W hcz (by omega) (by omega) (by omega) (by omega)
  rw [hgd] at hv
  unfold sgv at hsg hv
  have HK := Lib.hid hk
  have HSG := Lib.hid hsg
  have HV := Lib.hid hv
  have HE := Lib.hid he
  clear hcz hk ek hsg hgd ea eb ha hpk epk hv he em
  go_enter Tryd.func5, Tryd.ntmps5
  go_wp2_with fail
  refine (sanity_any w HE.out).mono ?_
  rintro e w1 ⟨rfl, ho1⟩
  have HO1 := Lib.hid ho1
  clear ho1
  go_wp2_with fail
  refine (HK.out w1).mono ?_
  rintro e w2 ⟨rfl, ho2⟩
  have HO2 := Lib.hid (HO1.out.trans ho2)
  clear ho2
  go_wp2_with fail
  refine (HSG.out w2).mono ?_
  rintro e w3 ⟨rfl, ho3⟩
  have HO3 := Lib.hid (HO2.out.trans ho3)
  clear ho3
  go_wp2_with fail
  refine (HV.out w3).mono ?_
  rintro e w4 ⟨rfl, ho4⟩
  have HO4 := Lib.hid (HO3.out.trans ho4)
  clear ho4
  go_wp2_with fail
  go_ret
  exact ⟨rfl, HO4.out⟩
end Go.Proofs.YtmgbcjjemlcfgaaDoor
