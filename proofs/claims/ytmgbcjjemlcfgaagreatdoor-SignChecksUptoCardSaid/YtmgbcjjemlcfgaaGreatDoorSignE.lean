/- What is proved here: signatures by the reference, with a given n and with its own. Condition: the texts are short. -/
import Derived.Test.YtmgbcjjemlcfgaaGreatDoorSignD
namespace Go.Proofs.YtmgbcjjemlcfgaaGreatDoor
open Go.RowKit Go.Shelf
/-- A signature with a given n. -/
noncomputable def signedN (x : Int) (text : List UInt8) (n : Nat) : Value := sgv (gp n : Int) (sigS x text n : Int)
set_option maxRecDepth 100000 in
set_option maxHeartbeats 400000 in
theorem rsignw_any (x : Int) (s : ByteArray) (n : Nat) (hnl : n < 1152921504606845789) (w : World) (hs : s.size ≤ 17592186044416) : Calls Tryz.prog 17 #[.int .i64 x, .string s, .int .i64 (n : Int)] w fun e w' => e = .returned (signedN x s.data.toList n) ∧ Only NoneOf w w' := by
  have hx := fun W => rexp_any x W
  have hp := fun W => rpub_any x W
  have hS := sigS_i x s.data.toList n
  have hlt := expo_lt x
  have hcl := chal_lt (gp n) (pub x) s.data.toList
  rw [Q0_val] at hlt hcl
  unfold signedN
  obtain ⟨S, eS⟩ : ∃ S, S = sigS x s.data.toList n := ⟨_, rfl⟩
  rw [← eS] at hS ⊢
  clear eS
  obtain ⟨E, eE⟩ : ∃ E, E = expo x := ⟨_, rfl⟩
  rw [← eE] at hx hS hlt
  have hpw := powI_gp n
  obtain ⟨g, eg⟩ : ∃ g, g = gp n := ⟨_, rfl⟩
  rw [← eg] at hpw hS hcl ⊢
  obtain ⟨pb, epb⟩ : ∃ pb, pb = pub x := ⟨_, rfl⟩
  rw [← epb] at hp hS hcl
  have hchal := fun W => rchal_any g pb s W hs
  obtain ⟨c, ec⟩ : ∃ c, c = chal g pb s.data.toList := ⟨_, rfl⟩
  rw [← ec] at hS hcl hchal
  have HX := Lib.hid hx
  have HP := Lib.hid hp
  have HSS := Lib.hid hS
  have HPW := Lib.hid hpw
  have HCH := Lib.hid hchal
  clear hx hp hS hpw hchal eE eg epb ec
  obtain ⟨m, em⟩ : ∃ m, m = (E : Int) * (c : Int) % 1152921504606845789 := ⟨_, rfl⟩
  have hm : 0 ≤ m ∧ m < 1152921504606845789 := by rw [em]; omega
  have HM := Lib.hid em
  clear em
  go_enter Tryz.func17, Tryz.ntmps17
  go_wp2_with fail
  refine (HX.out _).mono ?_
  rintro e w1 ⟨rfl, hw⟩
  subst hw
  go_wp2_with fail
  refine (rpow_any 4 n 2305843009213691579 (by omega) (by omega) (by omega) (by omega) (by omega) _).mono ?_
  rintro e w3 ⟨rfl, hw⟩
  rw [hw, HPW.out]
  clear hw
  go_wp2_with fail
  refine (HP.out _).mono ?_
  rintro e w4 ⟨rfl, hw⟩
  rw [hw]
  clear hw
  go_wp2_with fail
  refine (HCH.out _).mono ?_
  rintro e w5 ⟨rfl, ho5⟩
  have hb5 : Blk w5 w.heap.size tSig #[.int .i64 0, .int .i64 0] := (Blk.new w _ _).only ho5 (fun e => e)
  have HO5 := Lib.hid (((Only.refl NoneOf w).alloc _).trans ho5)
  have c0 := hb5.cell 0
  have c1 := hb5.cell 1
  have f0 := hb5.frozen 0
  have f1 := hb5.frozen 1
  have HB5 := Lib.hid hb5
  clear ho5 hb5
  go_wp2_with fail
  refine (rmul_any E c 1152921504606845789 (by omega) (by omega) (by omega) (by omega) (by omega) (by omega) w5).mono ?_
  rintro e w6 ⟨rfl, hw⟩
  rw [hw, ← HM.out]
  clear hw
  go_wp2_with fail
  refine (radd_any n m 1152921504606845789 (by omega) (by omega) (by omega) (by omega) (by omega) (by omega) _).mono ?_
  rintro e w7 ⟨rfl, hw⟩
  rw [hw]
  have hS2 := HSS.out
  rw [← HM.out] at hS2
  rw [hS2]
  clear hw hS2
  go_wp2_with fail
  have h8 := (HB5.out.set_ 0 (.int .i64 (g : Int))).set_ 1 (.int .i64 (S : Int))
  refine bodyPost_ret (v := sgv g S) (sig_res rfl rfl h8) rfl ⟨rfl, (HO5.out.setCell (p := ⟨w.heap.size, 0, none⟩) (.inr (Nat.le_refl _)) _).setCell (p := ⟨w.heap.size, 1, none⟩) (.inr (Nat.le_refl _)) _⟩
set_option maxRecDepth 100000 in
set_option maxHeartbeats 400000 in
theorem rsign_any (x : Int) (s : ByteArray) (w : World) (hs : s.size ≤ 17592186044416) : Calls Tryz.prog 6 #[.int .i64 x, .string s] w fun e w' => e = .returned (signed x s.data.toList) ∧ Only NoneOf w w' := by
  have hx := fun W => rexp_any x W
  have hn := nonce_i (expo x) s.data.toList
  have hnl := nonce_lt (expo x) s.data.toList
  rw [Q0_val] at hnl
  have hsw := fun W => rsignw_any x s (nonce (expo x) s.data.toList) hnl W hs
  rw [show signedN x s.data.toList (nonce (expo x) s.data.toList) = signed x s.data.toList from rfl] at hsw
  have hsv : ∃ a b : Int, signed x s.data.toList = sgv a b := ⟨_, _, rfl⟩
  obtain ⟨a, b, hab⟩ := hsv
  rw [hab] at hsw ⊢
  clear hab
  obtain ⟨E, eE⟩ : ∃ E, E = expo x := ⟨_, rfl⟩
  rw [← eE] at hx hn hnl hsw
  obtain ⟨n, en⟩ : ∃ n, n = nonce E s.data.toList := ⟨_, rfl⟩
  rw [← en] at hn hnl hsw
  obtain ⟨L, eL⟩ : ∃ L : ByteArray, L = ⟨#[110]⟩ := ⟨_, rfl⟩
  have hL : L.size = 1 := by rw [eL]; rfl
  have EL := Lib.hid eL
  have HX := Lib.hid hx
  have HN := Lib.hid hn
  have HSW := Lib.hid hsw
  clear hx hn hsw eE en eL
  go_enter Tryz.func6, Tryz.ntmps6
  rw [← EL.out]
  go_wp2_with fail
  refine (HX.out _).mono ?_
  rintro e w1 ⟨rfl, hw⟩
  subst hw
  go_wp2_with fail
  refine (rbytes8_any E _).mono ?_
  rintro e w2 ⟨t, rfl, ht, ho2⟩
  have hb2 : Blk w2 w.heap.size tSig #[.int .i64 0, .int .i64 0] := (Blk.new w _ _).only ho2 (fun e => e)
  have HB2 := Lib.hid hb2
  have HO2 := Lib.hid (((Only.refl NoneOf w).alloc _).trans ho2)
  have hz : t.size = 8 := by rw [size_list, ht, bytes8_len]
  have hs1 : L.size + t.size ≤ 9223372036854775807 := by omega
  have hs2 : (L ++ t).size + s.size ≤ 9223372036854775807 := by rw [ByteArray.size_append]; omega
  have hsz : (L ++ t ++ s).size ≤ 35184372088832 := by rw [ByteArray.size_append, ByteArray.size_append]; omega
  have hres : hashF 1152921504606845788 (L ++ t ++ s).data.toList = (n : Int) - 1 := by
    rw [← HN.out, ByteArray.data_append, ByteArray.data_append, Array.toList_append, Array.toList_append, ht, EL.out]
    simp [hashS]
  have HRES := Lib.hid hres
  have HSZ := Lib.hid hsz
  clear ht ho2 hb2 hres hsz
  go_wp2_with fail
  refine (rhash_any (L ++ t ++ s) 1152921504606845788 HSZ.out (by omega) (by omega) w2).mono ?_
  rintro e w3 ⟨rfl, ho3⟩
  rw [HRES.out]
  have e1 : IntKind.i64.wrap ((n : Int) - 1 + 1) = (n : Int) := by rw [show (n : Int) - 1 + 1 = (n : Int) by omega]; exact IntWalk.i64_in _ (by omega)
  have HO3 := Lib.hid (HO2.out.trans ho3)
  have HB3 := Lib.hid (HB2.out.only ho3 (fun e => e))
  clear ho3
  go_wp2_with fail
  refine (HSW.out w3).mono ?_
  rintro e w4 ⟨rfl, ho4⟩
  have hb4 := HB3.out.only ho4 (fun e => e)
  have HO4 := Lib.hid (HO3.out.trans ho4)
  have c0 := hb4.cell 0
  have c1 := hb4.cell 1
  have f0 := hb4.frozen 0
  have f1 := hb4.frozen 1
  have HB4 := Lib.hid hb4
  clear ho4 hb4
  unfold sgv
  go_wp2_with fail
  have h8 := (HB4.out.set_ 0 (.int .i64 a)).set_ 1 (.int .i64 b)
  refine bodyPost_ret (v := sgv a b) (sig_res rfl rfl h8) rfl ⟨rfl, (HO4.out.setCell (p := ⟨w.heap.size, 0, none⟩) (.inr (Nat.le_refl _)) _).setCell (p := ⟨w.heap.size, 1, none⟩) (.inr (Nat.le_refl _)) _⟩
end Go.Proofs.YtmgbcjjemlcfgaaGreatDoor
