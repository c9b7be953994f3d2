/- What is proved here: challenges and signatures, by the program and by the reference. Condition: the texts are short. -/
import Derived.Test.YtmgbcjjemlcfgaaGreatDoorSignC
namespace Go.Proofs.YtmgbcjjemlcfgaaGreatDoor
open Go.RowKit Go.Shelf
def sgv (r s : Int) : Value := .agg #[.int .i64 r, .int .i64 s]
abbrev tSig : TypeId := 27
theorem chal_i (r key : Int) (text : List UInt8) : hashF 1152921504606845789 (hashS 99 [r, key] text) = (chal r key text : Int) := by rw [chal_eq, Q0_int]
theorem nonce_i (x : Int) (text : List UInt8) : hashF 1152921504606845788 (hashS 110 [x] text) = (nonce x text : Int) - 1 := by rw [nonce_eq, Q0_int]; simp
set_option maxRecDepth 100000 in
theorem schal_any (r key : Int) (s : ByteArray) (w : World) (hs : s.size ≤ 17592186044416) : Calls Tryz.prog 19 #[.int .i64 r, .int .i64 key, .string s] w fun e w' => e = .returned (.int .i64 (chal r key s.data.toList : Int)) ∧ Only NoneOf w w' := by
  go_enter Tryz.func19, Tryz.ntmps19
  go_wp2_with fail
  refine (shash_any 99 s 1152921504606845789 _ [r, key] _ (Nums.two (Blk.new w _ _)) hs (by simp) (by omega) (by omega)).mono ?_
  rintro e w1 ⟨rfl, ho⟩
  rw [chal_i]
  have HO := Lib.hid (((Only.refl NoneOf w).alloc _).trans ho)
  clear ho
  go_wp2_with fail
  go_ret
  exact ⟨rfl, HO.out⟩
set_option maxRecDepth 100000 in
set_option maxHeartbeats 400000 in
theorem rchal_any (r key : Int) (s : ByteArray) (w : World) (hs : s.size ≤ 17592186044416) : Calls Tryz.prog 23 #[.int .i64 r, .int .i64 key, .string s] w fun e w' => e = .returned (.int .i64 (chal r key s.data.toList : Int)) ∧ Only NoneOf w w' := by
  obtain ⟨L, eL⟩ : ∃ L : ByteArray, L = ⟨#[99]⟩ := ⟨_, rfl⟩
  have hL : L.size = 1 := by rw [eL]; rfl
  have EL := Lib.hid eL
  clear eL
  go_enter Tryz.func23, Tryz.ntmps23
  rw [← EL.out]
  go_wp2_with fail
  refine (rbytes8_any r w).mono ?_
  rintro e w1 ⟨t1, rfl, ht1, ho1⟩
  have hz1 : t1.size = 8 := by rw [size_list, ht1, bytes8_len]
  have hs1 : L.size + t1.size ≤ 9223372036854775807 := by omega
  have HT1 := Lib.hid ht1
  have HO1 := Lib.hid ho1
  clear ht1 ho1
  go_wp2_with fail
  refine (rbytes8_any key w1).mono ?_
  rintro e w2 ⟨t2, rfl, ht2, ho2⟩
  have hz2 : t2.size = 8 := by rw [size_list, ht2, bytes8_len]
  have hs2 : (L ++ t1).size + t2.size ≤ 9223372036854775807 := by rw [ByteArray.size_append]; omega
  have hs3 : (L ++ t1 ++ t2).size + s.size ≤ 9223372036854775807 := by rw [ByteArray.size_append, ByteArray.size_append]; omega
  have hsz : (L ++ t1 ++ t2 ++ s).size ≤ 35184372088832 := by rw [ByteArray.size_append, ByteArray.size_append, ByteArray.size_append]; omega
  have hres : hashF 1152921504606845789 (L ++ t1 ++ t2 ++ s).data.toList = (chal r key s.data.toList : Int) := by
    rw [← chal_i, ByteArray.data_append, ByteArray.data_append, ByteArray.data_append, Array.toList_append, Array.toList_append, Array.toList_append, HT1.out, ht2, EL.out]
    simp [hashS]
  obtain ⟨T, eT⟩ : ∃ T, T = L ++ t1 := ⟨_, rfl⟩
  rw [← eT] at hs2 hs3 hsz hres ⊢
  obtain ⟨U, eU⟩ : ∃ U, U = T ++ t2 := ⟨_, rfl⟩
  rw [← eU] at hs3 hsz hres
  have HO2 := Lib.hid (HO1.out.trans ho2)
  have HRES := Lib.hid hres
  have HSZ := Lib.hid hsz
  have EU := Lib.hid eU
  clear ht2 ho2 hsz hres eT eU
  go_wp2_with (rw [← EU.out])
  refine (rhash_any (U ++ s) 1152921504606845789 HSZ.out (by omega) (by omega) w2).mono ?_
  rintro e w3 ⟨rfl, ho3⟩
  rw [HRES.out]
  have HO3 := Lib.hid (HO2.out.trans ho3)
  clear ho3
  go_wp2_with fail
  go_ret
  exact ⟨rfl, HO3.out⟩
theorem sigS_i (x : Int) (text : List UInt8) (n : Nat) : ((n : Int) + (expo x : Int) * (chal (gp n) (pub x) text : Int) % 1152921504606845789) % 1152921504606845789 = (sigS x text n : Int) := by
  unfold sigS
  rw [Q0_val]
  have h : ((expo x * chal (gp n) (pub x) text : Nat) : Int) = (expo x : Int) * (chal (gp n) (pub x) text : Int) := by simp
  rw [← h]
  omega
theorem pub_expo (x : Int) : pub (expo x : Int) = pub x := by unfold pub; rw [expo_self (expo_lt x)]
/-- A signature made with the program's own n. -/
noncomputable def signed (x : Int) (text : List UInt8) : Value := sgv (gp (nonce (expo x) text) : Int) (sigS x text (nonce (expo x) text) : Int)
theorem sig_res {fn : Func} {p : Tmp} {tmps : Array Value} {w : World} {g : Nat} {r s : Int} (h : fn.results = #[.cell p tSig]) (hp : tmps.getD p undef = .pointer (some ⟨g, 0, none⟩)) (hb : Blk w g tSig #[.int .i64 r, .int .i64 s]) : (results fn tmps).run Tryz.prog w = .ok (sgv r s) w :=
  results_blk h hp hb Tryz.underlying27 rfl (by kernel_rfl)
set_option maxRecDepth 100000 in
set_option maxHeartbeats 400000 in
theorem ssign_any (x : Int) (s : ByteArray) (w : World) (hs : s.size ≤ 17592186044416) : Calls Tryz.prog 10 #[.int .i64 x, .string s] w fun e w' => e = .returned (signed x s.data.toList) ∧ Only NoneOf w w' := by
  have hx := fun W => sexp_any x W
  have hpe := pub_expo x
  have hS := sigS_i x s.data.toList (nonce (expo x) s.data.toList)
  have hlt := expo_lt x
  have hn := nonce_i (expo x) s.data.toList
  have hnl := nonce_lt (expo x) s.data.toList
  have hcl := chal_lt (gp (nonce (expo x) s.data.toList)) (pub x) s.data.toList
  rw [Q0_val] at hlt hnl hcl
  unfold signed
  obtain ⟨S, eS⟩ : ∃ S, S = sigS x s.data.toList (nonce (expo x) s.data.toList) := ⟨_, rfl⟩
  rw [← eS] at hS ⊢
  clear eS
  obtain ⟨E, eE⟩ : ∃ E, E = expo x := ⟨_, rfl⟩
  rw [← eE] at hx hpe hS hlt hn hnl hcl ⊢
  obtain ⟨n, en⟩ : ∃ n, n = nonce E s.data.toList := ⟨_, rfl⟩
  rw [← en] at hS hn hnl hcl ⊢
  have hpw := powI_gp n
  obtain ⟨g, eg⟩ : ∃ g, g = gp n := ⟨_, rfl⟩
  rw [← eg] at hpw hS hcl ⊢
  obtain ⟨pb, epb⟩ : ∃ pb, pb = pub x := ⟨_, rfl⟩
  rw [← epb] at hpe hS hcl
  have hchal := fun W => schal_any g pb s W hs
  obtain ⟨c, ec⟩ : ∃ c, c = chal g pb s.data.toList := ⟨_, rfl⟩
  rw [← ec] at hS hcl hchal
  have HX := Lib.hid hx
  have HPE := Lib.hid hpe
  have HSS := Lib.hid hS
  have HN := Lib.hid hn
  have HPW := Lib.hid hpw
  have HCH := Lib.hid hchal
  clear hx hpe hS hn hpw hchal eE en eg epb ec
  obtain ⟨m, em⟩ : ∃ m, m = (E : Int) * (c : Int) % 1152921504606845789 := ⟨_, rfl⟩
  have hm : 0 ≤ m ∧ m < 1152921504606845789 := by rw [em]; omega
  have HM := Lib.hid em
  clear em
  go_enter Tryz.func10, Tryz.ntmps10
  go_wp2_with fail
  refine (HX.out _).mono ?_
  rintro e w1 ⟨rfl, hw⟩
  subst hw
  go_wp2_with fail
  have hn1 := fun o => Nums.one (cap := 1) (Blk.new (w.alloc o) 3 #[.int .i64 (E : Int)])
  simp only [World.size_alloc] at hn1
  refine (shash_any 110 s 1152921504606845788 _ [(E : Int)] _ (hn1 _) hs (by simp) (by omega) (by omega)).mono ?_
  rintro e w2 ⟨rfl, ho2⟩
  rw [HN.out]
  have hb2 : Blk w2 w.heap.size tSig #[.int .i64 0, .int .i64 0] := ((Blk.new w _ _).alloc _).only ho2 (fun e => e)
  have e1 : IntKind.i64.wrap ((n : Int) - 1 + 1) = (n : Int) := by rw [show (n : Int) - 1 + 1 = (n : Int) by omega]; exact IntWalk.i64_in _ (by omega)
  have HO2 := Lib.hid ((((Only.refl NoneOf w).alloc _).alloc _).trans ho2)
  have HB2 := Lib.hid hb2
  clear ho2 hb2 hn1
  go_wp2_with fail
  refine (fpow_any 4 n 2305843009213691579 (by omega) (by omega) (by omega) (by omega) (by omega) _).mono ?_
  rintro e w3 ⟨rfl, ho3⟩
  rw [HPW.out]
  have HO3 := Lib.hid (HO2.out.trans ho3)
  have HB3 := Lib.hid (HB2.out.only ho3 (fun e => e))
  clear ho3
  go_wp2_with fail
  refine (spub_any E w3).mono ?_
  rintro e w4 ⟨rfl, ho4⟩
  rw [HPE.out]
  have HO4 := Lib.hid (HO3.out.trans ho4)
  have HB4 := Lib.hid (HB3.out.only ho4 (fun e => e))
  clear ho4
  go_wp2_with fail
  refine (HCH.out w4).mono ?_
  rintro e w5 ⟨rfl, ho5⟩
  have HO5 := Lib.hid (HO4.out.trans ho5)
  have HB5 := Lib.hid (HB4.out.only ho5 (fun e => e))
  clear ho5
  go_wp2_with fail
  refine (fMul_any E c 1152921504606845789 (by omega) (by omega) (by omega) (by omega) (by omega) (by omega) w5).mono ?_
  rintro e w6 ⟨rfl, k, hk⟩
  rw [hk, ← HM.out]
  clear hk
  go_wp2_with fail
  refine (fAdd_any n m 1152921504606845789 (by omega) (by omega) (by omega) (by omega) (by omega) (by omega) _).mono ?_
  rintro e w7 ⟨rfl, hw⟩
  rw [hw]
  have hS2 := HSS.out
  rw [← HM.out] at hS2
  rw [hS2]
  clear hw hS2
  have hb7 := HB5.out.drewN k
  have c0 := hb7.cell 0
  have c1 := hb7.cell 1
  have f0 := hb7.frozen 0
  have f1 := hb7.frozen 1
  have HB7 := Lib.hid hb7
  clear hb7
  go_wp2_with fail
  have h8 := (HB7.out.set_ 0 (.int .i64 (g : Int))).set_ 1 (.int .i64 (S : Int))
  refine bodyPost_ret (v := sgv g S) (sig_res rfl rfl h8) rfl ⟨rfl, ((HO5.out.drewN k).setCell (p := ⟨w.heap.size, 0, none⟩) (.inr (Nat.le_refl _)) _).setCell (p := ⟨w.heap.size, 1, none⟩) (.inr (Nat.le_refl _)) _⟩
end Go.Proofs.YtmgbcjjemlcfgaaGreatDoor
