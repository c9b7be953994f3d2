/- What is proved here: the law on the one S of a signature answers true. Conditions: the library's variables hold what their initialisers lay; the first text is short. -/
import Derived.Test.YtmgbcjjemlcfgaaDoorSignR
namespace Go.Proofs.YtmgbcjjemlcfgaaDoor
open Go.RowKit Go.Shelf
theorem good_other {key r s t : Int} {l : List UInt8} (h : goodB key l r s = true) (hne : t ≠ s) : goodB key l r t = false := by
  rw [Bool.eq_false_iff, Ne, goodB_true]
  exact fun k => hne (good_one k (goodB_true.1 h))
set_option maxRecDepth 100000 in
set_option maxHeartbeats 1000000 in
theorem one_any (r s : ByteArray) (d : Int) (hd0 : -9223372036854775808 ≤ d) (hd1 : d ≤ 9223372036854775807) (hr : r.size ≤ 17592186044416) (w : World) (he : Env w) : Calls Tryd.prog 7 #[.string r, .string s, .int .i64 d] w fun e w' => e = .returned (.bool true) ∧ Only NoneOf w w' := by
  have hcz := cut_size s
  obtain ⟨m, em⟩ : ∃ m, m = min s.size 300 := ⟨_, rfl⟩
  rw [← em] at hcz
  have m1 : min (s.size : Int) 300 = (m : Int) := by omega
  have m2 : (m : Int) ≤ (s.size : Int) := by omega
  have m0 : (0 : Int) ≤ (m : Int) := by omega
  have hk := fun W => skey_any r W hr
  obtain ⟨k, ek⟩ : ∃ k, k = keyOf r.data.toList := ⟨_, rfl⟩
  rw [← ek] at hk
  have hsg := fun W => ssign_any k (s.extract 0 m) W hcz
  have hgd := good_sign k (s.extract 0 m).data.toList
  have hbl := sigS_lt k (s.extract 0 m).data.toList (nonce (expo k) (s.extract 0 m).data.toList)
  rw [Q0_val] at hbl
  unfold signed at hsg
  obtain ⟨a, ea⟩ : ∃ a : Int, a = (gp (nonce (expo k) (s.extract 0 m).data.toList) : Int) := ⟨_, rfl⟩
  obtain ⟨b, eb⟩ : ∃ b : Int, b = (sigS k (s.extract 0 m).data.toList (nonce (expo k) (s.extract 0 m).data.toList) : Int) := ⟨_, rfl⟩
  have ha : 0 ≤ a ∧ a < 2305843009213691579 := by rw [ea]; have := pw_small 4 (nonce (expo k) (s.extract 0 m).data.toList); unfold gp; omega
  have hb : 0 ≤ b ∧ b < 1152921504606845789 := by omega
  rw [← ea, ← eb] at hsg hgd
  have hpk := pub_small k
  obtain ⟨pk, epk⟩ : ∃ pk, pk = pub k := ⟨_, rfl⟩
  rw [← epk] at hk hgd hpk
  have hv := fun W => sverify_any pk a b (s.extract 0 m) W hcz (by omega) (by omega) (by omega) (by omega)
  have hadd := fun W => radd_any b d 1152921504606845789 (by omega) (by omega) hd0 hd1 (by omega) (by omega) W
  obtain ⟨b2, eb2⟩ : ∃ b2, b2 = (b + d) % 1152921504606845789 := ⟨_, rfl⟩
  rw [← eb2] at hadd
  have hv2 := fun W => sverify_any pk a b2 (s.extract 0 m) W hcz (by omega) (by omega) (by omega) (by omega)
  have hno := fun (h : b2 ≠ b) => good_other hgd h
  rw [hgd] at hv
  unfold sgv at hsg hv hv2
  have HK := Lib.hid hk
  have HSG := Lib.hid hsg
  have HV := Lib.hid hv
  have HV2 := Lib.hid hv2
  have HNO := Lib.hid hno
  have HADD := Lib.hid hadd
  have HE := Lib.hid he
  clear hcz hk ek hsg hgd ea eb ha hb hbl hpk epk hv hv2 hno hadd eb2 he em hd0 hd1
  go_enter Tryd.func7, Tryd.ntmps7
  go_wp2_with fail
  refine (sanity_any w HE.out).mono ?_
  rintro e w1 ⟨rfl, ho1⟩
  have HO1 := Lib.hid ho1
  clear ho1
  go_wp2_with fail
  refine (HK.out w1).mono ?_
  rintro e w2 ⟨rfl, ho2⟩
  have HO2 := Lib.hid (HO1.out.trans ho2)
  clear ho2
  go_wp2_with fail
  refine (HSG.out w2).mono ?_
  rintro e w3 ⟨rfl, ho3⟩
  have HO3 := Lib.hid (HO2.out.trans ho3)
  clear ho3
  have x0 := (Blk.new w3 tSig #[.int .i64 a, .int .i64 b]).cell 0
  have x1 := (Blk.new w3 tSig #[.int .i64 a, .int .i64 b]).cell 1
  have hb1 := (Blk.new w3 tSig #[.int .i64 a, .int .i64 b]).alloc (.cells #[.int .i64 a, .int .i64 b] tSig)
  have hb2 := Blk.new (w3.alloc (.cells #[.int .i64 a, .int .i64 b] tSig)) tSig #[.int .i64 a, .int .i64 b]
  rw [World.size_alloc] at hb2
  have c0 := hb1.cell 0
  have c1 := hb1.cell 1
  have d0 := hb2.cell 0
  have d1 := hb2.cell 1
  have f1 := hb2.frozen 1
  have HB1 := Lib.hid hb1
  have HB2 := Lib.hid hb2
  clear hb1 hb2
  go_wp2_with fail
  refine (HADD.out _).mono ?_
  rintro e w4 ⟨rfl, hw4⟩
  subst hw4
  go_wp2_with fail
  have hO : Only NoneOf w ((w3.alloc (.cells #[.int .i64 a, .int .i64 b] tSig)).alloc (.cells #[.int .i64 a, .int .i64 b2] tSig)) := (HO3.out.alloc _).alloc _
  have hA := (Blk.new w3 tSig #[.int .i64 a, .int .i64 b]).alloc (.cells #[.int .i64 a, .int .i64 b2] tSig)
  have hB := Blk.new (w3.alloc (.cells #[.int .i64 a, .int .i64 b] tSig)) tSig #[.int .i64 a, .int .i64 b2]
  rw [World.size_alloc] at hB
  have HO := Lib.hid hO
  have HA := Lib.hid hA
  have HBB := Lib.hid hB
  clear hO hA hB x0 x1 c0 c1 d0 d1 f1 HB1 HB2
  refine (HV.out _).mono ?_
  rintro e w5 ⟨rfl, ho5⟩
  have hA5 := HA.out.only ho5 (fun e => e)
  have hB5 := HBB.out.only ho5 (fun e => e)
  have HO5 := Lib.hid (HO.out.trans ho5)
  have c1 := hA5.cell 1
  have d0 := hB5.cell 0
  have d1 := hB5.cell 1
  clear ho5 hA5 hB5 HA HBB HO
  by_cases hbb : b2 = b
  · subst hbb
    go_wp2_with fail
    go_ret
    exact ⟨rfl, HO5.out⟩
  · have hn := HNO.out hbb
    have hv2 := HV2.out
    rw [hn] at hv2
    have HV3 := Lib.hid hv2
    clear hv2 hn
    go_wp2_with fail
    refine (HV3.out _).mono ?_
    rintro e w6 ⟨rfl, ho6⟩
    have HO6 := Lib.hid (HO5.out.trans ho6)
    clear ho6
    go_wp2_with fail
    go_ret
    exact ⟨rfl, HO6.out⟩
end Go.Proofs.YtmgbcjjemlcfgaaDoor
