/- What is proved here: the law on changed signatures answers true. Conditions: the library's variables hold what their initialisers lay; the numbers are ints. -/
import Derived.Test.YtmgbcjjemlcfgaaGreatDoorSignP
import Derived.Test.YtmgbcjjemlcfgaaGreatDoorWrap
import Derived.Test.YtmgbcjjemlcfgaaGreatDoorSignE
import Derived.Test.YtmgbcjjemlcfgaaGreatDoorSignV
import Derived.BigRegion
namespace Go.Proofs.YtmgbcjjemlcfgaaGreatDoor
open Go.RowKit Go.Shelf
abbrev tChg : TypeId := 23
theorem cut300 (s : ByteArray) : (s.extract 0 (min s.size 300)).size ≤ 300 := by rw [ByteArray.size_extract]; omega
set_option maxRecDepth 100000 in
set_option maxHeartbeats 4000000 in
theorem checks_any (x : Int) (s : ByteArray) (qr qs qk : Int) (qt : ByteArray) (raw : Bool) (hqr : In qr) (hqs : In qs) (hqk : In qk) (w : World) (he : Env w) :
    Calls Tryz.prog 3 #[.int .i64 x, .string s, .agg #[.int .i64 qr, .int .i64 qs, .int .i64 qk, .string qt, .bool raw]] w fun e w' => e = .returned (.bool true) ∧ Only NoneOf w w' := by
  have hcz := cut300 s
  obtain ⟨m, em⟩ : ∃ m, m = min s.size 300 := ⟨_, rfl⟩
  rw [← em] at hcz
  have m1 : min (s.size : Int) 300 = (m : Int) := by omega
  have m2 : (m : Int) ≤ (s.size : Int) := by omega
  have m0 : (0 : Int) ≤ (m : Int) := by omega
  have hcy := cut300 qt
  obtain ⟨n, en⟩ : ∃ n, n = min qt.size 300 := ⟨_, rfl⟩
  rw [← en] at hcy
  have n1 : min (qt.size : Int) 300 = (n : Int) := by omega
  have n2 : (n : Int) ≤ (qt.size : Int) := by omega
  have n0 : (0 : Int) ≤ (n : Int) := by omega
  have hpub := fun W => rpub_any x W
  have hpk := pub_small x
  obtain ⟨pk, epk⟩ : ∃ pk : Int, pk = (pub x : Int) := ⟨_, rfl⟩
  rw [← epk] at hpub
  obtain ⟨T, eT⟩ : ∃ T, T = s.extract 0 m := ⟨_, rfl⟩
  rw [← eT] at hcz
  have hsg := fun W => rsign_any x T W (by omega)
  unfold signed at hsg
  have ha := pw_small 4 (nonce (expo x) T.data.toList)
  have hbl := sigS_lt x T.data.toList (nonce (expo x) T.data.toList)
  rw [Q0_val] at hbl
  obtain ⟨a, ea⟩ : ∃ a : Int, a = (gp (nonce (expo x) T.data.toList) : Int) := ⟨_, rfl⟩
  obtain ⟨b, eb⟩ : ∃ b : Int, b = (sigS x T.data.toList (nonce (expo x) T.data.toList) : Int) := ⟨_, rfl⟩
  have ia : In a := by rw [ea]; unfold gp In; omega
  have ib : In b := by rw [eb]; unfold In; omega
  have ik : In pk := by rw [epk]; unfold In; omega
  rw [← ea, ← eb] at hsg
  have hvv : ∀ (key r t : Int) (u : ByteArray), In key → In r → u.size ≤ 600 → ∃ v : Bool, (∀ W, Calls Tryz.prog 7 #[.int .i64 key, .string u, .agg #[.int .i64 r, .int .i64 t]] W fun e w' => e = .returned (.bool v) ∧ Only NoneOf W w') ∧ (∀ W, Calls Tryz.prog 8 #[.int .i64 key, .string u, .agg #[.int .i64 r, .int .i64 t]] W fun e w' => e = .returned (.bool v) ∧ Only NoneOf W w') :=
    fun key r t u hk hr hu => ⟨goodB key u.data.toList r t, fun W => sverify_any key r t u W (by omega) hk.1 hk.2 hr.1 hr.2, fun W => rverify_any key r t u W (by omega) hk.1 hk.2 hr.1 hr.2⟩
  obtain ⟨v0, hv0, hw0⟩ := hvv pk a b T ik ia (by omega)
  unfold sgv at hsg
  obtain ⟨X, eX⟩ : ∃ X, X = w.alloc (.cells #[.int .i64 qr, .int .i64 qs, .int .i64 qk, .string qt, .bool raw] tChg) := ⟨_, rfl⟩
  obtain ⟨B, eB⟩ : ∃ B, B = w.heap.size := ⟨_, rfl⟩
  have hq := Blk.new w tChg #[.int .i64 qr, .int .i64 qs, .int .i64 qk, .string qt, .bool raw]
  have hx : Only NoneOf w X := by rw [eX]; exact (Only.refl _ _).alloc _
  rw [← eX, ← eB] at hq
  have HQ := Lib.hid hq
  have HX := Lib.hid hx
  have HE := Lib.hid he
  have HPUB := Lib.hid hpub
  have HSG := Lib.hid hsg
  have HVV := Lib.hid hvv
  have HV0 := Lib.hid hv0
  have HW0 := Lib.hid hw0
  have EX := Lib.hid eX
  have EB := Lib.hid eB
  have ET := Lib.hid eT
  have IA := Lib.hid ia
  have IB := Lib.hid ib
  have IK := Lib.hid ik
  have HQR := Lib.hid hqr
  have HQS := Lib.hid hqs
  have HQK := Lib.hid hqk
  clear hq hx he hpub hsg hvv hv0 hw0 eX eB ea eb epk eT ia ib ik hqr hqs hqk ha hbl hpk em en
  go_enter Tryz.func3, Tryz.ntmps3
  go_wp2_with fail
  rw [← EX.out, ← EB.out]
  clear EX EB
  refine (sanity_any X (HE.out.none HX.out)).mono ?_
  rintro e w1 ⟨rfl, ho1⟩
  have HO1 := Lib.hid (HX.out.trans ho1)
  have HQ1 := Lib.hid (HQ.out.only ho1 (fun e => e))
  clear ho1
  go_wp2_with fail
  rw [← ET.out]
  clear ET
  refine (HPUB.out w1).mono ?_
  rintro e w2 ⟨rfl, hw2⟩
  subst hw2
  go_wp2_with fail
  refine (HSG.out w2).mono ?_
  rintro e w3 ⟨rfl, ho3⟩
  have hq3 := (HQ1.out.only ho3 (fun e => e)).alloc (.cells #[.int .i64 a, .int .i64 b] tSig)
  have hb3 := Blk.new w3 tSig #[.int .i64 a, .int .i64 b]
  have ho3' := (HO1.out.trans ho3).alloc (.cells #[.int .i64 a, .int .i64 b] tSig)
  obtain ⟨Y, eY⟩ : ∃ Y, Y = w3.alloc (.cells #[.int .i64 a, .int .i64 b] tSig) := ⟨_, rfl⟩
  obtain ⟨G, eG⟩ : ∃ G, G = w3.heap.size := ⟨_, rfl⟩
  rw [← eY] at hq3 ho3'
  rw [← eY, ← eG] at hb3
  have c0 : Y.cell? ⟨G, 0, none⟩ = some (.int .i64 a) := hb3.cell 0
  have c1 : Y.cell? ⟨G, 1, none⟩ = some (.int .i64 b) := hb3.cell 1
  have HQ3 := Lib.hid hq3
  have HB3 := Lib.hid hb3
  have HO3 := Lib.hid ho3'
  have EY := Lib.hid eY
  have EG := Lib.hid eG
  clear ho3 hq3 hb3 ho3' eY eG HQ1 HO1
  go_wp2_with fail
  rw [← EY.out, ← EG.out]
  clear EY EG
  go_region_held3 (fun w' => w'.cell? ⟨G, 0, none⟩ = some (.int .i64 a) ∧ w'.cell? ⟨G, 1, none⟩ = some (.int .i64 b)) (first | assumption | exact ⟨c0, c1⟩ | (refine ⟨?_, ?_⟩ <;> assumption) | go_keep)
    (first
      | (go_at_call 7; (with_reducible refine (HV0.out _).mono ?_); rintro e w4 ⟨rfl, ho4⟩; have HO4 : Hid (Only NoneOf Y w4) := Lib.hid (only_of_drew ho4); have s0 := (only_of_drew ho4).cell_some c0 (fun e => e); have s1 := (only_of_drew ho4).cell_some c1 (fun e => e); clear ho4)
      | (go_at_call 8; (with_reducible refine (HW0.out _).mono ?_); rintro e w5 ⟨rfl, ho5⟩; have HO5 : Hid (Only NoneOf Y w5) := Lib.hid (HO4.out.trans ho5); have s2 := ho5.cell_some s0 (fun e => e); have s3 := ho5.cell_some s1 (fun e => e); clear ho5))
  have hq5 := HQ3.out.only HO5.out (fun e => e)
  have k0 := hq5.cell 0
  have k1 := hq5.cell 1
  have k2 := hq5.cell 2
  have k3 := hq5.cell 3
  have k4 := hq5.cell 4
  simp only [List.getElem?_toArray, List.getElem?_cons_succ, List.getElem?_cons_zero] at k0 k1 k2 k3 k4
  have hYo := HO3.out.trans HO5.out
  have hg5 := HB3.out.only HO5.out (fun e => e)
  have hsum : T.size + (qt.extract 0 n).size ≤ 9223372036854775807 := by omega
  have HQ5 := Lib.hid hq5
  have HOY := Lib.hid hYo
  have HG5 := Lib.hid hg5
  have hq6 := hq5.alloc (.cells #[.int .i64 (wrap64 (a + qr)), .int .i64 (wrap64 (b + qs))] tSig)
  have hn6 := Blk.new w5 tSig #[.int .i64 (wrap64 (a + qr)), .int .i64 (wrap64 (b + qs))]
  have l0 := hq6.cell 0
  have l1 := hq6.cell 1
  have l2 := hq6.cell 2
  have l3 := hq6.cell 3
  have l4 := hq6.cell 4
  simp only [List.getElem?_toArray, List.getElem?_cons_succ, List.getElem?_cons_zero] at l0 l1 l2 l3 l4
  have p2 := (hq5.alloc (.cells #[.int .i64 qr, .int .i64 qs] tSig)).cell 2
  have p3 := (hq5.alloc (.cells #[.int .i64 qr, .int .i64 qs] tSig)).cell 3
  simp only [List.getElem?_toArray, List.getElem?_cons_succ, List.getElem?_cons_zero] at p2 p3
  have n6 := hn6.cell 0
  have n7 := hn6.cell 1
  have f6 := hn6.frozen 0
  have f7 := hn6.frozen 1
  clear hq5 hYo hg5 c0 c1 s0 s1 HO3 HO4 HB3 HQ3 hq6 hn6
  obtain ⟨V, eV⟩ : ∃ V, V = qt.extract 0 n := ⟨_, rfl⟩
  obtain ⟨H, eH⟩ : ∃ H, H = w5.heap.size := ⟨_, rfl⟩
  have hV : V.size ≤ 300 := by rw [eV]; exact hcy
  have EV := Lib.hid eV
  have EH := Lib.hid eH
  clear eV eH
  cases raw
  case' false =>
    obtain ⟨K, eK⟩ : ∃ K, K = wrap64 (pk + qk) := ⟨_, rfl⟩
    obtain ⟨R, eR⟩ : ∃ R, R = wrap64 (a + qr) := ⟨_, rfl⟩
    obtain ⟨S, eS⟩ : ∃ S, S = wrap64 (b + qs) := ⟨_, rfl⟩
    have hK : In K := by rw [eK]; unfold wrap64 In; omega
    have hR : In R := by rw [eR]; unfold wrap64 In; omega
    have EK := Lib.hid eK
    have ER := Lib.hid eR
    have ES := Lib.hid eS
    have HK := Lib.hid hK
    have HR := Lib.hid hR
    clear eK eR eS hK hR
    go_wp2_with fail
    rw [← EV.out, ← EK.out, ← ER.out, ← ES.out, ← EH.out]
    have hn9 := Blk.new w5 tSig #[.int .i64 R, .int .i64 S]
    have hg9 := HG5.out.alloc (.cells #[.int .i64 R, .int .i64 S] tSig)
    have ho9 := HOY.out.alloc (.cells #[.int .i64 R, .int .i64 S] tSig)
    rw [← EH.out] at hn9
    clear EK ER ES
  case' true =>
    go_wp2_with fail
    go_region
    go_wp2_with fail
    obtain ⟨K, eK⟩ : ∃ K, K = qk := ⟨_, rfl⟩
    obtain ⟨R, eR⟩ : ∃ R, R = qr := ⟨_, rfl⟩
    obtain ⟨S, eS⟩ : ∃ S, S = qs := ⟨_, rfl⟩
    have HK : Hid (In K) := Lib.hid (by rw [eK]; exact HQK.out)
    have HR : Hid (In R) := Lib.hid (by rw [eR]; exact HQR.out)
    have hn9 := (Blk.new w5 tSig #[.int .i64 qr, .int .i64 qs]).drew
    have hg9 := (HG5.out.alloc (.cells #[.int .i64 qr, .int .i64 qs] tSig)).drew
    have ho9 := (HOY.out.alloc (.cells #[.int .i64 qr, .int .i64 qs] tSig)).drew
    rw [← EV.out, ← EH.out, ← eK]
    rw [← eR, ← eS] at hn9 hg9 ho9 ⊢
    rw [← EH.out] at hn9
    clear eK eR eS
  all_goals
    refine wp_gen (fun Z => Blk Z G tSig #[.int .i64 a, .int .i64 b] ∧ Blk Z H tSig #[.int .i64 R, .int .i64 S] ∧ Only NoneOf w Z) ⟨hg9, hn9, ho9⟩ ?_
    rintro Z ⟨hgz, hnz, hoz⟩
    have z0 : Z.cell? ⟨G, 0, none⟩ = some (.int .i64 a) := hgz.cell 0
    have z1 : Z.cell? ⟨G, 1, none⟩ = some (.int .i64 b) := hgz.cell 1
    have z2 : Z.cell? ⟨H, 0, none⟩ = some (.int .i64 R) := hnz.cell 0
    have z3 : Z.cell? ⟨H, 1, none⟩ = some (.int .i64 S) := hnz.cell 1
    obtain ⟨O, eO⟩ : ∃ O, O = T ++ V := ⟨_, rfl⟩
    have hO : O.size ≤ 600 := by rw [eO, ByteArray.size_append]; omega
    rw [← eO]
    have HOZ := Lib.hid hoz
    obtain ⟨v1, hv1, hw1⟩ := HVV.out K R S O HK.out HR.out hO
    obtain ⟨v2, hv2, hw2⟩ := HVV.out K a b T HK.out IA.out (by omega)
    obtain ⟨v3, hv3, hw3⟩ := HVV.out pk a b O IK.out IA.out hO
    obtain ⟨v4, hv4, hw4⟩ := HVV.out pk R S T IK.out HR.out (by omega)
    have HV1 := Lib.hid hv1
    have HV2 := Lib.hid hv2
    have HV3 := Lib.hid hv3
    have HV4 := Lib.hid hv4
    have HW1 := Lib.hid hw1
    have HW2 := Lib.hid hw2
    have HW3 := Lib.hid hw3
    have HW4 := Lib.hid hw4
    clear hn9 hg9 ho9 hgz hnz hoz eO hO hv1 hv2 hv3 hv4 hw1 hw2 hw3 hw4 k0 k1 k2 k3 k4 l0 l1 l2 l3 l4 p2 p3 n6 n7 f6 f7 hsum s2 s3 HO5
    go_region_held3 (fun w' => w'.cell? ⟨G, 0, none⟩ = some (.int .i64 a) ∧ w'.cell? ⟨G, 1, none⟩ = some (.int .i64 b) ∧ w'.cell? ⟨H, 0, none⟩ = some (.int .i64 R) ∧ w'.cell? ⟨H, 1, none⟩ = some (.int .i64 S)) (first | assumption | exact ⟨z0, z1, z2, z3⟩ | (refine ⟨?_, ?_, ?_, ?_⟩ <;> assumption) | go_keep)
      (first
        | (go_at_call 7; (with_reducible refine (HV1.out _).mono ?_); rintro e u1 ⟨rfl, hu⟩; have HU1 : Hid (Only NoneOf Z u1) := Lib.hid (only_of_drew hu); have a0 := HU1.out.cell_some z0 (fun e => e); have a1 := HU1.out.cell_some z1 (fun e => e); have a2 := HU1.out.cell_some z2 (fun e => e); have a3 := HU1.out.cell_some z3 (fun e => e); clear hu)
        | (go_at_call 8; (with_reducible refine (HW1.out _).mono ?_); rintro e u2 ⟨rfl, hu⟩; have HU2 : Hid (Only NoneOf Z u2) := Lib.hid (HU1.out.trans hu); have b0 := HU2.out.cell_some z0 (fun e => e); have b1 := HU2.out.cell_some z1 (fun e => e); have b2 := HU2.out.cell_some z2 (fun e => e); have b3 := HU2.out.cell_some z3 (fun e => e); clear hu)
        | (go_at_call 7; (with_reducible refine (HV2.out _).mono ?_); rintro e u3 ⟨rfl, hu⟩; have HU3 : Hid (Only NoneOf Z u3) := Lib.hid (HU2.out.trans hu); have d0 := HU3.out.cell_some z0 (fun e => e); have d1 := HU3.out.cell_some z1 (fun e => e); have d2 := HU3.out.cell_some z2 (fun e => e); have d3 := HU3.out.cell_some z3 (fun e => e); clear hu)
        | (go_at_call 8; (with_reducible refine (HW2.out _).mono ?_); rintro e u4 ⟨rfl, hu⟩; have HU4 : Hid (Only NoneOf Z u4) := Lib.hid (HU3.out.trans hu); have e0 := HU4.out.cell_some z0 (fun e => e); have e1 := HU4.out.cell_some z1 (fun e => e); have e2 := HU4.out.cell_some z2 (fun e => e); have e3 := HU4.out.cell_some z3 (fun e => e); clear hu)
        | (go_at_call 7; (with_reducible refine (HV3.out _).mono ?_); rintro e u5 ⟨rfl, hu⟩; have HU5 : Hid (Only NoneOf Z u5) := Lib.hid (HU4.out.trans hu); have f0 := HU5.out.cell_some z0 (fun e => e); have f1 := HU5.out.cell_some z1 (fun e => e); have f2 := HU5.out.cell_some z2 (fun e => e); have f3 := HU5.out.cell_some z3 (fun e => e); clear hu)
        | (go_at_call 8; (with_reducible refine (HW3.out _).mono ?_); rintro e u6 ⟨rfl, hu⟩; have HU6 : Hid (Only NoneOf Z u6) := Lib.hid (HU5.out.trans hu); have g0 := HU6.out.cell_some z0 (fun e => e); have g1 := HU6.out.cell_some z1 (fun e => e); have g2 := HU6.out.cell_some z2 (fun e => e); have g3 := HU6.out.cell_some z3 (fun e => e); clear hu)
        | (go_at_call 7; (with_reducible refine (HV4.out _).mono ?_); rintro e u7 ⟨rfl, hu⟩; have HU7 : Hid (Only NoneOf Z u7) := Lib.hid (HU6.out.trans hu); have i0 := HU7.out.cell_some z0 (fun e => e); have i1 := HU7.out.cell_some z1 (fun e => e); have i2 := HU7.out.cell_some z2 (fun e => e); have i3 := HU7.out.cell_some z3 (fun e => e); clear hu)
        | (go_at_call 8; (with_reducible refine (HW4.out _).mono ?_); rintro e u8 ⟨rfl, hu⟩; have HU8 : Hid (Only NoneOf Z u8) := Lib.hid (HU7.out.trans hu); have j0 := HU8.out.cell_some z0 (fun e => e); have j1 := HU8.out.cell_some z1 (fun e => e); have j2 := HU8.out.cell_some z2 (fun e => e); have j3 := HU8.out.cell_some z3 (fun e => e); clear hu))
    go_wp2_with fail
    go_ret
    exact ⟨rfl, HOZ.out.trans HU8.out⟩
end Go.Proofs.YtmgbcjjemlcfgaaGreatDoor
