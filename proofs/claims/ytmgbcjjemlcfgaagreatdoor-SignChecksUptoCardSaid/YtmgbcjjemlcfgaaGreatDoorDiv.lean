/- What is proved here: a number of two words divided by one word. Condition: the high word lies below the divisor. -/
import Derived.Test.YtmgbcjjemlcfgaaGreatDoorBase
import Derived.Test.YtmgbcjjemlcfgaaGreatDoorDivL
import Derived.Deep.DeepCutAuto
import Derived.Deep.CutBlock
namespace Go.Proofs.YtmgbcjjemlcfgaaGreatDoor
open Go.RowKit Go.Shelf
set_option maxRecDepth 100000 in
set_option maxHeartbeats 2000000 in
theorem div64_any (hi lo y : Nat) (hh : hi < y) (hl : lo < 18446744073709551616) (hy : y < 18446744073709551616) (w : World) :
    Calls Tryz.prog 67 #[.int .u64 hi, .int .u64 lo, .int .u64 y] w fun e w' => e = .returned (.tuple #[.int .u64 (((hi * 18446744073709551616 + lo) / y : Nat) : Int), .int .u64 (((hi * 18446744073709551616 + lo) % y : Nat) : Int)]) ∧ ∃ k, w' = w.drewN k := by
  have y0 : ¬ (y : Int) = 0 := by omega
  have yh : ¬ (y : Int) ≤ (hi : Int) := by omega
  have hlq : (lo : Int) / (y : Int) = ((lo / y : Nat) : Int) := by simp
  have hlw : IntKind.u64.wrap ((lo / y : Nat) : Int) = ((lo / y : Nat) : Int) := Mul64.wrapN _ (Nat.lt_of_le_of_lt (Nat.div_le_self _ _) hl)
  have HLQ := Lib.hid hlq
  have HLW := Lib.hid hlw
  clear hlq hlw
  go_enter Tryz.func67, Tryz.ntmps67
  go_wp2_with fail
  · rename_i h0 _ _
    obtain rfl : hi = 0 := by simpa using h0
    go_region
    go_wp2_with fail
    go_ret2
    refine ⟨?_, 1, rfl⟩
    rw [Nat.zero_mul, Nat.zero_add]
    show Ending.returned (.tuple #[.int .u64 (IntKind.u64.wrap ((lo : Int) / (y : Int))), .int .u64 ((lo : Int) % (y : Int))]) = _
    rw [HLQ.out, HLW.out, Int.natCast_emod]
  · clear HLQ HLW
    refine (Tryz.bits_LeadingZeros64 (y : Int) w (by omega) (by omega)).mono ?_
    rintro e w' ⟨rfl, hw⟩
    rw [hw]
    obtain ⟨s, es, hs, hs2, hs3⟩ := norm_of y (by omega) hy
    obtain ⟨c1, c2, c3, c4, c5⟩ := shifted hh hl hs hs2
    rw [Int.toNat_natCast, es]
    obtain ⟨Y, eY⟩ : ∃ Y, Y = y * 2 ^ s := ⟨_, rfl⟩
    obtain ⟨H, eH⟩ : ∃ H, H = hi * 2 ^ s := ⟨_, rfl⟩
    obtain ⟨Lh, eLh⟩ : ∃ Lh, Lh = lo / 2 ^ (64 - s) := ⟨_, rfl⟩
    obtain ⟨L, eL⟩ : ∃ L, L = lo * 2 ^ s % 18446744073709551616 := ⟨_, rfl⟩
    have p1 : (y : Int) * 2 ^ s = (Y : Int) := by rw [eY]; simp
    have p2 : (hi : Int) * 2 ^ s = (H : Int) := by rw [eH]; simp
    have p3 : (lo : Int) / 2 ^ (64 - s) = (Lh : Int) := by rw [eLh]; simp
    have p4 : (lo : Int) * 2 ^ s = ((lo * 2 ^ s : Nat) : Int) := by simp
    have q4 : IntKind.u64.wrap ((lo : Int) * 2 ^ s) = (L : Int) := by rw [p4, Mul64.wrapM, eL]
    have hL : L < 18446744073709551616 := by rw [eL]; exact Nat.mod_lt _ (by omega)
    have hsw : IntKind.u64.wrap (s : Int) = (s : Int) := Mul64.wrapN _ (by omega)
    rw [← eY] at hs2 hs3 c5
    rw [← eH, ← eLh] at c3 c4 c5
    rw [← eH] at c1
    rw [← eLh] at c2
    rw [← eL] at c4
    have e1 : IntKind.u64.wrap ((y : Int) * 2 ^ s) = (Y : Int) := by rw [p1]; exact Mul64.wrapN _ hs2
    have e2 : IntKind.u64.wrap ((hi : Int) * 2 ^ s) = (H : Int) := by rw [p2]; exact Mul64.wrapN _ c1
    have HC4 := Lib.hid c4
    have HEY := Lib.hid eY
    have HE1 := Lib.hid e1
    have HE2 := Lib.hid e2
    have HP3 := Lib.hid p3
    have HQ4 := Lib.hid q4
    clear c4 eY eH eLh eL p1 p2 p4 e1 e2 p3 q4 es
    obtain ⟨U, eU⟩ : ∃ U, U = H + Lh := ⟨_, rfl⟩
    rw [← eU] at c3 HC4 c5
    obtain ⟨A, eA⟩ : ∃ A, A = Y / 4294967296 := ⟨_, rfl⟩
    obtain ⟨B, eB⟩ : ∃ B, B = Y % 4294967296 := ⟨_, rfl⟩
    obtain ⟨D1, eD1⟩ : ∃ D1, D1 = L / 4294967296 := ⟨_, rfl⟩
    obtain ⟨D0, eD0⟩ : ∃ D0, D0 = L % 4294967296 := ⟨_, rfl⟩
    have hYA : A * 4294967296 + B = Y := by omega
    have hLD : D1 * 4294967296 + D0 = L := by rw [eD1, eD0]; exact Nat.div_add_mod' _ _
    have hA : 2147483648 ≤ A := by omega
    have hB : B < 4294967296 := by omega
    have hA2 : A < 4294967296 := by omega
    have hD1 : D1 < 4294967296 := by omega
    have hD0 : D0 < 4294967296 := by omega
    have hU : U < A * 4294967296 + B := by omega
    have T0 := Trial.start hA hB hD1 hU
    obtain ⟨q, eq⟩ : ∃ q, q = U / A := ⟨_, rfl⟩
    obtain ⟨r, er⟩ : ∃ r, r = U % A := ⟨_, rfl⟩
    rw [← eq, ← er] at T0
    have hqA : q * A ≤ U := by have := T0.sum; omega
    have hr : r < 4294967296 := by have := Nat.mod_lt U (show 0 < A by omega); omega
    obtain ⟨P, eP⟩ : ∃ P, P = q * A := ⟨_, rfl⟩
    have hsum := T0.sum
    rw [← eP] at hsum hqA
    have e3 : (Y : Int) / 4294967296 = (A : Int) := by rw [eA]; simp
    have e4 : bits .and .u64 (Y : Int) 4294967295 = (B : Int) := by rw [Mul64.maskN Y hs2, eB]
    have e5 : bits .or .u64 (H : Int) (Lh : Int) = (U : Int) := by rw [bits_or_u64_nat H Lh c1 c2, c3]
    have e6 : (L : Int) / 4294967296 = (D1 : Int) := by rw [eD1]; simp
    have e7 : bits .and .u64 (L : Int) 4294967295 = (D0 : Int) := by rw [Mul64.maskN L hL, eD0]
    have e8 : IntKind.u64.wrap ((U : Int) / (A : Int)) = (q : Int) := by rw [← Int.natCast_ediv, ← eq]; exact Mul64.wrapN _ (by have := T0.most; omega)
    have e9 : IntKind.u64.wrap ((q : Int) * (A : Int)) = (P : Int) := by rw [Mul64.mulN, ← eP]; exact Mul64.wrapN _ (by omega)
    have e10 : IntKind.u64.wrap ((U : Int) - (P : Int)) = (r : Int) := by rw [show (U : Int) - (P : Int) = (r : Int) by omega]; exact Mul64.wrapN _ (by omega)
    have e11 : ¬ (A : Int) = 0 := by omega
    have HT0 := Lib.hid T0
    have HYA := Lib.hid hYA
    have HLD := Lib.hid hLD
    have HU := Lib.hid hU
    have e1 := HE1.out
    have e2 := HE2.out
    have p3 := HP3.out
    have q4 := HQ4.out
    clear T0 hYA hLD c3 c5 c1 c2 hL eU eA eB eD1 eD0 eq er eP hsum hqA hU hs2 hs3 HE1 HE2 HP3 HQ4
    obtain ⟨T, eT⟩ : ∃ T, T = (U * 4294967296 + D1) / (A * 4294967296 + B) := ⟨_, rfl⟩
    have ET := Lib.hid eT
    clear eT
    go_upto_block 0 with fail
    go_cut [15] (fun v15 wx => v15 = .int .u64 (T : Int) ∧ wx = w)
    case first =>
      go_wp2_with fail
      go_loop [15, 16] (fun v15 v16 => ∃ q r : Nat, v15 = .int .u64 q ∧ v16 = .int .u64 r ∧ Trial A B D1 U q r ∧ r < 4294967296) (fun _ v => (4294967296 - intOf v).toNat)
      case atStart => exact ⟨q, r, rfl, rfl, HT0.out, by omega⟩
      case round =>
        obtain ⟨q, r, rfl, rfl, hT, hr⟩ := hrel
        obtain ⟨QB, eQB⟩ : ∃ QB, QB = q * B := ⟨_, rfl⟩
        obtain ⟨R, eR⟩ : ∃ R, R = 4294967296 * r := ⟨_, rfl⟩
        obtain ⟨RD, eRD⟩ : ∃ RD, RD = R + D1 := ⟨_, rfl⟩
        obtain ⟨r2, er2⟩ : ∃ r2, r2 = r + A := ⟨_, rfl⟩
        have hAA : A < 4294967296 := hA2
        have g1 : IntKind.u64.wrap (4294967296 * (r : Int)) = (R : Int) := by rw [show (4294967296 * (r : Int)) = (R : Int) by omega]; exact Mul64.wrapN _ (by omega)
        have g2 : IntKind.u64.wrap ((R : Int) + (D1 : Int)) = (RD : Int) := by rw [show ((R : Int) + (D1 : Int)) = (RD : Int) by omega]; exact Mul64.wrapN _ (by omega)
        have g3 : IntKind.u64.wrap ((r : Int) + (A : Int)) = (r2 : Int) := by rw [show ((r : Int) + (A : Int)) = (r2 : Int) by omega]; exact Mul64.wrapN _ (by omega)
        obtain ⟨bq, hbq⟩ : ∃ b, b = decide ((4294967296 : Int) ≤ (q : Int)) := ⟨_, rfl⟩
        have hd := hbq.symm
        have HBQ := Lib.hid hbq
        obtain ⟨br, hbr⟩ : ∃ b, b = decide ((4294967296 : Int) ≤ (r2 : Int)) := ⟨_, rfl⟩
        have hd2 := hbr.symm
        have HBR := Lib.hid hbr
        clear hbr
        have HQB := Lib.hid eQB
        have HRD := Lib.hid eRD
        have HR := Lib.hid eR
        have HR2 := Lib.hid er2
        have HT := Lib.hid hT
        clear hbq eQB eR eRD er2 hT
        iterate 14 (first | go_values | go_skip | go_guarded | go_step | go_upon | go_back)
        cases bq
        · have hq : q < 4294967296 := by have := of_decide_eq_false HBQ.out.symm; omega
          have hQB : QB < 18446744073709551616 := by
            have := Nat.mul_le_mul (show q ≤ 4294967295 by omega) (show B ≤ 4294967295 by omega)
            rw [HQB.out]; omega
          have g5 : IntKind.u64.wrap ((q : Int) * (B : Int)) = (QB : Int) := by rw [Mul64.mulN, ← HQB.out]; exact Mul64.wrapN _ hQB
          by_cases hlt : RD < QB
          · have h2 := HT.out.less hD1 (by have := HU.out; omega) (.inr (by rw [← HQB.out, ← HR.out, ← HRD.out]; exact hlt))
            obtain ⟨j, ej⟩ : ∃ j, j = q - 1 := ⟨_, rfl⟩
            rw [← ej, ← HR2.out] at h2
            have g4 : IntKind.u64.wrap ((q : Int) - 1) = (j : Int) := by rw [show ((q : Int) - 1) = (j : Int) by omega]; exact Mul64.wrapN _ (by omega)
            have hlti : (RD : Int) < (QB : Int) := by omega
            have H2 := Lib.hid h2.2
            have HJ := Lib.hid ej
            have HLT := Lib.hid hlt
            clear h2 ej hlt
            go_wp2_with fail
            · go_meet
              have hr2 : 4294967296 ≤ r2 := by
                have h5 := HBR.out
                rw [‹br = true›] at h5
                have := of_decide_eq_true h5.symm
                omega
              exact ⟨by rw [ET.out, ← H2.out.out (by omega) hB (by have := HJ.out; have := HT.out.most; omega) hr2], rfl⟩
            · have hr2 : r2 < 4294967296 := by
                have h5 := HBR.out
                rw [‹br = false›] at h5
                have := of_decide_eq_false h5.symm
                omega
              exact ⟨⟨j, r2, rfl, rfl, H2.out, hr2⟩, by have := HR2.out; simp only [intOf]; omega⟩
          · have hlti : ¬ (RD : Int) < (QB : Int) := by omega
            have HLT := Lib.hid hlt
            clear hlt
            go_wp2_with fail
            go_meet
            exact ⟨by rw [ET.out, ← HT.out.right (by omega) (by rw [← HQB.out, ← HR.out, ← HRD.out]; exact Nat.le_of_not_lt HLT.out)], rfl⟩
        · have hq : 4294967296 ≤ q := by have := of_decide_eq_true HBQ.out.symm; omega
          have h2 := HT.out.less hD1 (by have := HU.out; omega) (.inl hq)
          obtain ⟨j, ej⟩ : ∃ j, j = q - 1 := ⟨_, rfl⟩
          rw [← ej, ← HR2.out] at h2
          have g4 : IntKind.u64.wrap ((q : Int) - 1) = (j : Int) := by rw [show ((q : Int) - 1) = (j : Int) by omega]; exact Mul64.wrapN _ (by have := h2.2.most; omega)
          have H2 := Lib.hid h2.2
          have HJ := Lib.hid ej
          have HQ := Lib.hid hq
          clear h2 ej hq
          go_wp2_with fail
          · go_meet
            have hr2 : 4294967296 ≤ r2 := by
              have h5 := HBR.out
              rw [‹br = true›] at h5
              have := of_decide_eq_true h5.symm
              omega
            exact ⟨by rw [ET.out, ← H2.out.out (by omega) hB (by have := HJ.out; have := HT.out.most; omega) hr2], rfl⟩
          · have hr2 : r2 < 4294967296 := by
              have h5 := HBR.out
              rw [‹br = false›] at h5
              have := of_decide_eq_false h5.symm
              omega
            exact ⟨⟨j, r2, rfl, rfl, H2.out, hr2⟩, by have := HR2.out; simp only [intOf]; omega⟩
    case rest =>
      obtain ⟨rfl, hwx⟩ := hcut
      replace hwx := hwx.symm
      subst hwx
      have hUY : U < Y := by have := HU.out; have := HYA.out; omega
      have hY0 : 0 < Y := by omega
      have hYA := HYA.out
      have hTlt : T < 4294967296 := by rw [ET.out]; exact digit_lt HU.out hD1
      have hTY : T = (U * 4294967296 + D1) / Y := by rw [ET.out, hYA]
      have hY2 : Y < 18446744073709551616 := by omega
      obtain ⟨V, eV⟩ : ∃ V, V = (U * 4294967296 + D1) % Y := ⟨_, rfl⟩
      have hV : V < A * 4294967296 + B := by rw [hYA, eV]; exact Nat.mod_lt _ hY0
      obtain ⟨X1, eX1⟩ : ∃ X, X = U * 4294967296 % 18446744073709551616 := ⟨_, rfl⟩
      obtain ⟨X2, eX2⟩ : ∃ X, X = (U * 4294967296 + D1) % 18446744073709551616 := ⟨_, rfl⟩
      obtain ⟨X3, eX3⟩ : ∃ X, X = T * Y % 18446744073709551616 := ⟨_, rfl⟩
      have f1 : IntKind.u64.wrap ((U : Int) * 4294967296) = (X1 : Int) := by rw [eX1, IntKind.wrap_u64]; omega
      have f2 : IntKind.u64.wrap ((X1 : Int) + (D1 : Int)) = (X2 : Int) := by rw [eX1, eX2, IntKind.wrap_u64]; omega
      have f3 : IntKind.u64.wrap ((T : Int) * (Y : Int)) = (X3 : Int) := by rw [eX3, Mul64.mulN, Mul64.wrapM]
      have f4 : IntKind.u64.wrap ((X2 : Int) - (X3 : Int)) = (V : Int) := by rw [eX2, eX3, eV]; exact rest_of hTY hY0 hY2
      have T1 := Trial.start hA hB hD0 hV
      obtain ⟨q2, eq2⟩ : ∃ q, q = V / A := ⟨_, rfl⟩
      obtain ⟨r3, er3⟩ : ∃ r, r = V % A := ⟨_, rfl⟩
      rw [← eq2, ← er3] at T1
      have hr3 : r3 < 4294967296 := by have := Nat.mod_lt V (show 0 < A by omega); omega
      obtain ⟨P2, eP2⟩ : ∃ P, P = q2 * A := ⟨_, rfl⟩
      have hsum2 := T1.sum
      have hmost2 := T1.most
      rw [← eP2] at hsum2
      have f5 : IntKind.u64.wrap ((V : Int) / (A : Int)) = (q2 : Int) := by rw [← Int.natCast_ediv, ← eq2]; exact Mul64.wrapN _ (by omega)
      have f6 : IntKind.u64.wrap ((q2 : Int) * (A : Int)) = (P2 : Int) := by rw [Mul64.mulN, ← eP2]; exact Mul64.wrapN _ (by omega)
      have f7 : IntKind.u64.wrap ((V : Int) - (P2 : Int)) = (r3 : Int) := by rw [show (V : Int) - (P2 : Int) = (r3 : Int) by omega]; exact Mul64.wrapN _ (by omega)
      obtain ⟨T2, eT2⟩ : ∃ T2, T2 = (V * 4294967296 + D0) / (A * 4294967296 + B) := ⟨_, rfl⟩
      have hT2lt : T2 < 4294967296 := by rw [eT2]; exact digit_lt hV hD0
      have hT2Y : T2 = (V * 4294967296 + D0) / Y := by rw [eT2, hYA]
      obtain ⟨QQ, eQQ⟩ : ∃ Q, Q = T * 4294967296 + T2 := ⟨_, rfl⟩
      obtain ⟨RR, eRR⟩ : ∃ R, R = (V * 4294967296 + D0) % Y := ⟨_, rfl⟩
      have hN := HC4.out
      have hdig := two_digits (U := U) (D1 := D1) (D0 := D0) hY0
      rw [HLD.out, ← hN, ← hTY, ← eV, ← hT2Y, ← eRR, ← eQQ, HEY.out, Nat.mul_div_mul_right _ _ (Nat.two_pow_pos s), Nat.mul_mod_mul_right] at hdig
      have hRR : RR / 2 ^ s = (hi * 18446744073709551616 + lo) % y := by rw [← hdig.2, Nat.mul_div_cancel _ (Nat.two_pow_pos s)]
      obtain ⟨Z1, eZ1⟩ : ∃ Z, Z = T * 4294967296 := ⟨_, rfl⟩
      obtain ⟨W1, eW1⟩ : ∃ X, X = V * 4294967296 % 18446744073709551616 := ⟨_, rfl⟩
      obtain ⟨W2, eW2⟩ : ∃ X, X = (V * 4294967296 + D0) % 18446744073709551616 := ⟨_, rfl⟩
      obtain ⟨W3, eW3⟩ : ∃ X, X = T2 * Y % 18446744073709551616 := ⟨_, rfl⟩
      have k1 : IntKind.u64.wrap ((T : Int) * 4294967296) = (Z1 : Int) := by rw [show (T : Int) * 4294967296 = (Z1 : Int) by omega]; exact Mul64.wrapN _ (by omega)
      have k2 : IntKind.u64.wrap ((Z1 : Int) + (T2 : Int)) = (QQ : Int) := by rw [show (Z1 : Int) + (T2 : Int) = (QQ : Int) by omega]; exact Mul64.wrapN _ (by omega)
      have k3 : IntKind.u64.wrap ((V : Int) * 4294967296) = (W1 : Int) := by rw [eW1, IntKind.wrap_u64]; omega
      have k4 : IntKind.u64.wrap ((W1 : Int) + (D0 : Int)) = (W2 : Int) := by rw [eW1, eW2, IntKind.wrap_u64]; omega
      have k5 : IntKind.u64.wrap ((T2 : Int) * (Y : Int)) = (W3 : Int) := by rw [eW3, Mul64.mulN, Mul64.wrapM]
      have k6 : IntKind.u64.wrap ((W2 : Int) - (W3 : Int)) = (RR : Int) := by rw [eW2, eW3, eRR]; exact rest_of hT2Y hY0 hY2
      obtain ⟨M, eM⟩ : ∃ M, M = (hi * 18446744073709551616 + lo) % y := ⟨_, rfl⟩
      have k7 : (RR : Int) / 2 ^ s = (M : Int) := by rw [eM, ← hRR]; simp
      have hQ : (hi * 18446744073709551616 + lo) / y = QQ := hdig.1
      have HV := Lib.hid hV
      have HT1 := Lib.hid T1
      have HTT := Lib.hid eT2
      have HQ := Lib.hid hQ
      have HM := Lib.hid eM
      clear hUY hY0 hYA hTY hY2 eV hV eX1 eX2 eX3 T1 eq2 er3 eP2 hsum2 eT2 hT2Y eQQ eRR hN hdig hRR eZ1 eW1 eW2 eW3 eM hQ
      go_upto_block 2 with fail
      go_cut [18] (fun v18 wx => v18 = .int .u64 (T2 : Int) ∧ wx = w)
      case first =>
        go_wp2_with fail
        go_loop [18, 16] (fun v18 v16 => ∃ q r : Nat, v18 = .int .u64 q ∧ v16 = .int .u64 r ∧ Trial A B D0 V q r ∧ r < 4294967296) (fun _ v => (4294967296 - intOf v).toNat)
        case atStart => exact ⟨q2, r3, rfl, rfl, HT1.out, by omega⟩
        case round =>
          obtain ⟨q, r, rfl, rfl, hT, hr⟩ := hrel
          obtain ⟨QB, eQB⟩ : ∃ QB, QB = q * B := ⟨_, rfl⟩
          obtain ⟨R, eR⟩ : ∃ R, R = 4294967296 * r := ⟨_, rfl⟩
          obtain ⟨RD, eRD⟩ : ∃ RD, RD = R + D0 := ⟨_, rfl⟩
          obtain ⟨r2, er2⟩ : ∃ r2, r2 = r + A := ⟨_, rfl⟩
          have hAA : A < 4294967296 := hA2
          have g1 : IntKind.u64.wrap (4294967296 * (r : Int)) = (R : Int) := by rw [show (4294967296 * (r : Int)) = (R : Int) by omega]; exact Mul64.wrapN _ (by omega)
          have g2 : IntKind.u64.wrap ((R : Int) + (D0 : Int)) = (RD : Int) := by rw [show ((R : Int) + (D0 : Int)) = (RD : Int) by omega]; exact Mul64.wrapN _ (by omega)
          have g3 : IntKind.u64.wrap ((r : Int) + (A : Int)) = (r2 : Int) := by rw [show ((r : Int) + (A : Int)) = (r2 : Int) by omega]; exact Mul64.wrapN _ (by omega)
          obtain ⟨bq, hbq⟩ : ∃ b, b = decide ((4294967296 : Int) ≤ (q : Int)) := ⟨_, rfl⟩
          have hd := hbq.symm
          have HBQ := Lib.hid hbq
          obtain ⟨br, hbr⟩ : ∃ b, b = decide ((4294967296 : Int) ≤ (r2 : Int)) := ⟨_, rfl⟩
          have hd2 := hbr.symm
          have HBR := Lib.hid hbr
          clear hbr
          have HQB := Lib.hid eQB
          have HRD := Lib.hid eRD
          have HR := Lib.hid eR
          have HR2 := Lib.hid er2
          have HT := Lib.hid hT
          clear hbq eQB eR eRD er2 hT
          iterate 14 (first | go_values | go_skip | go_guarded | go_step | go_upon | go_back)
          cases bq
          · have hq : q < 4294967296 := by have := of_decide_eq_false HBQ.out.symm; omega
            have hQB : QB < 18446744073709551616 := by
              have := Nat.mul_le_mul (show q ≤ 4294967295 by omega) (show B ≤ 4294967295 by omega)
              rw [HQB.out]; omega
            have g5 : IntKind.u64.wrap ((q : Int) * (B : Int)) = (QB : Int) := by rw [Mul64.mulN, ← HQB.out]; exact Mul64.wrapN _ hQB
            by_cases hlt : RD < QB
            · have h2 := HT.out.less hD0 (by have := HV.out; omega) (.inr (by rw [← HQB.out, ← HR.out, ← HRD.out]; exact hlt))
              obtain ⟨j, ej⟩ : ∃ j, j = q - 1 := ⟨_, rfl⟩
              rw [← ej, ← HR2.out] at h2
              have g4 : IntKind.u64.wrap ((q : Int) - 1) = (j : Int) := by rw [show ((q : Int) - 1) = (j : Int) by omega]; exact Mul64.wrapN _ (by omega)
              have hlti : (RD : Int) < (QB : Int) := by omega
              have H2 := Lib.hid h2.2
              have HJ := Lib.hid ej
              have HLT := Lib.hid hlt
              clear h2 ej hlt
              go_wp2_with fail
              · go_meet
                have hr2 : 4294967296 ≤ r2 := by
                  have h5 := HBR.out
                  rw [‹br = true›] at h5
                  have := of_decide_eq_true h5.symm
                  omega
                exact ⟨by rw [HTT.out, ← H2.out.out (by omega) hB (by have := HJ.out; have := HT.out.most; omega) hr2], rfl⟩
              · have hr2 : r2 < 4294967296 := by
                  have h5 := HBR.out
                  rw [‹br = false›] at h5
                  have := of_decide_eq_false h5.symm
                  omega
                exact ⟨⟨j, r2, rfl, rfl, H2.out, hr2⟩, by have := HR2.out; simp only [intOf]; omega⟩
            · have hlti : ¬ (RD : Int) < (QB : Int) := by omega
              have HLT := Lib.hid hlt
              clear hlt
              go_wp2_with fail
              go_meet
              exact ⟨by rw [HTT.out, ← HT.out.right (by omega) (by rw [← HQB.out, ← HR.out, ← HRD.out]; exact Nat.le_of_not_lt HLT.out)], rfl⟩
          · have hq : 4294967296 ≤ q := by have := of_decide_eq_true HBQ.out.symm; omega
            have h2 := HT.out.less hD0 (by have := HV.out; omega) (.inl hq)
            obtain ⟨j, ej⟩ : ∃ j, j = q - 1 := ⟨_, rfl⟩
            rw [← ej, ← HR2.out] at h2
            have g4 : IntKind.u64.wrap ((q : Int) - 1) = (j : Int) := by rw [show ((q : Int) - 1) = (j : Int) by omega]; exact Mul64.wrapN _ (by have := h2.2.most; omega)
            have H2 := Lib.hid h2.2
            have HJ := Lib.hid ej
            have HQ := Lib.hid hq
            clear h2 ej hq
            go_wp2_with fail
            · go_meet
              have hr2 : 4294967296 ≤ r2 := by
                have h5 := HBR.out
                rw [‹br = true›] at h5
                have := of_decide_eq_true h5.symm
                omega
              exact ⟨by rw [HTT.out, ← H2.out.out (by omega) hB (by have := HJ.out; have := HT.out.most; omega) hr2], rfl⟩
            · have hr2 : r2 < 4294967296 := by
                have h5 := HBR.out
                rw [‹br = false›] at h5
                have := of_decide_eq_false h5.symm
                omega
              exact ⟨⟨j, r2, rfl, rfl, H2.out, hr2⟩, by have := HR2.out; simp only [intOf]; omega⟩
      case rest =>
        obtain ⟨rfl, hwx⟩ := hcut
        replace hwx := hwx.symm
        subst hwx
        go_wp2_with fail
        go_ret2
        rw [HQ.out, ← HM.out]
        exact ⟨rfl, 0, rfl⟩
end Go.Proofs.YtmgbcjjemlcfgaaGreatDoor
