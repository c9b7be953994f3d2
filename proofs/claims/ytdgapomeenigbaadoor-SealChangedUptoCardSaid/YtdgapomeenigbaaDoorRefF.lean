/- What is proved here: an integer over one is in lowest terms by the reference of layer 1; its text is its decimal form. Conditions: the integer has 64 bits. -/
import Derived.Test.YtdgapomeenigbaaDoorRefE
import Derived.Deep.RegionHeld3
import Derived.Deep.RegionLaw
namespace Go.Proofs.YtdgapomeenigbaaDoor
open Go.RowKit
def ComI (w : World) (m : Nat) (a b : Value) (wr : World) : Prop := (Rd wr a (dg16 m) ∧ Rd wr b [1] ∨ Rd wr a [1] ∧ Rd wr b []) ∧ Only NoneOf w wr
set_option maxRecDepth 100000 in
set_option maxHeartbeats 400000 in
theorem common_one {va vb : Value} {m : Nat} {w : World} (ha : Rd w va (dg16 m)) (hb : Rd w vb [1]) (hm : m ≤ 9223372036854775808) :
    Calls Tryd.prog 71 #[va, vb] w (RetRd [1] w) := by
  have HI0 : Hid (ComI w m va vb w) := Lib.hid ⟨.inl ⟨ha, hb⟩, Only.refl _ _⟩
  have HM := Lib.hid (dg16_len4 hm)
  clear ha hb hm
  go_enter Tryd.func71, Tryd.ntmps71
  go_wp2_with fail
  go_loopw [0, 1] (fun a b wr => ComI w m a b wr) (fun _ b _ => match b with | .slice _ k _ => k | _ => 0)
  case atStart => exact HI0.out
  case round =>
    obtain ⟨⟨ha, hb⟩ | ⟨ha, hb⟩, ho⟩ := hrel
    · have HA := Lib.hid ha
      have HB := Lib.hid hb
      have HO := Lib.hid ho
      obtain ⟨b1, c1, e1, hc1, hc1m⟩ := hb.form
      subst e1
      clear ha hb ho
      go_wp2_with fail
      refine (trim_any HB.out).mono ?_
      rintro e w1 ⟨v1, rfl, hv1, hw1⟩
      rw [hw1]
      rw [show trimL [1] = [1] from rfl] at hv1
      obtain ⟨b2, c2, e2, hc2, hc2m⟩ := hv1.form
      subst e2
      clear hv1 hw1
      go_wp2_with fail
      refine (trim_any HA.out).mono ?_
      rintro e w1 ⟨v1, rfl, hv1, hw1⟩
      rw [hw1]
      rw [dg16_trim] at hv1
      have HV1 := Lib.hid hv1
      clear hv1 hw1
      go_wp2_with fail
      refine (trim_any HB.out).mono ?_
      rintro e w1 ⟨v2, rfl, hv2, hw1⟩
      rw [hw1]
      rw [show trimL [1] = [1] from rfl] at hv2
      have HV2 := Lib.hid hv2
      clear hv2 hw1
      go_wp2_with fail
      refine (over_one HV1.out HV2.out (dg16_lt m) (dg16_trim m) (Nat.le_trans HM.out (by omega))).mono ?_
      rintro e w2 ⟨q, r, rfl, hq, hr, ho2⟩
      have HR := Lib.hid hr
      have HO2 := Lib.hid ho2
      obtain ⟨b3, c3, e3, hc3, hc3m⟩ := hr.form
      subst e3
      clear hq hr ho2
      go_wp2_with fail
      go_roundw
      case rel => exact ⟨.inr ⟨HB.out.only HO2.out, HR.out⟩, HO.out.trans HO2.out⟩
      case measure => simp
    · have HA := Lib.hid ha
      have HB := Lib.hid hb
      have HO := Lib.hid ho
      clear ha hb ho
      go_wp2_with fail
      refine (trim_any HB.out).mono ?_
      rintro e w1 ⟨v1, rfl, hv1, hw1⟩
      rw [hw1]
      rw [trimL_nil] at hv1
      obtain ⟨b2, c2, e2, hc2, hc2m⟩ := hv1.form
      subst e2
      clear hv1 hw1
      go_wp2_with fail
      refine (trim_any HA.out).mono ?_
      rintro e w1 ⟨v1, rfl, hv1, hw1⟩
      rw [hw1]
      rw [show trimL [1] = [1] from rfl] at hv1
      have HV1 := Lib.hid hv1
      clear hv1 hw1
      go_wp2_with fail
      go_ret
      exact ⟨_, rfl, HV1.out, HO.out⟩
/-- A rational number of the reference. -/
abbrev ratV (n d : Int) : Value := .agg #[.int .i64 n, .int .i64 d]
set_option maxRecDepth 100000 in
set_option maxHeartbeats 1000000 in
theorem lowest_one (n : Int) {va vb : Value} (h0 : -9223372036854775808 ≤ n) (h1 : n ≤ 9223372036854775807) (hn : n ≠ 0) {w : World} (ha : Rd w va (dg16 n.natAbs)) (hb : Rd w vb [1]) :
    Calls Tryd.prog 61 #[bigV (decide (n < 0)) va, bigV false vb] w fun e w' => e = .returned (.tuple #[ratV n 1, .bool true]) ∧ Only NoneOf w w' := by
  obtain ⟨m, em⟩ : ∃ m, m = n.natAbs := ⟨_, rfl⟩
  rw [← em] at ha
  have hm : m ≤ 9223372036854775808 := by omega
  have hm0 : 0 < m := by omega
  obtain ⟨ga, ca, ea, hca, hcam⟩ := ha.form
  obtain ⟨gb, cb, eb, hcb, hcbm⟩ := hb.form
  obtain ⟨neg, eneg⟩ : ∃ neg : Bool, decide (n < 0) = neg := ⟨_, rfl⟩
  have hfit : neg = true ∧ 0 < m ∨ neg = false ∧ m < 9223372036854775808 := by
    rw [← eneg]
    by_cases hlt : n < 0
    · exact .inl ⟨decide_eq_true hlt, hm0⟩
    · exact .inr ⟨decide_eq_false hlt, by omega⟩
  have hval : (if neg then -(m : Int) else (m : Int)) = n := by
    rw [← eneg]
    by_cases hlt : n < 0
    · rw [decide_eq_true hlt]; simp; omega
    · rw [decide_eq_false hlt]; simp; omega
  rw [eneg]
  have HA := Lib.hid ha
  have HB := Lib.hid hb
  have HM := Lib.hid hm
  have HM0 := Lib.hid (dg16_pos_len (m := m) (by omega))
  have HFIT := Lib.hid hfit
  have HVAL := Lib.hid hval
  have hle := dg16_len4 hm
  have HLE := Lib.hid hle
  clear ha hb hm hm0 em eneg hfit hval hn h0 h1 hle
  subst ea eb
  unfold bigV
  go_enter Tryd.func61, Tryd.ntmps61
  go_wp2_with fail
  obtain ⟨B, eB⟩ : ∃ B, B = w.heap.size := ⟨_, rfl⟩
  obtain ⟨L, eL⟩ : ∃ L, L = (dg16 m).length := ⟨_, rfl⟩
  have hL : 0 < L := by have := HM0.out; omega
  rw [← eB, ← eL]
  rw [← eL] at HA
  have EL := Lib.hid eL
  refine calls_gen (fun X => Only NoneOf w X ∧ Blk X B 86 #[.bool neg, .slice ga L ca] ∧ Blk X (B + 1) 86 #[.bool false, .slice gb 1 cb] ∧ Blk X (B + 2) 58 #[.int .i64 0, .int .i64 0])
    ⟨((Only.refl NoneOf w).alloc _).alloc _ |>.alloc _, by rw [eB]; exact ((Blk.new w _ _).alloc _).alloc _, by rw [eB]; exact (by simpa using Blk.new (w.alloc (.cells #[.bool neg, .slice ga L ca] 86)) 86 #[.bool false, .slice gb 1 cb] : Blk _ (w.heap.size + 1) _ _).alloc _, by rw [eB]; simpa using Blk.new ((w.alloc (.cells #[.bool neg, .slice ga L ca] 86)).alloc (.cells #[.bool false, .slice gb 1 cb] 86)) 58 #[.int .i64 0, .int .i64 0]⟩ ?_
  rintro X ⟨ho, hb1, hb2, hb3⟩
  have HO := Lib.hid ho
  have HB1 := Lib.hid hb1
  have HB2 := Lib.hid hb2
  have HB3 := Lib.hid hb3
  have EB := Lib.hid eB
  clear eB eL ho hb1 hb2 hb3
  refine (common_one (HA.out.only HO.out) (HB.out.only HO.out) HM.out).mono ?_
  rintro e w1 ⟨g, rfl, hg, ho1⟩
  have HG := Lib.hid hg
  have HO1 := Lib.hid ho1
  have c1 : w1.cell? ⟨B, 1, none⟩ = some (.slice ga L ca) := (HB1.out.only ho1 (fun e => e)).cell 1
  clear hg ho1
  go_wp2_with fail
  refine (trim_any (HA.out.only (HO.out.trans HO1.out))).mono ?_
  rintro e w2 ⟨v2, rfl, hv2, hw2⟩
  rw [hw2]
  rw [dg16_trim] at hv2
  have HV2 := Lib.hid hv2
  clear hv2 hw2 c1
  go_wp2_with fail
  refine (over_one HV2.out HG.out (dg16_lt m) (dg16_trim m) (Nat.le_trans HLE.out (by omega))).mono ?_
  rintro e w3 ⟨q, r, rfl, hq, _, ho3⟩
  have HO3 := Lib.hid (HO1.out.trans ho3)
  have HG3 := Lib.hid (HG.out.only ho3)
  have HQ := Lib.hid hq
  obtain ⟨gq, cq, eq, hcq, hcqm⟩ := hq.form
  rw [← EL.out] at eq hcq
  subst eq
  have c1 : w3.cell? ⟨B + 1, 1, none⟩ = some (.slice gb 1 cb) := (HB2.out.only HO3.out (fun e => e)).cell 1
  clear hq ho3
  go_wp2_with fail
  refine (trim_any (HB.out.only (HO.out.trans HO3.out))).mono ?_
  rintro e w4 ⟨v4, rfl, hv4, hw4⟩
  rw [hw4]
  rw [show trimL [1] = [1] from rfl] at hv4
  have HV4 := Lib.hid hv4
  clear hv4 hw4 c1
  go_wp2_with fail
  refine (over_one (D := [1]) HV4.out HG3.out (by simp) rfl (by simp)).mono ?_
  rintro e w5 ⟨q5, r5, rfl, hq5, _, ho5⟩
  have HO5 := Lib.hid (HO3.out.trans ho5)
  have HQ5 := Lib.hid hq5
  have HQB := Lib.hid (HQ.out.only ho5)
  have c0 : w5.cell? ⟨B, 0, none⟩ = some (.bool neg) := (HB1.out.only HO5.out (fun e => e)).cell 0
  have c2 : w5.cell? ⟨B + 1, 0, none⟩ = some (.bool false) := (HB2.out.only HO5.out (fun e => e)).cell 0
  have hL2 : (0 : Int) < (L : Int) := by omega
  have hbb : (neg != false) = neg := by cases neg <;> rfl
  obtain ⟨g5, c5, e5, hc5, hc5m⟩ := hq5.form
  subst e5
  simp only [List.length_singleton] at HQ5 hc5
  have hf0 := fit_any neg _ m w5 HQB.out HM.out HFIT.out
  rw [HVAL.out] at hf0
  have HF0 := Lib.hid hf0
  clear hq5 ho5 hf0 HFIT HVAL
  cases neg
  all_goals
    go_wp2_with fail
    refine HF0.out.mono ?_
    rintro e w6 ⟨rfl, ho6⟩
    have HO6 := Lib.hid (HO5.out.trans ho6)
    have HQ6 := Lib.hid (HQ5.out.only ho6)
    clear ho6 c0 c2
    go_wp2_with fail
    have hf := fit_any false _ 1 w6 (by rw [dg16_one]; exact HQ6.out) (by omega) (.inr ⟨rfl, by omega⟩)
    refine hf.mono ?_
    rintro e w7 ⟨rfl, ho7⟩
    have HO7 := Lib.hid (HO6.out.trans ho7)
    have c0 : w7.cell? ⟨B + 2, 0, none⟩ = some (.int .i64 0) := (HB3.out.only HO7.out (fun e => e)).cell 0
    have c2 : w7.cell? ⟨B + 2, 1, none⟩ = some (.int .i64 0) := (HB3.out.only HO7.out (fun e => e)).cell 1
    have f0 := (HB3.out.only HO7.out (fun e => e)).frozen 0
    have f1 := (HB3.out.only HO7.out (fun e => e)).frozen 1
    clear hf ho7
    go_wp2_with fail
    have hb9 := ((HB3.out.only HO7.out (fun e => e)).set_ 0 (.int .i64 n)).set_ 1 (.int .i64 1)
    have d0 := hb9.cell 0
    have d1 := hb9.cell 1
    simp only [List.setIfInBounds_toArray, List.set_cons_zero, List.set_cons_succ, List.getElem?_toArray, List.getElem?_cons_zero, List.getElem?_cons_succ] at d0 d1
    exact bodyPost_ret (v := .tuple #[.agg #[.int .i64 n, .int .i64 1], .bool true]) (by simp [results, Tryd.results61, go_sem, d0, d1]) rfl ⟨rfl, ((HO.out.trans HO7.out).setCell (.inr (by rw [EB.out]; show _ ≤ w.heap.size + 1 + 1; omega)) _).setCell (.inr (by rw [EB.out]; show _ ≤ w.heap.size + 1 + 1; omega)) _⟩
set_option maxRecDepth 100000 in
set_option maxHeartbeats 400000 in
theorem quick_one (n : Int) (h0 : -1000000000 < n) (h1 : n < 1000000000) (w : World) :
    Calls Tryd.prog 60 #[.int .i64 n, .int .i64 1] w fun e w' => e = .returned (ratV n 1) ∧ Only NoneOf w w' := by
  have wn : IntKind.i64.wrap (-n) = -n := IntWalk.i64_in _ (by omega)
  go_enter Tryd.func60, Tryd.ntmps60
  go_wp2_with fail
  all_goals
    go_loop [5, 6] (fun a b => (∃ m : Int, 0 ≤ m ∧ m < 1000000000 ∧ a = .int .i64 m ∧ b = .int .i64 1) ∨ a = .int .i64 1 ∧ b = .int .i64 0) (fun _ b => (intOf b).toNat)
    case atStart => exact .inl ⟨_, by omega, by omega, rfl, rfl⟩
    case round =>
      rcases hrel with ⟨m, hm0, hm1, rfl, rfl⟩ | ⟨rfl, rfl⟩
      · have e1 : m % 1 = 0 := Int.emod_one m
        go_wp2_with fail
        go_round
        case rel => exact .inr ⟨rfl, rfl⟩
        case measure => simp [intOf]
      · obtain ⟨B, eB⟩ : ∃ B, B = w.heap.size := ⟨_, rfl⟩
        have hb := Blk.new w 58 #[.int .i64 0, .int .i64 0]
        obtain ⟨X, eX⟩ : ∃ X, X = w.alloc (.cells #[.int .i64 0, .int .i64 0] 58) := ⟨_, rfl⟩
        rw [← eX] at hb ⊢
        rw [← eB] at hb ⊢
        have c0 : X.cell? ⟨B, 0, none⟩ = some (.int .i64 0) := hb.cell 0
        have c1 : X.cell? ⟨B, 1, none⟩ = some (.int .i64 0) := hb.cell 1
        have f0 := hb.frozen 0
        have f1 := hb.frozen 1
        have HB := Lib.hid hb
        have EB := Lib.hid eB
        have HO : Hid (Only NoneOf w X) := Lib.hid (by rw [eX]; exact (Only.refl _ _).alloc _)
        have q1 : n / 1 = n := Int.ediv_one n
        clear hb eB eX
        go_wp2_with fail
        go_region
        go_wp2_with fail
        have hb9 := ((HB.out.set_ 0 (.int .i64 n)).set_ 1 (.int .i64 1)).drew
        exact bodyPost_ret (results_blk rfl rfl hb9 Tryd.underlying58 rfl (by kernel_rfl)) rfl ⟨rfl, ((HO.out.setCell (.inr (by rw [EB.out]; exact Nat.le_refl _)) _).setCell (.inr (by rw [EB.out]; exact Nat.le_refl _)) _).drew⟩
end Go.Proofs.YtdgapomeenigbaaDoor
