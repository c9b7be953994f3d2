/- What is proved here: how the reference of layer 1 multiplies one by a digit, subtracts a digit from itself, and divides by one. Conditions: the rows read as digits. -/
import Derived.Test.YtdgapomeenigbaaDoorRefB
namespace Go.Proofs.YtdgapomeenigbaaDoor
open Go.RowKit
theorem madeInts (n : Nat) : madeCells #[Value.int .i64 0] n = ((List.replicate n (0 : Nat)).map dv).toArray := by
  apply Array.ext'
  apply List.ext_getElem?
  intro i
  by_cases h : i < n
  · simp [madeCells, h, Nat.mod_one, dv]
  · simp [madeCells, h]
set_option maxRecDepth 100000 in
set_option maxHeartbeats 1000000 in
theorem times_any {va vb : Value} {m : Nat} {w : World} (ha : Rd w va [1]) (hb : Rd w vb [m]) (hm : m < 65536) :
    Calls Tryd.prog 88 #[va, vb] w (RetRd (trimL [m]) w) := by
  obtain ⟨a, c, rfl, ha1, ha2, hal, hac⟩ := ha.cells (by simp)
  obtain ⟨b, d, rfl, hb1, hb2, hbl, hbc⟩ := hb.cells (by simp)
  have ca := hac 0 1 rfl
  have cb := hbc 0 m rfl
  simp only [List.length_singleton] at ha1 hb1
  have hmk : (Instr.makeSlice 36 (.int .i64 2) (.int .i64 2)).run Tryd.prog w = .ok (.slice (some ⟨w.heap.size, 0, none⟩) 2 2) (w.alloc (.cells #[dv 0, dv 0] 3)) :=
    (run_make_row' (P := Tryd.prog) 36 3 (.int .i64 0) 8 Tryd.underlying36 info_i64 rfl .i64 .i64 2 (by omega) (by omega) w).trans (by rw [madeInts]; rfl)
  have CA := Lib.hid ca
  have CB := Lib.hid cb
  clear ha hb hac hbc ca cb
  go_enter Tryd.func88, Tryd.ntmps88
  go_wp2_with fail
  clear hmk
  obtain ⟨O, eO⟩ : ∃ O, O = w.heap.size := ⟨_, rfl⟩
  have hw0 : IntKind.i64.wrap 0 = 0 := rfl
  rw [← eO]
  have EO := Lib.hid eO
  clear eO
  go_loopw [6] (fun v wr => ∃ i : Nat, i ≤ 1 ∧ v = .int .i64 i ∧ Blk wr O 3 #[dv (if i = 0 then 0 else m), dv 0] ∧ Only NoneOf w wr) (fun v _ => 2 - (intOf v).toNat)
  case atStart => exact ⟨0, by omega, rfl, by rw [EO.out]; exact Blk.new w _ _, (Only.refl _ _).alloc _⟩
  case round =>
    obtain ⟨i, hi, rfl, hB, hO⟩ := hrel
    rcases Nat.eq_zero_or_pos i with h0 | h0
    · subst h0
      simp only [if_true] at hB
      have HB := Lib.hid hB
      have HO := Lib.hid hO
      obtain ⟨wo, ewo⟩ : ∃ wo : World, wo = wr := ⟨_, rfl⟩
      have EWO := Lib.hid ewo
      clear hB hO ewo
      go_wp2_with fail
      go_loopw [7, 8] (fun v7 v wr => ∃ k : Nat, k ≤ 1 ∧ v7 = .int .i64 0 ∧ v = .int .i64 k ∧ Blk wr O 3 #[dv (if k = 0 then 0 else m), dv 0] ∧ Only NoneOf w wr) (fun _ v _ => 2 - (intOf v).toNat)
      case atStart => exact ⟨0, by omega, rfl, rfl, HB.out, HO.out⟩
      case round =>
        obtain ⟨k, hk, rfl, rfl, hB, hO⟩ := hrel
        rcases Nat.eq_zero_or_pos k with h1 | h1
        · subst h1
          simp only [if_true] at hB
          have c1 : wr.cell? ⟨O, 0, none⟩ = some (.int .i64 0) := hB.cell 0
          have fr0 := hB.frozen 0
          have c2 : wr.cell? ⟨a, 0, none⟩ = some (.int .i64 1) := hO.cell_some CA.out (fun e => e)
          have c3 : wr.cell? ⟨b, 0, none⟩ = some (.int .i64 (m : Int)) := hO.cell_some CB.out (fun e => e)
          have m0 : 0 ≤ (m : Int) := by omega
          have m1 : (m : Int) < 65536 := by omega
          have HB2 := Lib.hid hB
          have HO2 := Lib.hid hO
          clear hB hO
          go_wp2_with fail
          go_region
          go_wp2_with fail
          go_roundw
          case rel =>
            refine ⟨1, by omega, by rw [show (m : Int) / 65536 = 0 by omega], rfl, ?_, (HO2.out.setCell (.inr (by rw [EO.out]; exact Nat.le_refl _)) _).drew⟩
            have := HB2.out.set_ 0 (.int .i64 ((m : Int) % 65536))
            rw [show (m : Int) % 65536 = (m : Int) by omega] at this ⊢
            exact this.drew
          case measure => simp [intOf]
        · obtain rfl : k = 1 := by omega
          simp only [Nat.one_ne_zero, if_false] at hB
          have c1 : wr.cell? ⟨O, 1, none⟩ = some (.int .i64 0) := hB.cell 1
          have fr0 := hB.frozen 1
          have HB2 := Lib.hid hB
          have HO2 := Lib.hid hO
          clear hB hO
          go_wp2_with fail
          go_roundw
          case rel =>
            refine ⟨1, by omega, rfl, ?_, (HO2.out.setCell (.inr (by rw [EO.out]; exact Nat.le_refl _)) _)⟩
            exact HB2.out.set_ 1 (dv 0)
          case measure => simp [intOf]
    · obtain rfl : i = 1 := by omega
      simp only [Nat.one_ne_zero, if_false] at hB
      have hr := Rd.of_blk (D := [m, 0]) hB (c := 2) (by simp) (by unfold maxLen; omega) (fun j d hd => by
        match j, hd with
        | 0, hd => cases hd; rfl
        | 1, hd => cases hd; rfl)
      have HR := Lib.hid hr
      have HO := Lib.hid hO
      clear hr hO hB
      go_wp2_with fail
      refine (trim_any HR.out).mono ?_
      rintro e w' ⟨v', rfl, hv, hw⟩
      rw [hw]
      rw [show trimL [m, 0] = trimL [m] from (trimL_snoc [m] 0).trans (if_pos rfl)] at hv
      have HV := Lib.hid hv
      clear hv hw
      go_wp2_with fail
      go_ret
      exact ⟨v', rfl, HV.out, HO.out⟩
theorem by_any {va : Value} {m : Nat} {w : World} (ha : Rd w va [1]) (hm : m < 65536) :
    Calls Tryd.prog 83 #[va, .int .i64 (m : Int)] w (RetRd (trimL [m]) w) := by
  have HA := Lib.hid (ha.only ((Only.refl NoneOf w).alloc (.cells #[dv m] 3)))
  have HB := Lib.hid (Rd.of_blk (D := [m]) (Blk.new w 3 #[dv m]) (c := 1) (by simp) (by unfold maxLen; omega) (fun j d hd => by
        match j, hd with
        | 0, hd => cases hd; rfl))
  obtain ⟨a, c, rfl, ha1, ha2⟩ := ha.form
  clear ha
  go_enter Tryd.func83, Tryd.ntmps83
  go_wp2_with fail
  refine (times_any HA.out HB.out hm).mono ?_
  rintro e w' ⟨v', rfl, hv, ho⟩
  have HV := Lib.hid hv
  have HO := Lib.hid ho
  clear hv ho
  go_wp2_with fail
  go_ret
  exact ⟨v', rfl, HV.out, ((Only.refl NoneOf w).alloc _).trans HO.out⟩
end Go.Proofs.YtdgapomeenigbaaDoor
