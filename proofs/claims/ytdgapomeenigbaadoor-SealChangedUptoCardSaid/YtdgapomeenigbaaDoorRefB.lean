/- What is proved here: how the reference of layer 1 trims, compares, multiplies and subtracts rows of at most one digit. Conditions: the rows read as digits. -/
import Derived.Test.YtdgapomeenigbaaDoorRefA
namespace Go.Proofs.YtdgapomeenigbaaDoor
open Go.RowKit
theorem info_i64 : (Tryd.prog.info? 3).map (fun i => (i.zero, i.size, i.bytes)) = some (some (.int .i64 0), 1, 8) := by kernel_rfl
/-- The call gave a slice that reads as these digits; all that lay lies as it lay. -/
def RetRd (D : List Nat) (w : World) (e : Ending) (w' : World) : Prop := ∃ v, e = .returned v ∧ Rd w' v D ∧ Only NoneOf w w'
set_option maxHeartbeats 400000 in
theorem trim_at {v : Value} {D : List Nat} {w : World} (h : Rd w v D) : Calls Tryd.prog 73 #[v] w fun e w' => ∃ v', e = .returned v' ∧ Rd w v' (trimL D) ∧ w' = w ∧ v'.ownBlock = v.ownBlock := by
  rcases h with ⟨rfl, rfl⟩ | ⟨g, c, rfl, hc, hm, hg, hcell⟩
  · go_enter Tryd.func73, Tryd.ntmps73
    go_wp2_with fail
    go_loop [0] (fun v => v = .slice none 0 0) (fun _ => 0)
    case atStart => rfl
    case round =>
      subst hrel
      go_wp2_with fail
      go_ret
      exact ⟨_, rfl, Rd.nil w, rfl, rfl⟩
  · have HC := Lib.hid hcell
    unfold maxLen at hm
    clear hcell
    go_enter Tryd.func73, Tryd.ntmps73
    go_wp2_with fail
    go_loop [0] (fun v => ∃ k : Nat, k ≤ D.length ∧ v = .slice (some ⟨g, 0, none⟩) k c ∧ Hid (trimL (D.take k) = trimL D)) (fun v => match v with | .slice _ k _ => k | _ => 0)
    case atStart => exact ⟨D.length, Nat.le_refl _, rfl, Lib.hid (by rw [List.take_length])⟩
    case round =>
      obtain ⟨k, hk, rfl, HT⟩ := hrel
      rcases Nat.eq_zero_or_pos k with h0 | h0
      · subst h0
        go_wp2_with fail
        go_ret
        refine ⟨_, rfl, ?_, rfl, rfl⟩
        have e : trimL D = [] := by rw [← HT.out]; rfl
        rw [e]
        exact .inr ⟨g, c, rfl, by simp, by unfold maxLen; omega, hg, fun j d hd => by simp at hd⟩
      · obtain ⟨k', rfl⟩ : ∃ k', k = k' + 1 := ⟨k - 1, by omega⟩
        obtain ⟨d, hd⟩ : ∃ d, D[k']? = some d := ⟨_, List.getElem?_eq_getElem (by omega)⟩
        have hcd : w.cell? ⟨g, k', none⟩ = some (.int .i64 (d : Int)) := HC.out k' d hd
        have hts := take_snoc' hd
        have HTS := Lib.hid hts
        clear hd hts
        rcases Nat.eq_zero_or_pos d with hd0 | hd0
        · subst hd0
          go_wp2_with fail
          go_round
          case rel => exact ⟨k', by omega, rfl, Lib.hid (by rw [← HT.out, HTS.out, trimL_snoc, if_pos rfl])⟩
          case measure => simp
        · have hne : ((d : Int) == 0) = false := by simp; omega
          have hne2 : ¬ (d : Int) = 0 := by omega
          go_wp2_with fail
          go_ret
          refine ⟨_, rfl, ?_, rfl, rfl⟩
          have e : trimL D = D.take (k' + 1) := by rw [← HT.out, HTS.out, trimL_snoc, if_neg (by omega)]
          rw [e]
          have el : (D.take (k' + 1)).length = k' + 1 := by rw [List.length_take]; omega
          refine .inr ⟨g, c, by rw [el]; rfl, by omega, by unfold maxLen; omega, hg, fun j x hx => ?_⟩
          rw [List.getElem?_take] at hx
          split at hx
          · exact HC.out j x hx
          · cases hx
theorem trim_any {v : Value} {D : List Nat} {w : World} (h : Rd w v D) : Calls Tryd.prog 73 #[v] w fun e w' => ∃ v', e = .returned v' ∧ Rd w v' (trimL D) ∧ w' = w :=
  (trim_at h).mono fun _ _ ⟨v', he, hv, hw, _⟩ => ⟨v', he, hv, hw⟩
def cmpL : List Nat → List Nat → Int
  | [], [] => 0
  | [x], [y] => if x = y then 0 else if x < y then -1 else 1
  | A, B => if A.length < B.length then -1 else 1
set_option maxHeartbeats 400000 in
theorem compare_len {va vb : Value} {A B : List Nat} {w : World} (ha : Rd w va A) (hb : Rd w vb B) (h : A.length ≠ B.length) :
    Calls Tryd.prog 82 #[va, vb] w fun e w' => e = .returned (.int .i64 (if A.length < B.length then -1 else 1)) ∧ ∃ q, w' = w.drewN q := by
  obtain ⟨a, c, rfl, ha1, ha2⟩ := ha.form
  obtain ⟨b, d, rfl, hb1, hb2⟩ := hb.form
  clear ha hb
  have hne : ((A.length : Int) == (B.length : Int)) = false := by simp; omega
  by_cases hlt : A.length < B.length
  · have hlt2 : (A.length : Int) < (B.length : Int) := by omega
    go_enter Tryd.func82, Tryd.ntmps82
    go_wp2_with fail
    go_ret
    exact ⟨rfl, 0, rfl⟩
  · have hlt2 : ¬ (A.length : Int) < (B.length : Int) := by omega
    go_enter Tryd.func82, Tryd.ntmps82
    go_wp2_with fail
    go_ret
    exact ⟨rfl, 0, rfl⟩
set_option maxHeartbeats 400000 in
theorem compare_nil {va vb : Value} {w : World} (ha : Rd w va []) (hb : Rd w vb []) :
    Calls Tryd.prog 82 #[va, vb] w fun e w' => e = .returned (.int .i64 0) ∧ ∃ q, w' = w.drewN q := by
  obtain ⟨a, c, rfl, ha1, ha2⟩ := ha.form
  obtain ⟨b, d, rfl, hb1, hb2⟩ := hb.form
  clear ha hb
  go_enter Tryd.func82, Tryd.ntmps82
  go_wp2_with fail
  go_loop [5] (fun v => v = .int .i64 (-1)) (fun _ => 0)
  case atStart => rfl
  case round =>
    subst hrel
    go_wp2_with fail
    go_ret
    exact ⟨rfl, 0, rfl⟩
set_option maxHeartbeats 400000 in
theorem compare_one {va vb : Value} {x y : Nat} {w : World} (ha : Rd w va [x]) (hb : Rd w vb [y]) (_hx : x < 65536) (_hy : y < 65536) :
    Calls Tryd.prog 82 #[va, vb] w fun e w' => e = .returned (.int .i64 (if x = y then 0 else if x < y then -1 else 1)) ∧ ∃ q, w' = w.drewN q := by
  obtain ⟨a, c, rfl, ha1, ha2, _, hac⟩ := ha.cells (by simp)
  obtain ⟨b, d, rfl, hb1, hb2, _, hbc⟩ := hb.cells (by simp)
  have cx := hac 0 x rfl
  have cy := hbc 0 y rfl
  simp only [List.length_singleton] at ha1 hb1
  clear ha hb hac hbc
  obtain ⟨r, er⟩ : ∃ r : Int, r = if x = y then 0 else if x < y then -1 else 1 := ⟨_, rfl⟩
  rw [← er]
  have ER := Lib.hid er
  clear er
  go_enter Tryd.func82, Tryd.ntmps82
  go_wp2_with fail
  go_loopw [5] (fun v wr => (∃ q, wr = w.drewN q) ∧ (v = .int .i64 0 ∨ v = .int .i64 (-1) ∧ x = y)) (fun v _ => (intOf v + 1).toNat)
  case atStart => exact ⟨⟨0, rfl⟩, .inl rfl⟩
  case round =>
    obtain ⟨⟨q, rfl⟩, rfl | ⟨rfl, hxy⟩⟩ := hrel
    · by_cases hxy : x = y
      · subst hxy
        go_wp2_with fail
        go_region
        go_wp2_with fail
        go_roundw
        case rel => exact ⟨⟨q + 1, rfl⟩, .inr ⟨rfl, trivial⟩⟩
        case measure => simp [intOf]
      · have hne : ((x : Int) == (y : Int)) = false := by simp; omega
        have hne2 : ¬ (x : Int) = (y : Int) := by omega
        by_cases hlt : x < y
        · have hlt2 : (x : Int) < (y : Int) := by omega
          go_wp2_with fail
          go_region
          go_wp2_with fail
          go_region
          go_wp2_with fail
          go_ret
          exact ⟨ret_int (by rw [ER.out, if_neg hxy, if_pos hlt]), q + 2, rfl⟩
        · have hlt2 : ¬ (x : Int) < (y : Int) := by omega
          go_wp2_with fail
          go_region
          go_wp2_with fail
          go_region
          go_wp2_with fail
          go_ret
          exact ⟨ret_int (by rw [ER.out, if_neg hxy, if_neg hlt]), q + 2, rfl⟩
    · have HXY := Lib.hid hxy
      clear hxy
      go_wp2_with fail
      go_ret
      exact ⟨ret_int (by rw [ER.out, if_pos HXY.out]), q, rfl⟩
end Go.Proofs.YtdgapomeenigbaaDoor
