/- What is proved here: equal lists of ints, lots, rebates, shares are found equal, by the reference's code. Conditions: there are few. -/
import Derived.Test.YtpdlbmieciabmaaGreatDoorBrB
import Derived.Test.YtpdlbmieciabmaaGreatDoorBrV
import Derived.Test.YtpdlbmieciabmaaGreatDoorQui
import Derived.Deep.DeepCutAuto
import Derived.BigRegion
import Derived.Deep.Quiet
namespace Go.Proofs.YtpdlbmieciabmaaGreatDoor
open Go.RowKit Go.Shelf
theorem in_at {w : World} {u : Value} {ns : List Int} (h : SlOf inC 1 w u ns) : ∃ A cap, u = .slice A ns.length cap ∧ ∀ (j : Nat) (x : Int), ns[j]? = some x → ∃ g o, A = some ⟨g, o, none⟩ ∧ g < w.heap.size ∧ w.cell? ⟨g, o + j, none⟩ = some (.int .i64 x) := by
  obtain ⟨A, cap, h1, _, _, h4⟩ := h
  refine ⟨A, cap, h1, fun j x hx => ?_⟩
  obtain ⟨g, o, hA, hg, hr⟩ := h4 j x hx
  exact ⟨g, o, hA, hg, by simpa using hr 0 _ rfl⟩
set_option maxRecDepth 100000 in
set_option maxHeartbeats 1000000 in
theorem ints_same (ns : List Int) (hl : ns.length ≤ 1000000000) (v u : Value) (w : World) (h : SlOf inC 1 w v ns) (k : SlOf inC 1 w u ns) : Calls Tryz.prog 13 #[v, u] w fun e w' => e = .returned (.bool true) ∧ Only NoneOf w w' := by
  obtain ⟨A, cap, rfl, hA⟩ := in_at h
  obtain ⟨B, bap, rfl, hB⟩ := in_at k
  have HA := Lib.hid hA
  have HB := Lib.hid hB
  clear hA hB h k
  go_enter Tryz.func13, Tryz.ntmps13
  go_wp2_with fail
  go_loopw [5] (fun i wr => ∃ j : Nat, i = .int .i64 j ∧ j ≤ ns.length ∧ ∃ n, wr = w.drewN n) (fun i _ => ns.length - (intOf i).toNat)
  case atStart => exact ⟨0, rfl, Nat.zero_le _, 0, rfl⟩
  case round =>
    obtain ⟨j, rfl, hj, n0, rfl⟩ := hrel
    by_cases hlt : j < ns.length
    · obtain ⟨x, hx⟩ : ∃ x, ns[j]? = some x := ⟨_, List.getElem?_eq_getElem hlt⟩
      obtain ⟨g, o, rfl, hg, c0⟩ := HA.out j x hx
      obtain ⟨g2, o2, rfl, hg2, d0⟩ := HB.out j x hx
      have ij : (j : Int) < ns.length := by omega
      have j0 : (0 : Int) ≤ (j : Int) := by omega
      have wj : IntKind.i64.wrap ((j : Int) + 1) = (j : Int) + 1 := IntWalk.i64_in _ (by omega)
      clear hx
      go_upto_region 6 with (fail)
      go_quiet (fail)
      go_wp2_with fail
      go_roundw
      case rel => exact ⟨j + 1, by go_num, by omega, _, rfl⟩
      case measure => simp [intOf]; omega
    · obtain rfl : j = ns.length := by omega
      have ij : ¬ (ns.length : Int) < ns.length := by omega
      go_wp2_with fail
      go_ret
      exact ⟨rfl, (Only.refl _ _).drewN _⟩
set_option maxRecDepth 100000 in
set_option maxHeartbeats 1000000 in
theorem shares_same (ps : List (Int × Int)) (_hl : ps.length ≤ 1000000000) (v u : Value) (w : World) (h : SlOf shC 2 w v ps) (k : SlOf shC 2 w u ps) : Calls Tryz.prog 14 #[v, u] w fun e w' => e = .returned (.bool true) ∧ Only NoneOf w w' := by
  obtain ⟨A, cap, rfl, hc1, hc2, hA⟩ := h
  obtain ⟨B, bap, rfl, hb1, hb2, hB⟩ := k
  have HA := Lib.hid hA
  have HB := Lib.hid hB
  clear hA hB
  go_enter Tryz.func14, Tryz.ntmps14
  go_wp2_with fail
  go_loopw [5] (fun i wr => ∃ j : Nat, i = .int .i64 j ∧ j ≤ ps.length ∧ ∃ n, wr = w.drewN n) (fun i _ => ps.length - (intOf i).toNat)
  case atStart => exact ⟨0, rfl, Nat.zero_le _, 0, rfl⟩
  case round =>
    obtain ⟨j, rfl, hj, n0, rfl⟩ := hrel
    by_cases hlt : j < ps.length
    · obtain ⟨x, hx⟩ : ∃ x, ps[j]? = some x := ⟨_, List.getElem?_eq_getElem hlt⟩
      obtain ⟨g, o, rfl, hg, hr⟩ := HA.out j x hx
      obtain ⟨g2, o2, rfl, hg2, hr2⟩ := HB.out j x hx
      obtain ⟨x0, x1⟩ := x
      have c0 : w.cell? ⟨g, o + j * 2, none⟩ = some (.int .i64 x0) := hr 0 _ rfl
      have c1 : w.cell? ⟨g, o + j * 2 + 1, none⟩ = some (.int .i64 x1) := hr 1 _ rfl
      have d0 : w.cell? ⟨g2, o2 + j * 2, none⟩ = some (.int .i64 x0) := hr2 0 _ rfl
      have d1 : w.cell? ⟨g2, o2 + j * 2 + 1, none⟩ = some (.int .i64 x1) := hr2 1 _ rfl
      have ij : (j : Int) < ps.length := by omega
      have j0 : (0 : Int) ≤ (j : Int) := by omega
      have wj : IntKind.i64.wrap ((j : Int) + 1) = (j : Int) + 1 := IntWalk.i64_in _ (by omega)
      clear hx hr hr2
      go_upto_region 6 with (fail)
      go_quiet (fail)
      go_wp2_with fail
      go_roundw
      case rel => exact ⟨j + 1, by go_num, by omega, _, rfl⟩
      case measure => simp [intOf]; omega
    · obtain rfl : j = ps.length := by omega
      have ij : ¬ (ps.length : Int) < ps.length := by omega
      go_wp2_with fail
      go_ret
      exact ⟨rfl, (Only.refl _ _).drewN _⟩
set_option maxRecDepth 100000 in
set_option maxHeartbeats 4000000 in
theorem entries_same (es : List En) (_hl : es.length ≤ 1000000000) (v u : Value) (w : World) (h : EnSl w v es) (k : EnSl w u es) : Calls Tryz.prog 18 #[v, u] w fun e w' => e = .returned (.bool true) ∧ Only NoneOf w w' := by
  obtain ⟨A, cap, rfl, hc1, hc2, hA⟩ := en_at h
  obtain ⟨B, bap, rfl, hb1, hb2, hB⟩ := en_at k
  have HA := Lib.hid hA
  have HB := Lib.hid hB
  clear hA hB h k
  go_enter Tryz.func18, Tryz.ntmps18
  go_wp2_with fail
  go_loopw [5] (fun i wr => ∃ j : Nat, i = .int .i64 j ∧ j ≤ es.length ∧ ∃ n, wr = w.drewN n) (fun i _ => es.length - (intOf i).toNat)
  case atStart => exact ⟨0, rfl, Nat.zero_le _, 0, rfl⟩
  case round =>
    obtain ⟨k, rfl, hk, n0, rfl⟩ := hrel
    by_cases hlt : k < es.length
    · obtain ⟨x, hx⟩ : ∃ x, es[k]? = some x := ⟨_, List.getElem?_eq_getElem hlt⟩
      obtain ⟨g, o, u, rfl, hg, c0, c1, c2, c3, c4, hvs⟩ := HA.out k x hx
      obtain ⟨g', o', u', rfl, hg', d0, d1, d2, d3, d4, hvs'⟩ := HB.out k x hx
      obtain ⟨A2, cap2, rfl, hd1, hd2, hvat⟩ := vl_at hvs
      obtain ⟨B2, bap2, rfl, hf1, hf2, hvbt⟩ := vl_at hvs'
      have HVA := Lib.hid hvat
      have HVB := Lib.hid hvbt
      have ik : (k : Int) < es.length := by omega
      have k0 : (0 : Int) ≤ (k : Int) := by omega
      have wk : IntKind.i64.wrap ((k : Int) + 1) = (k : Int) + 1 := IntWalk.i64_in _ (by omega)
      clear hx hvs hvs' hvat hvbt
      go_upto_region 6 with (fail)
      go_quiet (fail)
      clear c0 c1 c2 c3 d0 d1 d2 d3
      go_wp2_with fail
      go_loopw [6] (fun i w2 => ∃ j : Nat, i = .int .i64 j ∧ j ≤ x.values.length ∧ ∃ n, w2 = w.drewN n) (fun i _ => x.values.length - (intOf i).toNat)
      case atStart => exact ⟨0, rfl, Nat.zero_le _, n0 + nq, by simp [World.drewN, Nat.add_assoc]⟩
      case round =>
        obtain ⟨j, rfl, hj, n2, rfl⟩ := hrel
        by_cases hlj : j < x.values.length
        · obtain ⟨y, hy⟩ : ∃ y, x.values[j]? = some y := ⟨_, List.getElem?_eq_getElem hlj⟩
          obtain ⟨g2, o2, rfl, hg2, e0, e1⟩ := HVA.out j y hy
          obtain ⟨g3, o3, rfl, hg3, f0, f1⟩ := HVB.out j y hy
          have ij : (j : Int) < x.values.length := by omega
          have j0 : (0 : Int) ≤ (j : Int) := by omega
          have wj : IntKind.i64.wrap ((j : Int) + 1) = (j : Int) + 1 := IntWalk.i64_in _ (by omega)
          have b1 := tx_listT (rfl : y.name = y.name)
          clear hy
          go_upto_region 11 with (fail)
          go_quiet (fail)
          go_wp2_with fail
          go_roundw
          case rel => exact ⟨j + 1, by go_num, by omega, _, rfl⟩
          case measure => simp [intOf]; omega
        · obtain rfl : j = x.values.length := by omega
          have ij : ¬ (x.values.length : Int) < x.values.length := by omega
          go_wp2_with fail
          go_roundw
          case rel => exact ⟨k + 1, by go_num, by omega, _, rfl⟩
          case measure => simp [intOf]; omega
    · obtain rfl : k = es.length := by omega
      have ik : ¬ (es.length : Int) < es.length := by omega
      go_wp2_with fail
      go_ret
      exact ⟨rfl, (Only.refl _ _).drewN _⟩
set_option maxRecDepth 100000 in
set_option maxHeartbeats 4000000 in
theorem rebates_same (rs : List Rb) (_hl : rs.length ≤ 1000000000) (hlots : ∀ r ∈ rs, r.lots.length ≤ 1000000000) (v u : Value) (w : World) (h : RbSl w v rs) (k : RbSl w u rs) : Calls Tryz.prog 19 #[v, u] w fun e w' => e = .returned (.bool true) ∧ Only NoneOf w w' := by
  obtain ⟨A, cap, rfl, hc1, hc2, hA⟩ := rb_at h
  obtain ⟨B, bap, rfl, hb1, hb2, hB⟩ := rb_at k
  have HA := Lib.hid hA
  have HB := Lib.hid hB
  have HLO := Lib.hid hlots
  clear hA hB h k hlots
  go_enter Tryz.func19, Tryz.ntmps19
  go_wp2_with fail
  go_loopw [5] (fun i wr => ∃ j : Nat, i = .int .i64 j ∧ j ≤ rs.length ∧ Only NoneOf w wr) (fun i _ => rs.length - (intOf i).toNat)
  case atStart => exact ⟨0, rfl, Nat.zero_le _, Only.refl _ _⟩
  case round =>
    obtain ⟨k, rfl, hk, ho⟩ := hrel
    by_cases hlt : k < rs.length
    · obtain ⟨x, hx⟩ : ∃ x, rs[k]? = some x := ⟨_, List.getElem?_eq_getElem hlt⟩
      obtain ⟨g, o, u, rfl, hg, c0, c1, hvs⟩ := HA.out k x hx
      obtain ⟨g', o', u', rfl, hg', d0, d1, hvs'⟩ := HB.out k x hx
      have e0 := ho.cell_some c0 (fun e => e)
      have e1 := ho.cell_some c1 (fun e => e)
      have f0 := ho.cell_some d0 (fun e => e)
      have f1 := ho.cell_some d1 (fun e => e)
      have ik : (k : Int) < rs.length := by omega
      have k0 : (0 : Int) ≤ (k : Int) := by omega
      have wk : IntKind.i64.wrap ((k : Int) + 1) = (k : Int) + 1 := IntWalk.i64_in _ (by omega)
      have hin : ∀ W, Only NoneOf w W → Calls Tryz.prog 13 #[u, u'] W fun e w' => e = .returned (.bool true) ∧ Only NoneOf W w' := fun W hW => ints_same x.lots (HLO.out x (List.mem_of_getElem? hx)) u u' W (hvs.only hW) (hvs'.only hW)
      have HIN := Lib.hid hin
      have HO := Lib.hid ho
      obtain ⟨A2, cap2, rfl, _⟩ := id hvs
      obtain ⟨B2, bap2, rfl, _⟩ := id hvs'
      clear hx hvs hvs' hin ho
      go_upto_region 6 with (fail)
      obtain ⟨ft, hfx⟩ := family (fun W => Only NoneOf w W) (W0 := wr.drew) HO.out.drew
      obtain ⟨F, hI, hF0, hF, hFS⟩ := hfx
      have D1 : Hid (∀ q, Calls Tryz.prog 13 #[.slice A2 x.lots.length cap2, .slice B2 x.lots.length bap2] (F q) fun e w' => e = .returned (.bool true) ∧ ∃ z, w' = F z) := Lib.hid (fun q => (HIN.out (F q) (hFS q)).mono (fun e w' hh => ⟨hh.1, (hF w').1 ((hFS q).trans hh.2)⟩))
      have L0 : ∀ q, (F q).cell? ⟨g, o + k * 2, none⟩ = some (.slice A2 x.lots.length cap2) := fun q => (hFS q).cell_some c0 (fun e => e)
      have L1 : ∀ q, (F q).cell? ⟨g', o' + k * 2, none⟩ = some (.slice B2 x.lots.length bap2) := fun q => (hFS q).cell_some d0 (fun e => e)
      have HF := Lib.hid hF
      have HF0 := Lib.hid hF0
      have HC1 := Lib.hid c1
      have HD1 := Lib.hid d1
      clear hF hF0 hFS c0 c1 d0 d1 e0 e1 f0 f1
      refine wp_region_family F (by kernel_rfl) (by kernel_rfl) HF0.out ?_
      repeat (go_big_quiet_step (with_reducible exact D1.out _))
      refine wpQuiet_nil ?_
      intro w9 hw9
      have ho9 := (HF.out w9).2 hw9
      have e1 := ho9.cell_some HC1.out (fun e => e)
      have f1 := ho9.cell_some HD1.out (fun e => e)
      have HO9 := Lib.hid ho9
      clear hw9 ho9 L0 L1
      go_upto_region 7 with (fail)
      go_quiet (fail)
      go_wp2_with fail
      go_roundw
      case rel => exact ⟨k + 1, by go_num, by omega, HO9.out.drewN _⟩
      case measure => simp [intOf]; omega
    · obtain rfl : k = rs.length := by omega
      have ik : ¬ (rs.length : Int) < rs.length := by omega
      have HO := Lib.hid ho
      clear ho
      go_wp2_with fail
      go_ret
      exact ⟨rfl, HO.out⟩
end Go.Proofs.YtpdlbmieciabmaaGreatDoor
