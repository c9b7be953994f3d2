/- What is proved here: the reference's cursor tells whether its text goes on, and passes letters. Conditions: the text is short. -/
import Derived.Test.YtpdlbmieciabmaaDoorBrS
namespace Go.Proofs.YtpdlbmieciabmaaDoor
open Go.RowKit Go.Shelf
set_option maxRecDepth 100000 in
set_option maxHeartbeats 1000000 in
theorem more_any {w : World} {C : Nat} {s : ByteArray} {a : Nat} {b : Bool} (h : Cur w C s a b) (_hs : s.size ≤ 4000000000) : Calls Tryd.prog 29 #[curP C] w fun e w' => e = .returned (.bool (!b && decide (a < s.size))) ∧ Only NoneOf w w' := by
  obtain ⟨c0, c1, c2⟩ := h.cells
  cases b with
  | true =>
    clear h
    go_enter Tryd.func29, Tryd.ntmps29
    go_upto_region 1 with (fail)
    go_quiet (fail)
    go_wp2_with fail
    go_ret
    exact ⟨rfl, (Only.refl _ _).drewN _⟩
  | false =>
    obtain ⟨m, em⟩ : ∃ m, m = decide (a < s.size) := ⟨_, rfl⟩
    have d1 : decide ((a : Int) < (s.size : Int)) = m := by
      rw [em]
      by_cases hl : a < s.size
      · rw [decide_eq_true hl]; exact decide_eq_true (by omega)
      · rw [decide_eq_false hl]; exact decide_eq_false (by omega)
    have EM := Lib.hid em
    rw [← em]
    clear h em
    go_enter Tryd.func29, Tryd.ntmps29
    go_upto_region 1 with (fail)
    go_quiet (fail)
    go_wp2_with fail
    go_ret
    exact ⟨by have := EM.out; simp [this], (Only.refl _ _).drewN _⟩
/-- Whether a letter stands at a place. -/
def letAt (s : ByteArray) (k : Nat) : Bool := match s.data.toList[k]? with | some c => isLet c | none => false
structure WrdS (s : ByteArray) (a C : Nat) (b : Bool) (w : World) (cur : Nat) (W : World) : Prop where
  inv : WordI s.data.toList a cur
  le : cur ≤ s.size
  cur : Cur W C s cur b
  only : Only (· = C) w W
set_option maxRecDepth 100000 in
set_option maxHeartbeats 4000000 in
theorem cword_any {w : World} {C : Nat} {s : ByteArray} {a : Nat} {b : Bool} (h : Cur w C s a b) (ha : a ≤ s.size) (hs : s.size ≤ 4000000000) : Calls Tryd.prog 30 #[curP C] w fun e w' => ∃ a' t, e = .returned (.string t) ∧ WordC s.data.toList a a' t.data.toList ∧ a' ≤ s.size ∧ t.size ≤ s.size ∧ Cur w' C s a' b ∧ Only (· = C) w w' := by
  have HST : Hid (WrdS s a C b w a w) := Lib.hid ⟨WordI.new (by rw [← size_list]; exact ha), ha, h, Only.refl _ _⟩
  obtain ⟨c0, c1, c2⟩ := h.cells
  clear h
  go_enter Tryd.func30, Tryd.ntmps30
  go_wp2_with fail
  go_loopg [] (s.size - a) (fun k wr => ∃ cur, k = s.size - cur ∧ WrdS s a C b w cur wr)
  case atStart => exact ⟨a, rfl, HST.out⟩
  case round =>
    obtain ⟨cur, rfl, hS⟩ := hrel
    obtain ⟨c0, c1, c2⟩ := hS.cur.cells
    have f1 : wr.frozen? ⟨C, 1, none⟩ = false := Blk.frozen hS.cur 1
    have hle := hS.le
    have p0 : (0 : Int) ≤ (cur : Int) := by omega
    obtain ⟨go, ego⟩ : ∃ g, g = letAt s cur := ⟨_, rfl⟩
    have HS := Lib.hid hS
    have EG := Lib.hid ego
    clear hS ego
    go_upto_region 2 with (fail)
    go_cut [41] from 8 to 48 (fun c wx => c = .bool go ∧ ∃ n, wx = wr.drewN n)
    case first =>
      by_cases hlt : cur < s.size
      · obtain ⟨c, hc⟩ : ∃ c, s[cur] = c := ⟨_, rfl⟩
        have hg := str_get s cur hlt
        rw [hc] at hg
        have hdg : go = isLet c := by rw [EG.out]; unfold letAt; rw [hg]
        have p1 : (cur : Int) < (s.size : Int) := by omega
        have d1 : decide ((cur : Int) < (s.size : Int)) = true := decide_eq_true p1
        clear hg
        by_cases h97 : 97 ≤ c.toNat
        · have d2 : decide ((97 : Int) ≤ (c.toNat : Int)) = true := decide_eq_true (by omega)
          by_cases h122 : c.toNat ≤ 122
          · have d3 : decide ((c.toNat : Int) ≤ 122) = true := decide_eq_true (by omega)
            have hd : go = true := by rw [hdg]; exact decide_eq_true ⟨h97, h122⟩
            subst hd
            clear hdg
            go_quiet (fail)
            go_wp2_with fail
            go_meet
            case rel => exact ⟨rfl, _, rfl⟩
          · have d3 : decide ((c.toNat : Int) ≤ 122) = false := decide_eq_false (by omega)
            have hd : go = false := by rw [hdg]; exact decide_eq_false (fun h => h122 h.2)
            subst hd
            clear hdg
            go_quiet (fail)
            go_wp2_with fail
            go_meet
            case rel => exact ⟨rfl, _, rfl⟩
        · have d2 : decide ((97 : Int) ≤ (c.toNat : Int)) = false := decide_eq_false (by omega)
          have hd : go = false := by rw [hdg]; exact decide_eq_false (fun h => h97 h.1)
          subst hd
          clear hdg
          go_quiet (fail)
          go_wp2_with fail
          go_meet
          case rel => exact ⟨rfl, _, rfl⟩
      · have d1 : decide ((cur : Int) < (s.size : Int)) = false := decide_eq_false (by omega)
        have hd : go = false := by
          rw [EG.out]
          unfold letAt
          rw [List.getElem?_eq_none (by rw [← size_list]; omega)]
        subst hd
        go_quiet (fail)
        go_wp2_with fail
        go_meet
        case rel => exact ⟨rfl, _, rfl⟩
    case rest =>
    obtain ⟨rfl, n1, rfl⟩ := hcut
    cases go with
    | true =>
      obtain ⟨c, hg, hl⟩ : ∃ c, s.data.toList[cur]? = some c ∧ isLet c = true := by
        have h1 := EG.out
        unfold letAt at h1
        split at h1
        · rename_i c h2
          exact ⟨c, h2, h1.symm⟩
        · cases h1
      have hlt : cur < s.size := by
        have := (List.getElem?_eq_some_iff.1 hg).1
        rw [← size_list] at this
        exact this
      have w1 : IntKind.i64.wrap ((cur : Int) + 1) = (cur : Int) + 1 := IntWalk.i64_in _ (by omega)
      have HNEW : Hid (WrdS s a C b w (cur + 1) ((wr.drewN n1).setCell ⟨C, 1, none⟩ (.int .i64 ((cur : Int) + 1)))) := Lib.hid ⟨HS.out.inv.step hg hl, by omega, Cur.at_ (a' := cur + 1) (Blk.drewN HS.out.cur _), cur_set (HS.out.only.drewN _) 1 _⟩
      clear hg hl
      go_wp2_with fail
      go_roundg (s.size - (cur + 1))
      case rel => exact ⟨cur + 1, rfl, HNEW.out⟩
      case measure => omega
    | false =>
      have hge := HS.out.inv.1
      have hd := HS.out.inv.done (fun c hc => by
        have h1 := EG.out
        unfold letAt at h1
        rw [hc] at h1
        exact h1.symm)
      obtain ⟨t, et⟩ : ∃ t : ByteArray, t = s.extract a cur := ⟨_, rfl⟩
      have htd : t.data.toList = (s.data.toList.drop a).take (cur - a) := by
        rw [et, show cur = a + (cur - a) by omega, ext_take]
        congr 1
        omega
      have hts : t.size ≤ s.size := by
        rw [size_list, htd, size_list, List.length_take, List.length_drop]
        omega
      rw [← htd] at hd
      have HD := Lib.hid hd
      have p1 : (a : Int) ≤ (cur : Int) := by omega
      have p2 : (cur : Int) ≤ (s.size : Int) := by omega
      have a0 : (0 : Int) ≤ (a : Int) := by omega
      have ET := Lib.hid et
      clear hd htd et
      go_upto_region 4 with (fail)
      go_quiet (fail)
      go_wp2_with fail
      go_ret
      rw [← ET.out]
      exact ⟨cur, t, rfl, HD.out, hle, hts, Blk.drewN (Blk.drewN HS.out.cur _) _, (HS.out.only.drewN _).drewN _⟩
end Go.Proofs.YtpdlbmieciabmaaDoor
