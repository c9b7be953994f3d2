/- What is proved here: the reference's cursor passes numbers. Conditions: the text is short. -/
import Derived.Test.YtpdlbmieciabmaaGreatDoorBrR
import Derived.Test.YtpdlbmieciabmaaGreatDoorB2
import Derived.Test.YtpdlbmieciabmaaGreatDoorQui
namespace Go.Proofs.YtpdlbmieciabmaaGreatDoor
open Go.RowKit Go.Shelf
/-- What holds between two digits. -/
structure NumS (s : ByteArray) (a C : Nat) (b : Bool) (w : World) (q : Nat) (W : World) : Prop where
  ge : beg (s.data.toList.drop a) ≤ q
  le : a + q ≤ s.size
  dig : ∀ j c, beg (s.data.toList.drop a) ≤ j → j < q → (s.data.toList.drop a)[j]? = some c → digit c
  cur : Cur W C s (a + q) b
  only : Only (· = C) w W
def isDig (c : UInt8) : Bool := decide (48 ≤ c.toNat ∧ c.toNat ≤ 57)
theorem isDig_iff {c : UInt8} : isDig c = true ↔ digit c := by unfold isDig digit; rw [decide_eq_true_eq]
/-- Whether a digit stands at a place. -/
def digAt (s : ByteArray) (k : Nat) : Bool := match s.data.toList[k]? with | some c => isDig c | none => false
theorem drop_at {s : ByteArray} {a j : Nat} : (s.data.toList.drop a)[j]? = s.data.toList[a + j]? := by rw [List.getElem?_drop]
theorem beg_le_len {s : ByteArray} {a : Nat} (ha : a ≤ s.size) : a + beg (s.data.toList.drop a) ≤ s.size := by
  have h : s.data.toList.length = s.size := (size_list s).symm
  unfold beg
  split
  · rename_i h1
    cases hd : s.data.toList.drop a with
    | nil => rw [hd] at h1; cases h1
    | cons c l =>
      have := congrArg List.length hd
      rw [List.length_drop, List.length_cons] at this
      omega
  · omega
theorem beg_at {s : ByteArray} {a : Nat} (hlt : a < s.size) (c : UInt8) (hc : s[a] = c) : (c = 45 → beg (s.data.toList.drop a) = 1) ∧ (c ≠ 45 → beg (s.data.toList.drop a) = 0) := by
  have hg : s.data.toList[a]? = some c := by rw [← hc]; exact str_get s a hlt
  have hh : (s.data.toList.drop a).head? = some c := by rw [List.head?_drop]; exact hg
  unfold beg
  rw [hh]
  exact ⟨fun e => by rw [e, if_pos rfl], fun e => by rw [if_neg (by simpa using e)]⟩
theorem beg_end {s : ByteArray} {a : Nat} (h : s.size ≤ a) : beg (s.data.toList.drop a) = 0 := by
  rw [List.drop_eq_nil_of_le (by rw [← size_list]; exact h)]
  rfl
theorem NumS.start {s : ByteArray} {a C : Nat} {b : Bool} {w W : World} {B : Nat} (hB : B = beg (s.data.toList.drop a)) (ha : a ≤ s.size) (h : Cur W C s (a + B) b) (ho : Only (· = C) w W) : NumS s a C b w B W := by
  subst hB
  exact ⟨Nat.le_refl _, beg_le_len ha, fun j c h1 h2 _ => by omega, h, ho⟩
theorem NumS.step {s : ByteArray} {a C : Nat} {b : Bool} {w W : World} {q : Nat} {c : UInt8} (h : NumS s a C b w q W) (hc : s.data.toList[a + q]? = some c) (hd : digit c) (_j : Nat) : NumS s a C b w (q + 1) (W.setCell ⟨C, 1, none⟩ (.int .i64 ((a + (q + 1) : Nat) : Int))) := by
  have hlt := (List.getElem?_eq_some_iff.1 hc).1
  rw [← size_list] at hlt
  refine ⟨Nat.le_succ_of_le h.ge, by omega, fun i x h1 h2 h3 => ?_, h.cur.at_, cur_set h.only 1 _⟩
  by_cases hi : i = q
  · subst hi
    rw [drop_at, hc] at h3
    cases h3
    exact hd
  · exact h.dig i x h1 (by omega) h3
theorem NumS.drewN {s : ByteArray} {a C : Nat} {b : Bool} {w W : World} {q : Nat} (h : NumS s a C b w q W) (n : Nat) : NumS s a C b w q (W.drewN n) := ⟨h.ge, h.le, h.dig, Blk.drewN h.cur n, h.only.drewN n⟩
theorem one_beg {s : ByteArray} {a : Nat} (ha : a ≤ s.size) : ((s.extract a (min ((a : Int) + 1) (s.size : Int)).toNat).toList == [45]) = decide (beg (s.data.toList.drop a) = 1) := by
  rw [Lib.toList_data]
  have hl : s.data.toList.length = s.size := (size_list s).symm
  by_cases hlt : a < s.size
  · rw [show (min ((a : Int) + 1) (s.size : Int)).toNat = a + 1 by omega, ext_take]
    obtain ⟨c, hc⟩ : ∃ c, s.data.toList[a]? = some c := ⟨_, List.getElem?_eq_getElem (by omega)⟩
    obtain ⟨h1, h2⟩ := List.getElem?_eq_some_iff.1 hc
    rw [List.drop_eq_getElem_cons h1, h2]
    unfold beg
    rw [List.take_succ_cons, List.take_zero, List.head?_cons]
    by_cases h45 : c = 45
    · subst h45
      rfl
    · rw [if_neg (by simpa using h45)]
      have e1 : ([c] == ([45] : List UInt8)) = false := by
        rw [beq_eq_false_iff_ne]
        simpa using h45
      rw [e1]
      rfl
  · rw [beg_end (by omega), show (min ((a : Int) + 1) (s.size : Int)).toNat = a + 0 by omega, ext_take, List.take_zero]
    rfl
set_option maxRecDepth 100000 in
set_option maxHeartbeats 2000000 in
theorem number_any {w : World} {C : Nat} {s : ByteArray} {a : Nat} {b : Bool} (h : Cur w C s a b) (ha : a ≤ s.size) (hs : s.size ≤ 4000000000) :
    Calls Tryz.prog 49 #[curP C] w fun e w' => ∃ a' n b', e = .returned (.int .i64 n) ∧ NumC s.data.toList a a' n b b' ∧ a' ≤ s.size ∧ Cur w' C s a' b' ∧ Only (· = C) w w' := by
  obtain ⟨c0, c1, c2⟩ := h.cells
  have f1 : w.frozen? ⟨C, 1, none⟩ = false := Blk.frozen h 1
  have H := Lib.hid h
  obtain ⟨L, eL⟩ : ∃ L, L = s.data.toList.drop a := ⟨_, rfl⟩
  obtain ⟨B, eB⟩ : ∃ B, B = beg L := ⟨_, rfl⟩
  have EL := Lib.hid eL
  have EB := Lib.hid eB
  have a0 : (0 : Int) ≤ (a : Int) := by omega
  obtain ⟨neg, eneg⟩ : ∃ neg : Bool, neg = decide (B = 1) := ⟨_, rfl⟩
  have EN := Lib.hid eneg
  clear h eL eB eneg
  go_enter Tryz.func49, Tryz.ntmps49
  go_upto_region 2 with (fail)
  go_cut [31] (fun c wx => c = .bool neg ∧ ∃ n, wx = w.drewN n)
  case first =>
    by_cases hlt : a < s.size
    · obtain ⟨c, hc⟩ : ∃ c, s[a] = c := ⟨_, rfl⟩
      have hbg := beg_at hlt c hc
      rw [← EL.out, ← EB.out] at hbg
      have a1 : (a : Int) < (s.size : Int) := by omega
      have d1 : decide ((a : Int) < (s.size : Int)) = true := decide_eq_true a1
      by_cases h45 : c = 45
      · have hn : neg = true := by rw [EN.out]; exact decide_eq_true (hbg.1 h45)
        subst h45
        subst hn
        have e45 : ((45 : UInt8).toNat : Int) = 45 := rfl
        have d2 : (((45 : UInt8).toNat : Int) == 45) = true := rfl
        clear hbg
        go_quiet (fail)
        go_wp2_with fail
        go_meet
        case rel => exact ⟨rfl, _, rfl⟩
      · have hn : neg = false := by rw [EN.out]; exact decide_eq_false (by have := hbg.2 h45; omega)
        subst hn
        have d2 : ((c.toNat : Int) == 45) = false := by
          rw [beq_eq_false_iff_ne]
          intro e
          exact h45 (UInt8.toNat_inj.1 (by show c.toNat = 45; omega))
        clear hbg h45
        go_quiet (fail)
        go_wp2_with fail
        go_meet
        case rel => exact ⟨rfl, _, rfl⟩
    · have hn : neg = false := by rw [EN.out]; exact decide_eq_false (by rw [EB.out, EL.out, beg_end (by omega)]; omega)
      subst hn
      have d1 : decide ((a : Int) < (s.size : Int)) = false := decide_eq_false (by omega)
      go_quiet (fail)
      go_wp2_with fail
      go_meet
      case rel => exact ⟨rfl, _, rfl⟩
  case rest =>
  obtain ⟨rfl, n0, rfl⟩ := hcut
  go_upto_if 31 with (fail)
  go_cut [] (fun wx => NumS s a C b w B wx)
  case first =>
    have f2 : (w.drewN n0).frozen? ⟨C, 1, none⟩ = false := f1
    have e2 : (w.drewN n0).cell? ⟨C, 1, none⟩ = some (.int .i64 (a : Int)) := c1
    cases neg with
    | true =>
      have hB : B = 1 := of_decide_eq_true EN.out.symm
      have hle := beg_le_len ha
      rw [← EL.out, ← EB.out, hB] at hle
      have w1 : IntKind.i64.wrap ((a : Int) + 1) = (a : Int) + 1 := IntWalk.i64_in _ (by omega)
      have HB := Lib.hid hB
      clear hB hle
      go_wp2_with fail
      go_meet
      case rel => exact NumS.start (by rw [EB.out, EL.out]) ha (by rw [HB.out]; exact Cur.at_ (a' := a + 1) (Blk.drewN H.out _)) (cur_set ((Only.refl _ _).drewN _) 1 _)
    | false =>
      have hB : B = 0 := by
        have h1 := of_decide_eq_false EN.out.symm
        have h2 := beg_le L
        rw [← EB.out] at h2
        omega
      have HB := Lib.hid hB
      clear hB
      go_wp2_with fail
      go_meet
      case rel => exact NumS.start (by rw [EB.out, EL.out]) ha (by rw [HB.out]; exact Blk.drewN H.out _) ((Only.refl _ _).drewN _)
  case rest =>
  have HS := Lib.hid hcut
  clear hcut c0 c1 c2 f1
  go_wp2_with fail
  go_loopw [4, 5] (fun n m wr => ∃ q : Nat, n = .int .i64 (upTo L B q) ∧ m = .int .i64 ((q - B : Nat) : Int) ∧ NumS s a C b w q wr) (fun _ m _ => s.size - (intOf m).toNat)
  case atStart => exact ⟨B, by rw [upTo_zero], by simp, HS.out⟩
  case round =>
    obtain ⟨q, rfl, rfl, hS⟩ := hrel
    obtain ⟨p, ep⟩ : ∃ p, p = a + q := ⟨_, rfl⟩
    obtain ⟨c0, c1, c2⟩ := hS.cur.cells
    rw [← ep] at c1
    have f1 : wr.frozen? ⟨C, 1, none⟩ = false := Blk.frozen hS.cur 1
    have hps : p ≤ s.size := by
      have := hS.le
      omega
    have p0 : (0 : Int) ≤ (p : Int) := by omega
    obtain ⟨v, ev⟩ : ∃ v, v = upTo L B q := ⟨_, rfl⟩
    obtain ⟨m, em⟩ : ∃ m, m = q - B := ⟨_, rfl⟩
    rw [← ev, ← em]
    have hui := upTo_in L B q
    rw [← ev] at hui
    obtain ⟨dg, edg⟩ : ∃ d, d = digAt s p := ⟨_, rfl⟩
    have EP := Lib.hid ep
    have EV := Lib.hid ev
    have EM := Lib.hid em
    have ED := Lib.hid edg
    have HS := Lib.hid hS
    have HUI := Lib.hid hui
    clear ep ev em edg hS hui
    go_upto_region 6 with (fail)
    go_cut [72] from 39 to 95 (fun c wx => c = .bool dg ∧ ∃ n, wx = wr.drewN n)
    case first =>
      by_cases hlt : p < s.size
      · obtain ⟨c, hc⟩ : ∃ c, s[p] = c := ⟨_, rfl⟩
        have hg := str_get s p hlt
        rw [hc] at hg
        have hdg : dg = isDig c := by rw [ED.out]; unfold digAt; rw [hg]
        have p1 : (p : Int) < (s.size : Int) := by omega
        have d1 : decide ((p : Int) < (s.size : Int)) = true := decide_eq_true p1
        clear hg
        by_cases h48 : 48 ≤ c.toNat
        · have d2 : decide ((48 : Int) ≤ (c.toNat : Int)) = true := decide_eq_true (by omega)
          by_cases h57 : c.toNat ≤ 57
          · have d3 : decide ((c.toNat : Int) ≤ 57) = true := decide_eq_true (by omega)
            have hd : dg = true := by rw [hdg]; exact decide_eq_true ⟨h48, h57⟩
            subst hd
            clear hdg
            go_quiet (fail)
            go_wp2_with fail
            go_meet
            case rel => exact ⟨rfl, _, rfl⟩
          · have d3 : decide ((c.toNat : Int) ≤ 57) = false := decide_eq_false (by omega)
            have hd : dg = false := by rw [hdg]; exact decide_eq_false (fun h => h57 h.2)
            subst hd
            clear hdg
            go_quiet (fail)
            go_wp2_with fail
            go_meet
            case rel => exact ⟨rfl, _, rfl⟩
        · have d2 : decide ((48 : Int) ≤ (c.toNat : Int)) = false := decide_eq_false (by omega)
          have hd : dg = false := by rw [hdg]; exact decide_eq_false (fun h => h48 h.1)
          subst hd
          clear hdg
          go_quiet (fail)
          go_wp2_with fail
          go_meet
          case rel => exact ⟨rfl, _, rfl⟩
      · have d1 : decide ((p : Int) < (s.size : Int)) = false := decide_eq_false (by omega)
        have hd : dg = false := by
          rw [ED.out]
          unfold digAt
          rw [List.getElem?_eq_none (by rw [← size_list]; omega)]
        subst hd
        go_quiet (fail)
        go_wp2_with fail
        go_meet
        case rel => exact ⟨rfl, _, rfl⟩
    case rest =>
    obtain ⟨rfl, n1, rfl⟩ := hcut
    cases dg with
    | true =>
      obtain ⟨c, hg⟩ : ∃ c, s.data.toList[p]? = some c := by
        cases h : s.data.toList[p]? with
        | none =>
          have := ED.out
          unfold digAt at this
          rw [h] at this
          cases this
        | some c => exact ⟨c, rfl⟩
      have hlt : p < s.size := by
        have := (List.getElem?_eq_some_iff.1 hg).1
        rw [← size_list] at this
        exact this
      have hc : s[p] = c := by
        have := str_get s p hlt
        rw [hg] at this
        exact (Option.some.inj this).symm
      have hd : digit c := by
        have := ED.out
        unfold digAt at this
        rw [hg] at this
        exact isDig_iff.1 this.symm
      have p1 : (p : Int) < (s.size : Int) := by omega
      have hBq : B ≤ q := by
        rw [EB.out, EL.out]
        exact HS.out.ge
      have hst := upTo_step (l := L) (b := B) hBq (by rw [EL.out, drop_at, ← EP.out]; exact hg) hd
      have hui2 := upTo_in L B (q + 1)
      obtain ⟨v2, ev2⟩ : ∃ v2, v2 = upTo L B (q + 1) := ⟨_, rfl⟩
      rw [← ev2] at hui2
      rw [← EV.out, ← ev2] at hst
      obtain ⟨v1, ev1⟩ : ∃ v1, IntKind.i64.wrap (10 * v) = v1 := ⟨_, rfl⟩
      rw [ev1] at hst
      have hd' := hd
      unfold digit at hd'
      have w8 : IntKind.u8.wrap ((c.toNat : Int) - 48) = (c.toNat : Int) - 48 := by
        simp only [IntKind.wrap, IntKind.bits, IntKind.signed]
        simp
        omega
      have wd : IntKind.i64.wrap ((c.toNat : Int) - 48) = (c.toNat : Int) - 48 := IntWalk.i64_in _ (by omega)
      have wm : IntKind.i64.wrap ((m : Int) + 1) = (m : Int) + 1 := IntWalk.i64_in _ (by have := EM.out; have := EP.out; omega)
      have wp : IntKind.i64.wrap ((p : Int) + 1) = (p : Int) + 1 := IntWalk.i64_in _ (by omega)
      have hnew := (HS.out.drewN n1).step (by rw [← EP.out]; exact hg) hd q
      have HEV2 := Lib.hid ev2
      have HBQ := Lib.hid hBq
      have HD := Lib.hid hd
      have HG := Lib.hid hg
      clear hnew hg hd hd' hBq ev2 hui2
      go_upto_region 7 with (fail)
      go_quiet (fail)
      go_wp2_with fail
      go_roundw
      case rel =>
        refine ⟨q + 1, by rw [HEV2.out], ?_, ?_⟩
        · have h1 := EM.out
          have h2 := HBQ.out
          rw [show ((q + 1 - B : Nat) : Int) = (m : Int) + 1 by omega]
        · have h := (HS.out.drewN (n1 + nq)).step (by rw [← EP.out]; exact HG.out) HD.out 0
          rw [show ((a + (q + 1) : Nat) : Int) = (p : Int) + 1 by have := EP.out; omega] at h
          exact h
      case measure =>
        have h1 := EM.out
        have h2 := HBQ.out
        have h3 := EP.out
        simp [intOf]
        omega
    | false =>
      have hz : (wr.drewN n1).cell? ⟨C, 0, none⟩ = some (.string s) := c0
      have w1 : IntKind.i64.wrap ((a : Int) + 1) = (a : Int) + 1 := IntWalk.i64_in _ (by omega)
      go_upto_region 10 with (fail)
      go_cut [110] from 96 to 110 (fun c wx => c = .bool (!neg) ∧ ∃ n, wx = wr.drewN n)
      case first =>
        go_region
        go_wp2_with fail
        go_meet
        case rel =>
          refine ⟨?_, _, rfl⟩
          rw [one_beg ha, ← EL.out, ← EB.out, ← EN.out]
      case rest =>
      obtain ⟨rfl, n2, rfl⟩ := hcut
      obtain ⟨N, eN⟩ : ∃ N, N = numV (L.take q) := ⟨_, rfl⟩
      have hLl : L.length = s.size - a := by rw [EL.out, List.length_drop, ← size_list]
      have hle := HS.out.le
      have hge := HS.out.ge
      rw [← EL.out, ← EB.out] at hge
      have hnv := numV_take (l := L) (q := q) (by rw [← EB.out]; exact hge) (by omega)
      rw [← EB.out, ← EV.out, ← eN] at hnv
      have HNV := Lib.hid hnv
      have HNN := Lib.hid eN
      have hNin : In N := by rw [eN]; exact numV_in _
      have HNI := Lib.hid hNin
      have HLL := Lib.hid hLl
      have HGE := Lib.hid hge
      clear hnv eN hLl hge hNin
      go_upto_if 110 with (fail)
      go_cut [4] (fun c wx => c = .int .i64 N ∧ ∃ n, wx = wr.drewN n)
      case first =>
        cases neg with
        | true =>
          have hv : v = N := HNV.out.2 (by have := of_decide_eq_true EN.out.symm; omega)
          subst hv
          go_wp2_with fail
          go_meet
          case rel => exact ⟨rfl, _, rfl⟩
        | false =>
          have hv : IntKind.i64.wrap (-v) = N := HNV.out.1 (by
            have h1 := of_decide_eq_false EN.out.symm
            have h2 := beg_le L
            rw [← EB.out] at h2
            omega)
          go_wp2_with fail
          go_meet
          case rel => exact ⟨rfl, _, rfl⟩
      case rest =>
      obtain ⟨rfl, n3, rfl⟩ := hcut
      obtain ⟨fit, efit⟩ : ∃ fit : Bool, fit = decide (¬ m = 0 ∧ ¬ 19 < m ∧ Lib.itoa N = L.take q) := ⟨_, rfl⟩
      have EF := Lib.hid efit
      clear efit
      have hcr : Cur (wr.drewN n3) C s p b := by rw [EP.out]; exact Blk.drewN HS.out.cur n3
      have hor : Only (· = C) w (wr.drewN n3) := HS.out.only.drewN n3
      go_upto_region 12 with (fail)
      refine wp_gen (fun W => Cur W C s p b ∧ Only (· = C) w W) ⟨hcr, hor⟩ ?_
      clear hcr hor c0 c1 c2 f1 hz
      rintro Z ⟨hcz, hoz⟩
      obtain ⟨c0, c1, c2⟩ := hcz.cells
      have HCZ := Lib.hid hcz
      have HOZ := Lib.hid hoz
      clear hcz hoz
      go_cut [133] from 113 to 133 (fun c wx => c = .bool (!fit) ∧ Cur wx C s p b ∧ Only (· = C) w wx)
      case first =>
        by_cases hm0 : m = 0
        · have hf : fit = false := by rw [EF.out]; exact decide_eq_false (fun h => h.1 hm0)
          subst hm0
          subst hf
          go_quiet (fail)
          go_wp2_with fail
          go_meet
          case rel => exact ⟨rfl, Blk.drewN HCZ.out _, HOZ.out.drewN _⟩
        · have d1 : ((m : Int) == 0) = false := by
            rw [beq_eq_false_iff_ne]
            omega
          by_cases hm19 : 19 < m
          · have hf : fit = false := by rw [EF.out]; exact decide_eq_false (fun h => h.2.1 hm19)
            have d2 : decide ((19 : Int) < (m : Int)) = true := decide_eq_true (by omega)
            subst hf
            go_quiet (fail)
            go_wp2_with fail
            go_meet
            case rel => exact ⟨rfl, Blk.drewN HCZ.out _, HOZ.out.drewN _⟩
          · have d2 : decide ((19 : Int) < (m : Int)) = false := decide_eq_false (by omega)
            obtain ⟨td, etd⟩ : ∃ t : ByteArray, t = ⟨(Lib.itoa N).toArray⟩ := ⟨_, rfl⟩
            have hfit : (td.toList == (s.extract a p).toList) = fit := by
              have e1 : (s.extract a p).data.toList = L.take q := by rw [EP.out, ext_take, EL.out]
              rw [Lib.toList_data, Lib.toList_data, e1, etd, EF.out]
              by_cases he : Lib.itoa N = L.take q
              · rw [decide_eq_true ⟨hm0, hm19, he⟩]
                exact beq_iff_eq.2 he
              · rw [decide_eq_false (fun h => he h.2.2)]
                exact beq_eq_false_iff_ne.2 he
            have p1 : (a : Int) ≤ (p : Int) := by have := EP.out; omega
            have p2 : (p : Int) ≤ (s.size : Int) := by omega
            obtain ⟨ft, hfx⟩ := family (fun W => Cur W C s p b ∧ Only (· = C) w W) (W0 := Z.drew) ⟨Blk.drew HCZ.out, HOZ.out.drew⟩
            obtain ⟨F, hI, hF0, hF, hFS⟩ := hfx
            have D1 : Hid (∀ y, Calls Tryz.prog 43 #[.int .i64 N] (F y) fun e w' => e = .returned (.string td) ∧ ∃ z, w' = F z) := Lib.hid (fun y => (rdec16_any N HNI.out (F y)).mono (fun e w' hh => by
              obtain ⟨t, rfl, ht, ho⟩ := hh
              exact ⟨by rw [etd, bytes_of ht], (hF w').1 ⟨(hFS y).1.only ho (fun e => e), (hFS y).2.trans' ho (fun _ _ e => e.elim)⟩⟩))
            have L0 : ∀ y, (F y).cell? ⟨C, 0, none⟩ = some (.string s) := fun y => (hFS y).1.cells.1
            have L1 : ∀ y, (F y).cell? ⟨C, 1, none⟩ = some (.int .i64 (p : Int)) := fun y => (hFS y).1.cells.2.1
            have HF := Lib.hid hF
            have HF0 := Lib.hid hF0
            clear hF hF0 hFS etd
            refine wp_region_family F (by kernel_rfl) (by kernel_rfl) HF0.out ?_
            repeat (go_big_quiet_step (with_reducible exact D1.out _))
            refine wpQuiet_nil ?_
            intro w9 hw9
            have hS9 := (HF.out w9).2 hw9
            go_wp2_with fail
            go_meet
            case rel => exact ⟨rfl, hS9⟩
      case rest =>
      obtain ⟨rfl, hcw, how⟩ := hcut
      have f2 : wc.frozen? ⟨C, 2, none⟩ = false := Blk.frozen hcw 2
      obtain ⟨c0', c1', c2'⟩ := hcw.cells
      have hpost : NumC s.data.toList a (a + q) N b (b || !fit) := by
        refine NumC.mk (by rw [← size_list]; exact ha) HS.out.ge (by rw [← size_list]; exact HS.out.le) HS.out.dig (fun c hc hd => ?_) (by rw [HNN.out, EL.out]) (fun hf => ?_) (fun hf => ?_)
        · have h1 := ED.out
          unfold digAt at h1
          rw [EP.out, hc] at h1
          have h2 : false = isDig c := h1
          rw [isDig_iff.2 hd] at h2
          cases h2
        · rw [EF.out] at hf
          rw [← EL.out]
          exact (of_decide_eq_true hf).2.2
        · rw [EF.out] at hf
          have h1 := of_decide_eq_false hf
          rw [← EL.out]
          refine num_fit (by rw [← EB.out]; exact HGE.out) (by have := HLL.out; omega) HNN.out ?_
          rw [← EB.out, ← EM.out]
          by_cases h2 : m = 0
          · exact .inl h2
          · by_cases h3 : 19 < m
            · exact .inr (.inl h3)
            · exact .inr (.inr (fun e => h1 ⟨h2, h3, e⟩))
      rw [← EP.out] at hpost
      have HP := Lib.hid hpost
      have HCW := Lib.hid hcw
      have HOW := Lib.hid how
      clear hpost hcw how
      cases fit with
      | true =>
        go_wp2_with fail
        go_ret
        exact ⟨p, N, b, rfl, by have := HP.out; simpa using this, hps, HCW.out, HOW.out⟩
      | false =>
        go_wp2_with fail
        go_ret
        exact ⟨p, N, true, rfl, by have := HP.out; simpa using this, hps, HCW.out.bad true, cur_set HOW.out 2 _⟩
end Go.Proofs.YtpdlbmieciabmaaGreatDoor
