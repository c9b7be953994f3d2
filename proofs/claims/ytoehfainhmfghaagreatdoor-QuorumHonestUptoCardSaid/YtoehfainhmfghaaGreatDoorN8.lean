/- What is proved here: several parts. a head is certified, by the program. Conditions: the numbers are ints, roots have 32 bytes, there are few votes and persons; the table of powers of ten reads as its initialiser lays it. · a head is certified, by the reference. Conditions: the numbers are ints, roots have 32 bytes, there are few votes and persons. -/
import Derived.Test.YtoehfainhmfghaaGreatDoorN7
import Derived.Test.YtoehfainhmfghaaGreatDoorN2
import Derived.Test.YtoehfainhmfghaaGreatDoorN4
import Derived.Test.YtoehfainhmfghaaGreatDoorN5
namespace Go.Proofs.YtoehfainhmfghaaGreatDoor
open Go.RowKit Go.Shelf
attribute [local go_sem ↓ high] hdLoad_eq hdNew_eq hdStore_eq
/-- What lies there of a setup and a head. -/
structure CeS (w : World) (B : Nat) (pv : Value) (h : Hd) (W : World) : Prop where
  s : Blk W B 39 #[pv, .int .i64 0, .slice none 0 0, .slice none 0 0, .int .i64 0, .int .i64 0]
  h : HdAt W (B + 1) h
  only : Only NoneOf w W
/-- How many votes a map of counts tells for a head. -/
theorem cnt_look {w : World} {b n : Nat} {c : Hd → Nat} {L : List Vt} (hm : MapV w Tryz.prog 25 b n (cntF c (L.map (·.head)))) (hz : ∀ h, h ∉ L.map (·.head) → c h = 0) {h : Hd} (ok : h.Ok) :
    (Instr.lookup 85 (.map (some b)) (.agg (hdC h).toArray) false).run Tryz.prog w = .ok (.int .i64 (c h : Int)) w := by
  obtain ⟨kl, hkl⟩ := key_hd ok
  rw [hm.look hd_law Tryz.underlying85 (zero_int _) hkl]
  have hval : (cntF c (L.map (·.head)) (.agg (hdC h).toArray)).getD (.int .i64 0) = .int .i64 (c h : Int) := by
    by_cases hmem : h ∈ L.map (·.head)
    · have h1 := cntF_hd (c := c) hmem
      unfold hdV at h1
      rw [h1]
      by_cases h0 : 0 < c h
      · rw [if_pos h0]; rfl
      · rw [if_neg h0, show c h = 0 by omega]; rfl
    · rw [hz h hmem]
      cases hf : cntF c (L.map (·.head)) (.agg (hdC h).toArray) with
      | none => rfl
      | some v =>
        obtain ⟨g, hg, hx, _⟩ := cntF_some hf
        exact (hmem (hdV_inj (a := h) (b := g) hx ▸ hg)).elim
  rw [hval]
theorem votesFor_out (O : List Pers) (L : List Vt) (h : Hd) (hh : h ∉ L.map (·.head)) : votesFor O L h = 0 := by
  rw [votesFor_eq, List.countP_eq_zero]
  intro p _ hv
  obtain ⟨v, hv1, hv2, _⟩ := hasV_iff.1 hv
  exact hh (List.mem_map.2 ⟨v, hv1, hv2⟩)
theorem votesFor_le (O : List Pers) (L : List Vt) (h : Hd) : votesFor O L h ≤ O.length := by rw [votesFor_eq]; exact List.countP_le_length
set_option maxRecDepth 100000 in
set_option maxHeartbeats 4000000 in
theorem qcert_any (P : List Pers) (hP : PersOk P) (hlen : P.length ≤ 1000) (pv : Value) (h : Hd) (ok : h.Ok) (L : List Vt) (hok : VtsOk L) (hL : L.length ≤ 100000) (sv : Value) (w : World) (hp : PerSl w pv P) (hs : VtSl w sv L) (ht : Tab w) :
    Calls Tryz.prog 25 #[setV pv, .agg (hdC h).toArray, sv] w fun e w' => e = .returned (.bool (certB P h L)) ∧ Only NoneOf w w' := by
  have hb : ∀ W, Only NoneOf w W → Calls Tryz.prog 49 #[.agg #[pv, .int .i64 0, .slice none 0 0, .slice none 0 0, .int .i64 0, .int .i64 0], sv] W fun e w' => ∃ b, e = .returned (.map (some b)) ∧ (∀ W', Only NoneOf w' W' → (Instr.lookup 85 (.map (some b)) (.agg (hdC h).toArray) false).run Tryz.prog W' = .ok (.int .i64 (votesFor (offs P) L h : Int)) W') ∧ Only NoneOf W w' := fun W ho =>
    (ballots_any P hP hlen pv L hok hL sv W (hp.only ho) (hs.only ho) (ht.none ho)).mono (by
      rintro e w' ⟨b, n, rfl, hn, hm, ho'⟩
      exact ⟨b, rfl, fun W' hW => cnt_look (hm.only hW (fun e => e)) (fun g hg => votesFor_out _ _ g hg) ok, ho'⟩)
  have hq : ∀ W, Only NoneOf w W → Calls Tryz.prog 42 #[.agg #[pv, .int .i64 0, .slice none 0 0, .slice none 0 0, .int .i64 0, .int .i64 0]] W fun e w' => ∃ A cap, e = .returned (.slice A (offs P).length cap) ∧ Only NoneOf W w' := fun W ho =>
    (qofficers_any P hP hlen pv W (hp.only ho)).mono (by
      rintro e w' ⟨ov, rfl, ⟨A, cap, rfl, _⟩, ho'⟩
      exact ⟨A, cap, rfl, ho'⟩)
  have hol : (offs P).length ≤ 1000 := Nat.le_trans (offs_len P) hlen
  have hvl := votesFor_le (offs P) L h
  have HC : Hid (certB P h L = decide (needI ((offs P).length : Int) ≤ (votesFor (offs P) L h : Int))) := Lib.hid (by
    unfold certB
    rw [needI_nat]
    simp)
  obtain ⟨nv, env⟩ : ∃ nv, nv = votesFor (offs P) L h := ⟨_, rfl⟩
  obtain ⟨no, eno⟩ : ∃ no, no = (offs P).length := ⟨_, rfl⟩
  rw [← env] at hb hvl HC
  rw [← eno] at hq hol hvl HC
  have hnd : ∀ W, Calls Tryz.prog 26 #[.int .i64 (no : Int)] W fun e w' => e = .returned (.int .i64 (needI (no : Int))) ∧ w' = W := fun W => qneed_any (no : Int) ⟨by omega, by omega⟩ W
  obtain ⟨ni, eni⟩ : ∃ ni, ni = needI (no : Int) := ⟨_, rfl⟩
  rw [← eni] at hnd HC
  obtain ⟨B, eB⟩ : ∃ B, B = w.heap.size := ⟨_, rfl⟩
  obtain ⟨X, eX⟩ : ∃ X, X = (w.alloc (.cells #[pv, .int .i64 0, .slice none 0 0, .slice none 0 0, .int .i64 0, .int .i64 0] 39)).alloc (.cells (hdC h).toArray 25) := ⟨_, rfl⟩
  have hS0 : CeS w B pv h X := by
    have h2 := Blk.new (w.alloc (.cells #[pv, .int .i64 0, .slice none 0 0, .slice none 0 0, .int .i64 0, .int .i64 0] 39)) tHd (hdC h).toArray
    rw [World.size_alloc, ← eB] at h2
    exact ⟨by rw [eX, eB]; exact (Blk.new w _ _).alloc _, by rw [eX]; exact h2, by rw [eX]; exact ((Only.refl _ _).alloc _).alloc _⟩
  have hS : CeS w B pv h X.drew := ⟨hS0.s.drew, Blk.drew hS0.h, hS0.only.drew⟩
  have c0 : ∀ W, CeS w B pv h W → W.cell? ⟨B, 0, none⟩ = some pv := fun W hW => hW.s.cell 0
  have c1 : ∀ W, CeS w B pv h W → W.cell? ⟨B, 1, none⟩ = some (.int .i64 0) := fun W hW => hW.s.cell 1
  have c2 : ∀ W, CeS w B pv h W → W.cell? ⟨B, 2, none⟩ = some (.slice none 0 0) := fun W hW => hW.s.cell 2
  have c3 : ∀ W, CeS w B pv h W → W.cell? ⟨B, 3, none⟩ = some (.slice none 0 0) := fun W hW => hW.s.cell 3
  have c4 : ∀ W, CeS w B pv h W → W.cell? ⟨B, 4, none⟩ = some (.int .i64 0) := fun W hW => hW.s.cell 4
  have c5 : ∀ W, CeS w B pv h W → W.cell? ⟨B, 5, none⟩ = some (.int .i64 0) := fun W hW => hW.s.cell 5
  have ch : ∀ W, CeS w B pv h W → (hdLoad (.pointer (some ⟨B + 1, 0, none⟩))).run Tryz.prog W = .ok (.agg (hdC h).toArray) W := fun W hW => hd_load (blk_range hW.h) ok.root
  have HBL := Lib.hid hb
  have HOF := Lib.hid hq
  have HND := Lib.hid hnd
  have EX := Lib.hid eX
  have EB := Lib.hid eB
  have HOUT : Hid (∀ W, CeS w B pv h W → Only NoneOf w W) := Lib.hid (fun W hW => hW.only)
  have HKEEP : Hid (∀ W W', CeS w B pv h W → Only NoneOf W W' → CeS w B pv h W') := Lib.hid (fun W W' hW ho => ⟨hW.s.only ho (fun e => e), Blk.only hW.h ho (fun e => e), hW.only.trans ho⟩)
  clear hb hq hnd hol hvl env eno eni eB eX hS0 hp hs ht hok ok hP hlen hL
  unfold setV
  go_enter Tryz.func25, Tryz.ntmps25
  go_wp2_with fail
  rw [← EX.out, ← EB.out]
  clear EX EB
  go_region_held3 (fun w' => CeS w B pv h w') (first | assumption)
    (first
      | (go_at_call 49; refine (HBL.out _ (HOUT.out _ (by assumption))).mono ?_; rintro e1 w1 ⟨b1, rfl, hlk1, ho1⟩; have hS1 := HKEEP.out _ _ (by assumption) ho1; have hrf1 : Only NoneOf w1 w1 := Only.refl _ _; clear ho1)
      | (go_at_call 42; refine (HOF.out _ (HOUT.out _ (by assumption))).mono ?_; rintro e2 w2 ⟨A2, cap2, rfl, ho2⟩; have hS2 := HKEEP.out _ _ (by assumption) ho2)
      | (go_at_call 26; refine (HND.out _).mono ?_; rintro e3 w3 ⟨rfl, rfl⟩))
  all_goals
    go_wp2_with fail
    go_ret
    exact ⟨ret_bool HC.out.symm, HOUT.out _ (by assumption)⟩
end Go.Proofs.YtoehfainhmfghaaGreatDoor
namespace Go.Proofs.YtoehfainhmfghaaGreatDoor
open Go.RowKit Go.Shelf
attribute [local go_sem ↓ high] hdLoad_eq vtLoad_eq
/-- What is asked of a vote. -/
noncomputable def hitB (p : Pers) (h : Hd) (v : Vt) : Bool := eqHd v.head h && cnts p v
theorem hasV_hit (L : List Vt) (p : Pers) (h : Hd) : hasV L p h = L.any (hitB p h) := rfl
/-- What lies there all the while. -/
structure CrS (w : World) (B : Nat) (h : Hd) (ov : Value) (O : List Pers) (sv : Value) (L : List Vt) (W : World) : Prop where
  h : HdAt W B h
  off : PerSl W ov O
  vts : VtSl W sv L
  only : Only NoneOf w W
theorem CrS.keep {w : World} {B : Nat} {h : Hd} {ov : Value} {O : List Pers} {sv : Value} {L : List Vt} {W W' : World} (hS : CrS w B h ov O sv L W) (ho : Only NoneOf W W') : CrS w B h ov O sv L W' :=
  ⟨Blk.only hS.h ho (fun e => e), hS.off.only ho, hS.vts.only ho, hS.only.trans ho⟩
set_option maxRecDepth 100000 in
set_option maxHeartbeats 4000000 in
theorem rqcert_any (P : List Pers) (hP : PersOk P) (hlen : P.length ≤ 1000) (pv : Value) (h : Hd) (ok : h.Ok) (L : List Vt) (hok : VtsOk L) (hL : L.length ≤ 100000) (sv : Value) (w : World) (hp : PerSl w pv P) (hs : VtSl w sv L) :
    Calls Tryz.prog 30 #[setV pv, .agg (hdC h).toArray, sv] w fun e w' => e = .returned (.bool (certB P h L)) ∧ Only NoneOf w w' := by
  have hq : ∀ W, Only NoneOf w W → Calls Tryz.prog 44 #[.agg #[pv, .int .i64 0, .slice none 0 0, .slice none 0 0, .int .i64 0, .int .i64 0]] W fun e w' => ∃ ov, e = .returned ov ∧ PerSl w' ov (offs P) ∧ Only NoneOf W w' := fun W ho => rqofficers_any P hlen pv W (hp.only ho)
  have hol : (offs P).length ≤ 1000 := Nat.le_trans (offs_len P) hlen
  have hO : PersOk (offs P) := hP.offs
  have HC : Hid (certB P h L = decide (needI ((offs P).length : Int) ≤ (votesFor (offs P) L h : Int))) := Lib.hid (by
    unfold certB
    rw [needI_nat]
    simp)
  obtain ⟨O, eO⟩ : ∃ O, O = offs P := ⟨_, rfl⟩
  rw [← eO] at hq hol hO HC
  have hnd : ∀ W, Calls Tryz.prog 54 #[.int .i64 (O.length : Int)] W fun e w' => e = .returned (.int .i64 (needI (O.length : Int))) ∧ w' = W := fun W => rqneed_any (O.length : Int) ⟨by omega, by omega⟩ W
  obtain ⟨ni, eni⟩ : ∃ ni, ni = needI (O.length : Int) := ⟨_, rfl⟩
  rw [← eni] at hnd HC
  obtain ⟨B, eB⟩ : ∃ B, B = w.heap.size + 1 := ⟨_, rfl⟩
  obtain ⟨X, eX⟩ : ∃ X, X = (w.alloc (.cells #[pv, .int .i64 0, .slice none 0 0, .slice none 0 0, .int .i64 0, .int .i64 0] 39)).alloc (.cells (hdC h).toArray 25) := ⟨_, rfl⟩
  have hb2 : HdAt X B h := by
    have h2 := Blk.new (w.alloc (.cells #[pv, .int .i64 0, .slice none 0 0, .slice none 0 0, .int .i64 0, .int .i64 0] 39)) tHd (hdC h).toArray
    rw [World.size_alloc, ← eB] at h2
    rw [eX]; exact h2
  have ho2 : Only NoneOf w X := by rw [eX]; exact ((Only.refl _ _).alloc _).alloc _
  have HB2 := Lib.hid hb2
  have HO2 := Lib.hid ho2
  have HSV := Lib.hid (hs.only ho2)
  have HOF := Lib.hid hq
  have HND := Lib.hid hnd
  have EX := Lib.hid eX
  have EB := Lib.hid eB
  have HOK := Lib.hid hok
  have HPO := Lib.hid hO
  have HL := Lib.hid ok.root
  clear hb2 ho2 hq hnd eni eB eX hp hs hok hO ok hP hlen eO
  unfold setV
  go_enter Tryz.func30, Tryz.ntmps30
  go_upto_region 1 with (fail)
  rw [← EB.out]
  have k0 : ((w.alloc (.cells #[pv, .int .i64 0, .slice none 0 0, .slice none 0 0, .int .i64 0, .int .i64 0] 39)).alloc (.cells (hdC h).toArray 25)).heap.size = w.heap.size + 2 := by simp
  clear k0
  go_wp2_with fail
  rw [← EX.out]
  refine (HOF.out _ HO2.out).mono ?_
  rintro e1 w1 ⟨ov, rfl, hov, ho1⟩
  have hS1 : CrS w B h ov O sv L w1 := ⟨Blk.only HB2.out ho1 (fun e => e), hov, HSV.out.only ho1, HO2.out.trans ho1⟩
  have HS1 := Lib.hid hS1
  obtain ⟨A, cap, rfl, hlc, hcm, _⟩ := hov
  obtain ⟨A2, cap2, rfl, hlc2, hcm2, _⟩ := HSV.out
  clear hS1 ho1 HOF
  go_wp2_with fail
  go_loopw [8, 9, 10, 11] (fun n i _ _ wr => ∃ k : Nat, i = .int .i64 k ∧ n = .int .i64 ((O.take k).countP (fun p => hasV L p h) : Nat) ∧ k ≤ O.length ∧ CrS w B h (.slice A O.length cap) O (.slice A2 L.length cap2) L wr) (fun _ i _ _ _ => O.length - (intOf i).toNat)
  case atStart => exact ⟨0, rfl, rfl, Nat.zero_le _, HS1.out⟩
  case round =>
    obtain ⟨k, rfl, rfl, hk, hS⟩ := hrel
    obtain ⟨cn, ecn⟩ : ∃ cn, cn = (O.take k).countP (fun p => hasV L p h) := ⟨_, rfl⟩
    rw [← ecn]
    have hcn : cn ≤ k := by rw [ecn]; exact Nat.le_trans List.countP_le_length (List.length_take_le _ _)
    have HS := Lib.hid hS
    have ECN := Lib.hid ecn
    clear hS ecn
    by_cases hlt : k < O.length
    · obtain ⟨p, hp⟩ : ∃ p, O[k]? = some p := ⟨_, List.getElem?_eq_getElem hlt⟩
      have hpo := HPO.out p (List.mem_of_getElem? hp)
      have ik : (k : Int) < (O.length : Int) := by omega
      have ik0 : (0 : Int) ≤ (k : Int) := by omega
      have htk : (O.take (k + 1)).countP (fun p => hasV L p h) = cn + if L.any (hitB p h) then 1 else 0 := by
        rw [List.take_add_one, hp, Option.toList_some, List.countP_append, ECN.out, List.countP_singleton]
        rfl
      obtain ⟨wo, rfl⟩ : ∃ wo : World, wo = wr := ⟨_, rfl⟩
      have HP := Lib.hid hp
      have HPK := Lib.hid hpo
      have HTK := Lib.hid htk
      clear hp hpo htk
      go_wp2_with fail
      go_loopw [10, 11] (fun vd j wi => ∃ m : Nat, j = .int .i64 m ∧ m ≤ L.length ∧ vd = .bool ((L.take m).any (hitB p h)) ∧ CrS w B h (.slice A O.length cap) O (.slice A2 L.length cap2) L wi) (fun _ j _ => L.length - (intOf j).toNat)
      case atStart => exact ⟨0, rfl, Nat.zero_le _, rfl, HS.out⟩
      case round =>
        obtain ⟨m, rfl, hm, rfl, hI⟩ := hrel
        obtain ⟨vb, evb⟩ : ∃ vb, vb = (L.take m).any (hitB p h) := ⟨_, rfl⟩
        rw [← evb]
        have HI := Lib.hid hI
        have EVB := Lib.hid evb
        clear hI evb
        by_cases hml : m < L.length
        · obtain ⟨v, hv⟩ : ∃ v, L[m]? = some v := ⟨_, List.getElem?_eq_getElem hml⟩
          have im : (m : Int) < (L.length : Int) := by omega
          have im0 : (0 : Int) ≤ (m : Int) := by omega
          cases vb with
          | true =>
            have hany : L.any (hitB p h) = true := by
              obtain ⟨x, hx, hx2⟩ := List.any_eq_true.1 EVB.out.symm
              exact List.any_eq_true.2 ⟨x, List.mem_of_mem_take hx, hx2⟩
            have hn : (O.take (k + 1)).countP (fun p => hasV L p h) = cn + 1 := by rw [HTK.out, hany]; rfl
            have HN := Lib.hid hn
            clear hany hn hv
            go_wp2_with fail
            go_roundw
            case rel => exact ⟨k + 1, by go_num, by rw [HN.out]; go_num, by omega, HI.out⟩
            case measure => simp [intOf]; omega
          | false =>
            have vo := HOK.out v (List.mem_of_getElem? hv)
            obtain ⟨A', cap', hA', _, _, hr⟩ := HI.out.vts
            obtain ⟨g, o, hA2, hg, hrv⟩ := hr m v hv
            simp only [Value.slice.injEq] at hA'
            obtain ⟨rfl, -, rfl⟩ := hA'
            subst hA2
            obtain ⟨A3, cap3, hA3, _, _, hr3⟩ := HI.out.off
            obtain ⟨g3, o3, hA4, hg3, hrp⟩ := hr3 k p HP.out
            simp only [Value.slice.injEq] at hA3
            obtain ⟨rfl, -, rfl⟩ := hA3
            subst hA4
            have hl := vo.head.root
            have hstep : (L.take (m + 1)).any (hitB p h) = hitB p h v := by
              rw [List.take_add_one, hv, Option.toList_some, List.any_append, ← EVB.out]
              simp
            have HSTEP := Lib.hid hstep
            have d0 := hd_load (range_head hrv hl) hl
            have d1 := hd_load (blk_range HI.out.h) HL.out
            have heq := fun W => eql_hd v.head h hl HL.out W
            cases he : eqHd v.head h with
            | false =>
              rw [he] at heq
              have hh : hitB p h v = false := by unfold hitB; rw [he]; rfl
              have HH := Lib.hid hh
              have r0 : ∀ n, (hdLoad (.pointer (some ⟨g, o + m * 36 + 1, none⟩))).run Tryz.prog (wr.drewN n) = .ok (.agg (hdC v.head).toArray) (wr.drewN n) := fun n => hd_load (range_head (rng_only hrv ((Only.refl _ _).drewN n)) hl) hl
              have r1 : ∀ n, (hdLoad (.pointer (some ⟨B, 0, none⟩))).run Tryz.prog (wr.drewN n) = .ok (.agg (hdC h).toArray) (wr.drewN n) := fun n => hd_load (blk_range (Blk.drewN HI.out.h n)) HL.out
              clear hh he hrp hrv hr hr3 hv hstep vo d0 d1
              go_upto_region 10 with (fail)
              go_quiet (fail)
              all_goals
                go_wp2_with fail
                go_roundw
                case rel => exact ⟨m + 1, by go_num, by omega, by rw [HSTEP.out, HH.out], HI.out.keep ((Only.refl _ _).drewN _)⟩
                case measure => simp [intOf]; omega
            | true =>
              rw [he] at heq
              have hh : hitB p h v = cnts p v := by unfold hitB; rw [he]; rfl
              have HH := Lib.hid hh
              obtain ⟨γ, hγ⟩ : ∃ γ, γ = cnts p v := ⟨_, rfl⟩
              have hct : ∀ W, Calls Tryz.prog 45 #[.agg #[.int .i64 p.id, .int .i64 p.role, .int .i64 p.pub], .agg (vtC v).toArray] W fun e w' => e = .returned (.bool γ) ∧ Only NoneOf W w' := fun W => by rw [hγ]; exact rcounts_any p HPK.out v vo W
              have HCT := Lib.hid hct
              have HG := Lib.hid hγ
              have q0 : ∀ W, Only NoneOf wr W → W.cell? ⟨g3, o3 + k * 3, none⟩ = some (.int .i64 p.id) := fun W ho => ho.cell_some (hrp 0 _ rfl) (fun e => e)
              have q1 : ∀ W, Only NoneOf wr W → W.cell? ⟨g3, o3 + k * 3 + 1, none⟩ = some (.int .i64 p.role) := fun W ho => ho.cell_some (hrp 1 _ rfl) (fun e => e)
              have q2 : ∀ W, Only NoneOf wr W → W.cell? ⟨g3, o3 + k * 3 + 2, none⟩ = some (.int .i64 p.pub) := fun W ho => ho.cell_some (hrp 2 _ rfl) (fun e => e)
              have e0 : ∀ W, Only NoneOf wr W → (hdLoad (.pointer (some ⟨g, o + m * 36 + 1, none⟩))).run Tryz.prog W = .ok (.agg (hdC v.head).toArray) W := fun W ho => hd_load (range_head (rng_only hrv ho) hl) hl
              have e1 : ∀ W, Only NoneOf wr W → (hdLoad (.pointer (some ⟨B, 0, none⟩))).run Tryz.prog W = .ok (.agg (hdC h).toArray) W := fun W ho => hd_load (blk_range (Blk.only HI.out.h ho (fun e => e))) HL.out
              have e2 : ∀ W, Only NoneOf wr W → (vtLoad (.pointer (some ⟨g, o + m * 36, none⟩))).run Tryz.prog W = .ok (.agg (vtC v).toArray) W := fun W ho => vt_load (rng_only hrv ho) hl
              have hS0 : Only NoneOf wr wr.drew := (Only.refl _ _).drew
              clear hct hγ hh he hr hr3 hv hstep vo d0 d1
              go_upto_region 10 with (fail)
              go_region_held3 (fun w' => Only NoneOf wr w') (first | assumption)
                (first
                  | (go_at_call 45; refine (HCT.out _).mono ?_; rintro e5 w5 ⟨rfl, ho5⟩; have hS5 : Only NoneOf wr w5 := Only.trans (by assumption) ho5; clear ho5))
              all_goals
                have HNEW := Lib.hid (HI.out.keep hS5)
                clear hS5 q0 q1 q2 e0 e1 e2 hrp hrv
                go_wp2_with fail
                go_roundw
                case rel => exact ⟨m + 1, by go_num, by omega, by rw [HSTEP.out, HH.out, HG.out], HNEW.out⟩
                case measure => simp [intOf]; omega
        · obtain rfl : m = L.length := by omega
          have hn : (O.take (k + 1)).countP (fun p => hasV L p h) = cn + if vb then 1 else 0 := by rw [HTK.out, EVB.out, List.take_length]
          have HN := Lib.hid hn
          clear hn
          cases vb with
          | true =>
            go_wp2_with fail
            go_roundw
            case rel => exact ⟨k + 1, by go_num, by rw [HN.out]; go_num, by omega, HI.out⟩
            case measure => simp [intOf]; omega
          | false =>
            go_wp2_with fail
            go_roundw
            case rel => exact ⟨k + 1, by go_num, by rw [HN.out]; rfl, by omega, HI.out⟩
            case measure => simp [intOf]; omega
    · obtain rfl : k = O.length := by omega
      have hfin : votesFor O L h = cn := by rw [votesFor_eq, ECN.out, List.take_length]
      rw [hfin] at HC
      have hcl : cn ≤ 1000 := by omega
      clear hfin
      go_wp2_with fail
      refine (HND.out _).mono ?_
      rintro e3 w3 ⟨rfl, rfl⟩
      go_wp2_with fail
      go_ret
      exact ⟨ret_bool HC.out.symm, HS.out.only⟩
end Go.Proofs.YtoehfainhmfghaaGreatDoor
