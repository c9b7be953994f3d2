/- What is proved here: the law that the best head is certified, and that no other one is greater, answers true. Conditions: the numbers are bytes; the table of powers of ten reads as its initialiser lays it. -/
import Derived.Test.YtoehfainhmfghaaGreatDoorQLc
import Derived.Test.YtoehfainhmfghaaGreatDoorQui
namespace Go.Proofs.YtoehfainhmfghaaGreatDoor
open Go.RowKit Go.Shelf
attribute [local go_sem ↓ high] hdLoad_eq hdNew_eq hdStore_eq hdBd_eq
theorem hdBd_zero (W : World) : (hdBd #[]).run Tryz.prog W = .ok (.agg (hdC hd0).toArray) W := run_build (P := Tryz.prog) W 25 _ _ (by kernel_rfl)
/-- .. and the vote at hand. -/
structure LbS (w : World) (B : Nat) (pv : Value) (P : List Pers) (sv : Value) (L : List Vt) (N : Nat) (b : Hd) (g o : Nat) (v : Vt) (W : World) : Prop where
  l : LhS w B pv P sv L N b W
  r : W.rangeAt g o (vtC v)
set_option maxRecDepth 100000 in
set_option maxHeartbeats 4000000 in
theorem best_law (n : Nat) (hn : n < 256) (odd : Bool) (L : List Bal) (hok : BalsOk L) (sv : Value) (w : World) (hs : BalSl w sv L) (ht : Tab w) :
    Calls Tryz.prog 9 #[.int .u8 (n : Int), .bool odd, sv] w fun e w' => e = .returned (.bool true) ∧ Only NoneOf w w' := by
  obtain ⟨m, em⟩ : ∃ m : Int, m = (n : Int) % 14 := ⟨_, rfl⟩
  have hm : 0 ≤ m ∧ m < 14 := by omega
  have hin : In m := ⟨by omega, by omega⟩
  have kt : (n : Int).tmod 14 = m := by rw [em, Int.tmod_eq_emod_of_nonneg (by omega)]
  have kw1 : IntKind.u8.wrap m = m := by rw [IntKind.wrap_u8]; omega
  have kw2 : IntKind.i64.wrap m = m := IntWalk.i64_in _ (by omega)
  obtain ⟨P, eP⟩ : ∃ P, P = setO (nOff m) odd := ⟨_, rfl⟩
  have hP : PersOk P := by rw [eP]; exact setO_ok m odd
  have hPl : P.length ≤ 1000 := by rw [eP]; exact setO_small m odd
  have hsu : ∀ W, Calls Tryz.prog 16 #[.int .i64 m, .bool odd] W fun e' w' => ∃ pv, e' = .returned (setV pv) ∧ PerSl w' pv P ∧ Only NoneOf W w' := fun W => by rw [eP]; exact setupO_any m hin odd W
  have hvs : ∀ W, Only NoneOf w W → Calls Tryz.prog 17 #[sv] W fun e w' => ∃ rv, e = .returned rv ∧ VtOwn w' W.heap.size rv (votesL L).length (votesL L) ∧ Only NoneOf W w' := fun W ho => rvotes_any L hok sv W (hs.only ho)
  have hsa : ∀ W, Only NoneOf w W → Calls Tryz.prog 11 #[] W fun e w' => e = .returned (.bool true) ∧ Only NoneOf W w' := fun W ho => sanity29 W (ht.none ho)
  obtain ⟨V, eV⟩ : ∃ V, V = votesL L := ⟨_, rfl⟩
  have hVo : VtsOk V := by rw [eV]; exact votesL_ok L
  have hVl : V.length ≤ 40 := by rw [eV]; exact votesL_len L
  rw [← eV] at hvs
  have HSU := Lib.hid hsu
  have HVS := Lib.hid hvs
  have HSA := Lib.hid hsa
  have HP := Lib.hid hP
  have HPL := Lib.hid hPl
  have HVO := Lib.hid hVo
  have HVL := Lib.hid hVl
  have HT := Lib.hid ht
  clear hsu hvs hsa hP hPl hVo hVl ht eP eV em hok hs hin hn
  go_enter Tryz.func9, Tryz.ntmps9
  go_wp2_with fail
  refine (HSA.out _ (Only.refl _ _)).mono ?_
  rintro e1 w1 ⟨rfl, ho1⟩
  have HO1 := Lib.hid ho1
  clear ho1 HSA
  go_wp2_with fail
  refine (HSU.out _).mono ?_
  rintro e2 w2 ⟨pv, rfl, hpv, ho2⟩
  have HO2 := Lib.hid (HO1.out.trans ho2)
  obtain ⟨pA, pcap, rfl, _, _, _⟩ := id hpv
  obtain ⟨B, eB⟩ : ∃ B, B = w2.heap.size := ⟨_, rfl⟩
  obtain ⟨X, eX⟩ : ∃ X, X = w2.alloc (.cells #[.slice pA P.length pcap, .int .i64 0, .slice none 0 0, .slice none 0 0, .int .i64 0, .int .i64 0] 39) := ⟨_, rfl⟩
  have hX1 : Blk X B tSu #[.slice pA P.length pcap, .int .i64 0, .slice none 0 0, .slice none 0 0, .int .i64 0, .int .i64 0] := by rw [eX, eB]; exact Blk.new w2 _ _
  have hX2 : Only NoneOf w2 X := by rw [eX]; exact (Only.refl _ _).alloc _
  have HX := Lib.hid (And.intro hX1 (And.intro (hpv.only hX2) (HO2.out.trans hX2)))
  have EB := Lib.hid eB
  have EX := Lib.hid eX
  clear hpv ho2 hX1 hX2 eB eX HO2 HSU
  unfold setV
  go_upto_region 3 with (fail)
  rw [← EB.out, ← EX.out]
  clear EB EX
  go_wp2_with fail
  refine (HVS.out _ HX.out.2.2).mono ?_
  rintro e3 w3 ⟨rv, rfl, hrv, ho3⟩
  have hS3 : LwS w B (.slice pA P.length pcap) P rv V w3 := ⟨HX.out.1.only ho3 (fun e => e), HX.out.2.1.only ho3, hrv.sl HVO.out, HX.out.2.2.trans ho3⟩
  have HS3 := Lib.hid hS3
  have HCQ : Hid (∀ (h : Hd) (ok : h.Ok) W, LwS w B (.slice pA P.length pcap) P rv V W → Calls Tryz.prog 25 #[.agg #[.slice pA P.length pcap, .int .i64 0, .slice none 0 0, .slice none 0 0, .int .i64 0, .int .i64 0], .agg (hdC h).toArray, rv] W fun e w' => e = .returned (.bool (certB P h V)) ∧ Only NoneOf W w') := Lib.hid (fun h ok W hW => qcert_any P HP.out HPL.out _ h ok V HVO.out (Nat.le_trans HVL.out (by omega)) rv W hW.per hW.vts (HT.out.none hW.only))
  have HBQ : Hid (∀ W, LwS w B (.slice pA P.length pcap) P rv V W → Calls Tryz.prog 31 #[.agg #[.slice pA P.length pcap, .int .i64 0, .slice none 0 0, .slice none 0 0, .int .i64 0, .int .i64 0], rv] W fun e w' => ∃ o, BestOn (fun h => h ∈ V.map (·.head)) (fun h => certB P h V) o ∧ e = .returned (.tuple #[.agg (hdC (hdOr o)).toArray, .bool o.isSome]) ∧ Only NoneOf W w') := Lib.hid (fun W hW => qbest_any P HP.out HPL.out _ V HVO.out (Nat.le_trans HVL.out (by omega)) rv W hW.per hW.vts (HT.out.none hW.only))
  clear hrv ho3 hS3 HX HVS
  obtain ⟨s0, s1, s2, s3, s4, s5⟩ := HS3.out.cells
  go_wp2_with fail
  refine (HBQ.out _ HS3.out).mono ?_
  rintro e4 w4 ⟨o, hbo, rfl, ho4⟩
  have hok4 : (hdOr o).Ok := by
    cases o with
    | none => exact ⟨⟨by decide, by decide⟩, rfl⟩
    | some h =>
      obtain ⟨u, hu, eu⟩ := List.mem_map.1 hbo.1
      have := (HVO.out u hu).head
      rw [eu] at this
      exact this
  have hol := hok4.root
  have hst := hd_store_new w4 hol
  have hnw := hdNew_run
  have hL := (HS3.out.keep ho4).head (hdOr o) hol
  obtain ⟨N, eN⟩ : ∃ N, N = w4.heap.size := ⟨_, rfl⟩
  rw [← eN] at hL
  have HL := Lib.hid hL
  have EN := Lib.hid eN
  have HBO := Lib.hid hbo
  clear hL eN ho4 hbo s0 s1 s2 s3 s4 s5 HS3
  go_upto_region 5 with (fail)
  rw [← EN.out]
  refine wp_gen (LhS w B (.slice pA P.length pcap) P rv V N (hdOr o)) HL.out ?_
  intro Z hZ
  clear hst HL EN hnw
  obtain ⟨s0, s1, s2, s3, s4, s5⟩ := hZ.l.cells
  have HZ := Lib.hid hZ
  have l1 := hd_load (blk_range hZ.h) hol
  clear hZ
  go_cut [43] (fun bx wx => bx = .bool false ∧ LhS w B (.slice pA P.length pcap) P rv V N (hdOr o) wx)
  case first =>
    cases o with
    | none =>
      have q1 := fun W => neq_hd (hdOr none) (hdOr none) hol hol W
      rw [eqHd_self] at q1
      have q2 : ∀ W, (hdBd #[]).run Tryz.prog W = .ok (.agg (hdC (hdOr none)).toArray) W := hdBd_zero
      go_wp2_with fail
      go_meet
      case rel => exact ⟨rfl, HZ.out⟩
    | some h =>
      have hcb : certB P h V = true := HBO.out.2.1
      have hcq := HCQ.out h hok4 Z HZ.out.l
      rw [hcb] at hcq
      have HCB := Lib.hid hcq
      clear hcb hcq
      go_wp2_with fail
      refine HCB.out.mono ?_
      rintro e5 w5 ⟨rfl, ho5⟩
      have HZ5 := Lib.hid (HZ.out.keep ho5)
      clear ho5
      go_wp2_with fail
      go_meet
      case rel => exact ⟨rfl, HZ5.out⟩
  case rest =>
  obtain ⟨rfl, hcut⟩ := hcut
  have HC := Lib.hid hcut
  clear hcut HZ l1 s0 s1 s2 s3 s4 s5
  go_wp2_with fail
  go_loopw [12] (fun i wr => ∃ k : Nat, i = .int .i64 k ∧ k ≤ V.length ∧ LhS w B (.slice pA P.length pcap) P rv V N (hdOr o) wr) (fun i _ => V.length - (intOf i).toNat)
  case atStart => exact ⟨0, rfl, by omega, HC.out⟩
  case round =>
    obtain ⟨k, rfl, hk, hS⟩ := hrel
    obtain ⟨A2, cap2, rfl, hlc2, hcm2, hA2⟩ := id hS.l.vts
    have HS := Lib.hid hS
    have HA2 := Lib.hid hA2
    clear hS hA2
    by_cases hlt : k < V.length
    · obtain ⟨v, hv⟩ : ∃ v, V[k]? = some v := ⟨_, List.getElem?_eq_getElem hlt⟩
      obtain ⟨g, og, rfl, hg, hr⟩ := HA2.out k v hv
      have vo := HVO.out v (List.mem_of_getElem? hv)
      have hl := vo.head.root
      have ik : (k : Int) < (V.length : Int) := by omega
      have ik0 : (0 : Int) ≤ (k : Int) := by omega
      have hmem : v.head ∈ V.map (·.head) := List.mem_map.2 ⟨v, List.mem_of_getElem? hv, rfl⟩
      obtain ⟨h, eh⟩ : ∃ h, h = v.head := ⟨_, rfl⟩
      have hko : h.Ok := by rw [eh]; exact vo.head
      rw [← eh] at hl hmem
      obtain ⟨c, ec⟩ : ∃ c, c = certB P h V := ⟨_, rfl⟩
      have hS : LbS w B (.slice pA P.length pcap) P (.slice (some ⟨g, og, none⟩) V.length cap2) V N (hdOr o) g (og + k * 36) v wr.drew := ⟨HS.out.keep (Only.refl _ _).drew, rng_only hr (Only.refl _ _).drew⟩
      obtain ⟨I, F, hI, hF0, hF, hFS⟩ := family (LbS w B (.slice pA P.length pcap) P (.slice (some ⟨g, og, none⟩) V.length cap2) V N (hdOr o) g (og + k * 36) v) hS
      have hc := fun x => (hFS x).l.l.cells
      have c0 := fun x => (hc x).1
      have c1 := fun x => (hc x).2.1
      have c2 := fun x => (hc x).2.2.1
      have c3 := fun x => (hc x).2.2.2.1
      have c4 := fun x => (hc x).2.2.2.2.1
      have c5 := fun x => (hc x).2.2.2.2.2
      have ch : ∀ x, (hdLoad (.pointer (some ⟨g, og + k * 36 + 1, none⟩))).run Tryz.prog (F x) = .ok (.agg (hdC h).toArray) (F x) := fun x => by rw [eh]; exact hd_load (range_head (hFS x).r vo.head.root) vo.head.root
      have cz : ∀ x, (F x).cell? ⟨g, og + k * 36 + 1, none⟩ = some (.int .i64 h.size) := fun x => by rw [eh]; exact (hFS x).r 1 _ rfl
      have cb : ∀ x, (F x).cell? ⟨N, 0, none⟩ = some (.int .i64 (hdOr o).size) := fun x => Blk.cell (hFS x).l.h 0
      have H1 : Hid (∀ x, Calls Tryz.prog 25 #[.agg #[.slice pA P.length pcap, .int .i64 0, .slice none 0 0, .slice none 0 0, .int .i64 0, .int .i64 0], .agg (hdC h).toArray, .slice (some ⟨g, og, none⟩) V.length cap2] (F x) fun e w' => e = .returned (.bool c) ∧ ∃ y, w' = F y) := Lib.hid (fun x => by rw [ec]; exact (HCQ.out h hko (F x) (hFS x).l.l).mono (fun e w' hh => ⟨hh.1, (hF w').1 ⟨(hFS x).l.keep hh.2, rng_only (hFS x).r hh.2⟩⟩))
      have hbst : c = true → ∃ b, o = some b ∧ ¬ b.size < h.size := fun hc => by
        have h1 := HBO.out
        cases o with
        | none => have h2 : certB P h V = false := h1 h hmem; rw [← ec, hc] at h2; cases h2
        | some b =>
          refine ⟨b, rfl, fun hlt => ?_⟩
          have h2 : certB P h V = true := by rw [← ec]; exact hc
          rcases h1.2.2 h hmem h2 with e | e
          · rw [e] at hlt; omega
          · unfold above at e
            simp only [Bool.or_eq_true, decide_eq_true_eq, Bool.and_eq_true] at e
            omega
      have HF := Lib.hid hF
      have HF0 := Lib.hid hF0
      clear hmem hko eh vo hv hr HS ec hc hFS hF hF0 hS
      go_upto_region 10 with (fail)
      cases c with
      | false =>
        refine wp_region_family F (by kernel_rfl) (by kernel_rfl) HF0.out ?_
        repeat (go_big_quiet_step (exact H1.out _))
        refine wpQuiet_nil ?_
        intro w9 hw9
        have HNEW := Lib.hid ((HF.out w9).2 hw9).l
        clear hw9 c0 c1 c2 c3 c4 c5 ch cz cb
        go_wp2_with fail
        go_roundw
        case rel => (repeat (first | (exact ⟨k + 1, by go_num, by omega, HNEW.out⟩) | (refine ⟨undef, ?_⟩)))
        case measure => simp [intOf]; omega
      | true =>
        obtain ⟨b, eo, hbs⟩ := hbst rfl
        have hbs2 : decide ((hdOr o).size < h.size) = false := decide_eq_false (by rw [eo]; exact hbs)
        have hos : o.isSome = true := by rw [eo]; rfl
        clear eo hbs
        refine wp_region_family F (by kernel_rfl) (by kernel_rfl) HF0.out ?_
        repeat (go_big_quiet_step (exact H1.out _))
        refine wpQuiet_nil ?_
        intro w9 hw9
        have HNEW := Lib.hid ((HF.out w9).2 hw9).l
        clear hw9 c0 c1 c2 c3 c4 c5 ch cz cb
        go_wp2_with fail
        go_roundw
        case rel => (repeat (first | (exact ⟨k + 1, by go_num, by omega, HNEW.out⟩) | (refine ⟨undef, ?_⟩)))
        case measure => simp [intOf]; omega
    · obtain rfl : k = V.length := by omega
      have HO := Lib.hid HS.out.l.only
      go_wp2_with fail
      go_ret
      exact ⟨rfl, HO.out⟩
end Go.Proofs.YtoehfainhmfghaaGreatDoor
