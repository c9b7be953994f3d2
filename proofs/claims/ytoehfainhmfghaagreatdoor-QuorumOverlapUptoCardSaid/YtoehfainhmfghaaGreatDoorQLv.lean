/- What is proved here: the law on two heads that do not agree and are both certified answers true. Conditions: the numbers are bytes, the bits words of 16; the table of powers of ten reads as its initialiser lays it. -/
import Derived.Test.YtoehfainhmfghaaGreatDoorQLk
import Derived.Test.YtoehfainhmfghaaGreatDoorQOv
import Derived.Test.YtoehfainhmfghaaGreatDoorQMs
import Derived.Test.YtoehfainhmfghaaGreatDoorN2
import Derived.Test.YtoehfainhmfghaaGreatDoorQui
namespace Go.Proofs.YtoehfainhmfghaaGreatDoor
open Go.RowKit Go.Shelf
attribute [local go_sem ↓ high] vtBs1_eq
/-- Two heads of one size. -/
theorem six_seven : agB (growB (listsG false)) (headI 6) (headI 7) = false := agB_same _ (fun e => by have := headI_eq.1 e; omega) rfl
set_option maxRecDepth 100000 in
set_option maxHeartbeats 4000000 in
theorem overlap_law (n : Nat) (hn : n < 256) (L : List Bal) (hok : BalsOk L) (sv : Value) (x y : Nat) (hx : x < 65536) (hy : y < 65536) (w : World) (hs : BalSl w sv L) (ht : Tab w) :
    Calls Tryz.prog 5 #[.int .u8 (n : Int), sv, .agg #[.int .u16 (x : Int), .int .u16 (y : Int)]] w fun e w' => e = .returned (.bool true) ∧ Only NoneOf w w' := by
  obtain ⟨m, em⟩ : ∃ m : Nat, m = n % 14 := ⟨_, rfl⟩
  have hm : m < 14 := by omega
  have hin : In (m : Int) := ⟨by omega, by omega⟩
  have kt : (n : Int).tmod 14 = (m : Int) := by rw [em, Int.tmod_eq_emod_of_nonneg (by omega)]; omega
  have kw1 : IntKind.u8.wrap (m : Int) = (m : Int) := by rw [IntKind.wrap_u8]; omega
  have kw2 : IntKind.i64.wrap (m : Int) = (m : Int) := IntWalk.i64_in _ (by omega)
  have hnm : nOff (m : Int) = m := by unfold nOff; omega
  have hsu : ∀ W, Calls Tryz.prog 16 #[.int .i64 (m : Int), .bool false] W fun e' w' => ∃ pv, e' = .returned (setV pv) ∧ PerSl w' pv (setB m) ∧ Only NoneOf W w' := fun W => (setupO_any (m : Int) hin false W).mono (fun e' w' ⟨pv, h1, h2, h3⟩ => ⟨pv, h1, by rw [hnm, setO_false] at h2; exact h2, h3⟩)
  have hP : PersOk (setB m) := setB_ok m (by omega)
  have hPl : (setB m).length ≤ 1000 := by rw [setB_len]; omega
  have hlen := offs_setB_len m (by omega)
  obtain ⟨P, eP⟩ : ∃ P, P = setB m := ⟨_, rfl⟩
  rw [← eP] at hsu hP hPl hlen
  have hli : ∀ W, Calls Tryz.prog 18 #[.bool false] W fun e w' => ∃ gv, e = .returned gv ∧ GlSl w' gv (listsG false) ∧ Only NoneOf W w' := fun W => lists_any false W
  have hvs : ∀ W, Only NoneOf w W → Calls Tryz.prog 17 #[sv] W fun e w' => ∃ rv, e = .returned rv ∧ VtOwn w' W.heap.size rv (votesL L).length (votesL L) ∧ Only NoneOf W w' := fun W ho => rvotes_any L hok sv W (hs.only ho)
  have hsa : ∀ W, Only NoneOf w W → Calls Tryz.prog 11 #[] W fun e w' => e = .returned (.bool true) ∧ Only NoneOf W w' := fun W ho => sanity29 W (ht.none ho)
  have hsec : ∀ (k : Nat) W, k ≤ 14 → Calls Tryz.prog 23 #[.int .i64 (k : Int)] W fun e' w' => e' = .returned (.int .i64 (secI (k : Int))) ∧ w' = W := fun k W hk => secret_any (k : Int) (by omega) (by omega) W
  have hvt : ∀ (k : Nat) (h : Hd) W, k ≤ 14 → h.Ok → Only NoneOf w W → Calls Tryz.prog 12 #[.int .i64 (k : Int), .int .i64 (secI (k : Int)), .agg (hdC h).toArray] W fun e' w' => ∃ V : Vt, V.Ok ∧ e' = .returned (.agg (vtC V).toArray) ∧ Only NoneOf W w' := fun k h W hk hh ho => (qvote_any (k : Int) (secI k) h hh W (ht.none ho)).mono (fun e' w' ⟨h1, h2⟩ => ⟨_, vote_ok ⟨by omega, by omega⟩ hh, h1, h2⟩)
  have hhe : ∀ (k : Int) W, In k → Calls Tryz.prog 24 #[.int .i64 k] W fun e w' => e = .returned (.agg (hdC (headI k)).toArray) ∧ Only NoneOf W w' := fun k W hk => rhead_any k hk W
  obtain ⟨V, eV⟩ : ∃ V, V = votesL L := ⟨_, rfl⟩
  have hVo : VtsOk V := by rw [eV]; exact votesL_ok L
  have hVl : V.length ≤ 40 := by rw [eV]; exact votesL_len L
  rw [← eV] at hvs
  obtain ⟨q0, eq0⟩ : ∃ q, q = w.heap.size := ⟨_, rfl⟩
  obtain ⟨X0, eX0⟩ : ∃ X, X = w.alloc (.cells #[.int .u16 (x : Int), .int .u16 (y : Int)] 53) := ⟨_, rfl⟩
  have hX0 : Blk X0 q0 53 #[.int .u16 (x : Int), .int .u16 (y : Int)] ∧ Only NoneOf w X0 := by rw [eX0, eq0]; exact ⟨Blk.new w _ _, (Only.refl _ _).alloc _⟩
  have HX0 := Lib.hid hX0
  have EX0 := Lib.hid eX0
  have EQ0 := Lib.hid eq0
  have HSU := Lib.hid hsu
  have HLI := Lib.hid hli
  have HVS := Lib.hid hvs
  have HSA := Lib.hid hsa
  have HVO := Lib.hid hVo
  have HVL := Lib.hid hVl
  have HP := Lib.hid hP
  have HPL := Lib.hid hPl
  have HLEN := Lib.hid hlen
  have HSEC := Lib.hid hsec
  have HVT := Lib.hid hvt
  have HHE := Lib.hid hhe
  have HT := Lib.hid ht
  clear hsu hli hvs hsa hVo hVl ht eV em hok hs hn hP hPl hlen eP hsec hvt hhe hX0 eX0 eq0 hnm
  go_enter Tryz.func5, Tryz.ntmps5
  go_upto_region 1 with (fail)
  rw [← EQ0.out, ← EX0.out]
  refine wp_gen (fun Z => Blk Z q0 53 #[.int .u16 (x : Int), .int .u16 (y : Int)] ∧ Only NoneOf w Z) HX0.out ?_
  intro Z hZ
  have HZ := Lib.hid hZ
  clear hZ HX0 EX0 EQ0
  go_wp2_with fail
  refine (HSA.out _ HZ.out.2).mono ?_
  rintro e1 w1 ⟨rfl, ho1⟩
  have HZ1 := Lib.hid (And.intro (HZ.out.1.only ho1 (fun e => e)) (HZ.out.2.trans ho1))
  clear ho1 HSA HZ
  go_wp2_with fail
  refine (HSU.out _).mono ?_
  rintro e2 w2 ⟨pv, rfl, hpv, ho2⟩
  have HO2 := Lib.hid (HZ1.out.2.trans ho2)
  obtain ⟨pA, pcap, rfl, _, _, _⟩ := id hpv
  obtain ⟨B, eB⟩ : ∃ B, B = w2.heap.size := ⟨_, rfl⟩
  obtain ⟨X, eX⟩ : ∃ X, X = w2.alloc (.cells #[.slice pA P.length pcap, .int .i64 0, .slice none 0 0, .slice none 0 0, .int .i64 0, .int .i64 0] 39) := ⟨_, rfl⟩
  have hX1 : Blk X B tSu #[.slice pA P.length pcap, .int .i64 0, .slice none 0 0, .slice none 0 0, .int .i64 0, .int .i64 0] := by rw [eX, eB]; exact Blk.new w2 _ _
  have hX2 : Only NoneOf w2 X := by rw [eX]; exact (Only.refl _ _).alloc _
  have HX := Lib.hid (And.intro hX1 (And.intro (hpv.only hX2) (And.intro (HO2.out.trans hX2) ((HZ1.out.1.only ho2 (fun e => e)).only hX2 (fun e => e)))))
  have EB := Lib.hid eB
  have EX := Lib.hid eX
  clear hpv ho2 hX1 hX2 eB eX HO2 HSU HZ1
  unfold setV
  go_upto_region 4 with (fail)
  rw [← EB.out, ← EX.out]
  clear EB EX
  go_wp2_with fail
  refine (HVS.out _ HX.out.2.2.1).mono ?_
  rintro e3 w3 ⟨rv, rfl, hrv, ho3⟩
  have hS3 : OvS X V rv w3 := ⟨hrv, HVO.out, ho3⟩
  have HS3 := Lib.hid hS3
  have HLW : Hid (∀ M ov W, OvS X M ov W → LwS w B (.slice pA P.length pcap) P ov M W) := Lib.hid (fun M ov W h => ⟨HX.out.1.only h.only (fun e => e), HX.out.2.1.only h.only, h.own.sl h.ok, HX.out.2.2.1.trans h.only⟩)
  have HBX : Hid (∀ M ov W, OvS X M ov W → Blk W q0 53 #[.int .u16 (x : Int), .int .u16 (y : Int)]) := Lib.hid (fun M ov W h => HX.out.2.2.2.only h.only (fun e => e))
  clear hrv ho3 hS3 HX HVS
  obtain ⟨ie, zz, hie, hsz, hz, hzc, hby⟩ := vt_info
  have HIE := Lib.hid hie
  have HSZ := Lib.hid hsz
  have HZ := Lib.hid hz
  have HZC := Lib.hid hzc
  have HBY := Lib.hid hby
  clear hie hsz hz hzc hby
  go_wp2_with fail
  go_loopw [10, 11] (fun ov i wr => ∃ (k : Nat) (M : List Vt), i = .int .i64 k ∧ 1 ≤ k ∧ k ≤ m + 1 ∧ M.length ≤ 40 + 2 * k ∧ OvS X M ov wr) (fun _ i _ => 20 - (intOf i).toNat)
  case atStart => exact ⟨1, V, rfl, by omega, by omega, by have := HVL.out; omega, HS3.out⟩
  case round =>
    obtain ⟨k, M, rfl, hk1, hkm, hMl, hS⟩ := hrel
    have HS := Lib.hid hS
    clear hS HS3
    by_cases hlt : k ≤ m
    · have d1 : decide ((k : Int) ≤ (m : Int)) = true := decide_eq_true (by omega)
      go_wp2_with fail
      go_loopw [10, 12] (fun ov j wr => ∃ (q : Nat) (M' : List Vt), j = .int .i64 q ∧ q ≤ 2 ∧ M'.length ≤ 40 + 2 * k + q ∧ OvS X M' ov wr) (fun _ i _ => 2 - (intOf i).toNat)
      case atStart => exact ⟨0, M, rfl, by omega, by omega, HS.out⟩
      case round =>
        obtain ⟨q, M2, rfl, hq, hM2, hS2⟩ := hrel
        have HS2 := Lib.hid hS2
        by_cases hq2 : q < 2
        · obtain ⟨z, hz, hzc⟩ : ∃ z : Nat, z < 65536 ∧ wr.cell? ⟨q0, q, none⟩ = some (.int .u16 (z : Int)) := by
            have hq3 : q = 0 ∨ q = 1 := by omega
            rcases hq3 with rfl | rfl
            · exact ⟨x, hx, (HBX.out _ _ _ hS2).cell 0⟩
            · exact ⟨y, hy, (HBX.out _ _ _ hS2).cell 1⟩
          clear hS2
          have hqi : (q : Int) < 2 := by omega
          have hq0 : (0 : Int) ≤ (q : Int) := by omega
          go_wp2_with fail
          · refine (HSEC.out k _ (by omega)).mono ?_
            rintro e5 w5 ⟨rfl, rfl⟩
            go_wp2_with fail
            refine (HHE.out (6 + (q : Int)) _ ⟨by omega, by omega⟩).mono ?_
            rintro e6 w6 ⟨rfl, ho6⟩
            have HS6 := Lib.hid (HS2.out.keep ho6)
            clear ho6 hzc
            go_wp2_with fail
            refine (HVT.out k _ _ (by omega) (headI_ok _) ((HLW.out _ _ _ HS6.out).only)).mono ?_
            rintro e7 w7 ⟨Vn, hVn, rfl, ho7⟩
            have HS7 := Lib.hid (HS6.out.keep ho7)
            have HVN := Lib.hid hVn
            have hbs := bs1_run Vn hVn.head.root
            have hsz7 := HS7.out.size
            clear ho7 hVn
            go_wp2_with (at_builtin; refine wpList_append_lies _ rfl _ _ 41 rfl X.heap.size 30 ie zz 36 ie.bytes Tryz.underlying41 HIE.out HZ.out HSZ.out rfl HZC.out (by omega) u10 M2.length (M2.flatMap vtC) rfl (World.ownsRow.alloc HS7.out.own _) _ 1 1 (vtC Vn) rfl (by rw [vtC_len HVN.out.head.root]) (World.news_of_block (cs := (vtC Vn).toArray) (t := 30) (fr := (0, 0)) (NewB.new _ Vn)) (vtC_one Vn) (by omega) (by rw [maxLen_val]; omega) (by have := HBY.out; exact Nat.le_trans (Nat.mul_le_mul (show M2.length + 1 ≤ 100 by omega) this) (by omega)) (by simp; omega) _ rfl ?_; intro g3 cap3 w8 hown3 hgrow3 hat3 hlt3)
            have HNEW := Lib.hid (HS7.out.app HVN.out _ hown3 hgrow3)
            clear hown3 hgrow3 hat3 hlt3 hbs
            go_wp2_with fail
            go_roundw
            case rel => exact ⟨q + 1, M2 ++ [Vn], by go_num, by omega, by rw [List.length_append]; simp; omega, HNEW.out⟩
            case measure => simp [intOf]; omega
          · exact ⟨⟨q + 1, M2, by go_num, by omega, by omega, HS2.out⟩, by simp [intOf]; omega⟩
        · obtain rfl : q = 2 := by omega
          clear hS2
          go_wp2_with fail
          go_roundw
          case rel => exact ⟨k + 1, M2, by go_num, by omega, by omega, by omega, HS2.out⟩
          case measure => simp [intOf]; omega
    · obtain rfl : k = m + 1 := by omega
      go_wp2_with fail
      refine (HLI.out _).mono ?_
      rintro e4 w4 ⟨gv, rfl, hgv, ho4⟩
      have hGok := listsG_ok false
      have h67 := six_seven
      have hS4 : LgS w B (.slice pA P.length pcap) P u10 M gv (listsG false) w4 := ⟨(HLW.out _ _ _ HS.out).keep ho4, hgv⟩
      obtain ⟨G, eG⟩ : ∃ G, G = listsG false := ⟨_, rfl⟩
      obtain ⟨h6, e6⟩ : ∃ h, h = headI 6 := ⟨_, rfl⟩
      obtain ⟨h7, e7⟩ : ∃ h, h = headI 7 := ⟨_, rfl⟩
      have o6 : h6.Ok := by rw [e6]; exact headI_ok _
      have o7 : h7.Ok := by rw [e7]; exact headI_ok _
      rw [← eG] at hGok h67 hS4
      rw [← e6, ← e7] at h67
      obtain ⟨c6, ec6⟩ : ∃ c, c = certB P h6 M := ⟨_, rfl⟩
      obtain ⟨c7, ec7⟩ : ∃ c, c = certB P h7 M := ⟨_, rfl⟩
      obtain ⟨C, eC⟩ : ∃ C, C = clashL (agB (growB G)) P M := ⟨_, rfl⟩
      have hCl : C.length ≤ m := by rw [eC, ← HLEN.out]; exact clashO_len _ _ _
      have hov : c6 = true → c7 = true → 2 * need m ≤ m + C.length ∧ (m : Int) < 3 * (C.length : Int) ∨ c6 = false := fun q6 q7 => by
        have h1 := overlap (agB_comm _) (agB_self _) h67 (ec6.symm.trans q6) (ec7.symm.trans q7)
        rw [HLEN.out, ← eC] at h1
        have h2 := (need_two m).1
        exact .inl ⟨h1, by omega⟩
      have hM5 : M.length ≤ 100000 := by omega
      have h1 : ∀ W, LgS w B (.slice pA P.length pcap) P u10 M gv G W → Calls Tryz.prog 20 #[.agg #[.slice pA P.length pcap, .int .i64 0, .slice none 0 0, .slice none 0 0, .int .i64 0, .int .i64 0], u10, .func (.func 21) #[gv] #[]] W fun e w' => ∃ ov, e = .returned ov ∧ BlSl w' ov C ∧ Only NoneOf w w' := fun W hW => by
        rw [eC]
        exact (clash_grow P HP.out HPL.out _ M HS.out.ok hM5 u10 G hGok gv W hW.l.per hW.l.vts hW.g (HT.out.none hW.l.only)).mono (fun e w' ⟨ov, h1, h2, h3⟩ => ⟨ov, h1, h2, hW.l.only.trans h3⟩)
      have hcq : ∀ (h : Hd) (ok : h.Ok) W, LgS w B (.slice pA P.length pcap) P u10 M gv G W → Calls Tryz.prog 25 #[.agg #[.slice pA P.length pcap, .int .i64 0, .slice none 0 0, .slice none 0 0, .int .i64 0, .int .i64 0], .agg (hdC h).toArray, u10] W fun e w' => e = .returned (.bool (certB P h M)) ∧ Only NoneOf W w' := fun h ok W hW => qcert_any P HP.out HPL.out _ h ok M HS.out.ok hM5 u10 W hW.l.per hW.l.vts (HT.out.none hW.l.only)
      obtain ⟨I, F, hI, hF0, hF, hFS⟩ := family (LgS w B (.slice pA P.length pcap) P u10 M gv G) (hS4.keep (Only.refl _ _).drew)
      have H1 := Lib.hid h1
      have C6 : Hid (∀ x, Calls Tryz.prog 25 #[.agg #[.slice pA P.length pcap, .int .i64 0, .slice none 0 0, .slice none 0 0, .int .i64 0, .int .i64 0], .agg (hdC h6).toArray, u10] (F x) fun e w' => e = .returned (.bool c6) ∧ ∃ y, w' = F y) := Lib.hid (fun x => by rw [ec6]; exact (hcq h6 o6 _ (hFS x)).mono (fun e w' hh => ⟨hh.1, (hF w').1 ((hFS x).keep hh.2)⟩))
      have C7 : Hid (∀ x, Calls Tryz.prog 25 #[.agg #[.slice pA P.length pcap, .int .i64 0, .slice none 0 0, .slice none 0 0, .int .i64 0, .int .i64 0], .agg (hdC h7).toArray, u10] (F x) fun e w' => e = .returned (.bool c7) ∧ ∃ y, w' = F y) := Lib.hid (fun x => by rw [ec7]; exact (hcq h7 o7 _ (hFS x)).mono (fun e w' hh => ⟨hh.1, (hF w').1 ((hFS x).keep hh.2)⟩))
      have D6 : Hid (∀ x, Calls Tryz.prog 24 #[.int .i64 6] (F x) fun e w' => e = .returned (.agg (hdC h6).toArray) ∧ ∃ y, w' = F y) := Lib.hid (fun x => by rw [e6]; exact (HHE.out 6 (F x) ⟨by omega, by omega⟩).mono (fun e w' hh => ⟨hh.1, (hF w').1 ((hFS x).keep hh.2)⟩))
      have D7 : Hid (∀ x, Calls Tryz.prog 24 #[.int .i64 7] (F x) fun e w' => e = .returned (.agg (hdC h7).toArray) ∧ ∃ y, w' = F y) := Lib.hid (fun x => by rw [e7]; exact (HHE.out 7 (F x) ⟨by omega, by omega⟩).mono (fun e w' hh => ⟨hh.1, (hF w').1 ((hFS x).keep hh.2)⟩))
      have hc := fun x => (hFS x).l.cells
      have c0 := fun x => (hc x).1
      have c1 := fun x => (hc x).2.1
      have c2 := fun x => (hc x).2.2.1
      have c3 := fun x => (hc x).2.2.2.1
      have c4 := fun x => (hc x).2.2.2.2.1
      have c5 := fun x => (hc x).2.2.2.2.2
      have HF := Lib.hid hF
      have HF0 := Lib.hid hF0
      have HOV := Lib.hid hov
      have HCL := Lib.hid hCl
      clear hc hFS hF hF0 hS4 hov hCl e6 e7 ec6 ec7 eC h67 hgv ho4 o6 o7 eG hGok h1 hcq
      go_upto_region 14 with (fail)
      cases c6 with
      | false =>
        refine wp_region_family F (by kernel_rfl) (by kernel_rfl) HF0.out ?_
        repeat (go_big_quiet_step (first | (with_reducible exact D6.out _) | (with_reducible exact C6.out _)))
        refine wpQuiet_nil ?_
        intro w9 hw9
        have HO := Lib.hid ((HF.out w9).2 hw9).l.only
        clear hw9 c0 c1 c2 c3 c4 c5
        go_wp2_with fail
        go_ret
        exact ⟨rfl, HO.out⟩
      | true =>
        cases c7 with
        | false =>
          refine wp_region_family F (by kernel_rfl) (by kernel_rfl) HF0.out ?_
          repeat (go_big_quiet_step (first | (with_reducible exact D6.out _) | (with_reducible exact C6.out _) | (with_reducible exact D7.out _) | (with_reducible exact C7.out _)))
          refine wpQuiet_nil ?_
          intro w9 hw9
          have HO := Lib.hid ((HF.out w9).2 hw9).l.only
          clear hw9 c0 c1 c2 c3 c4 c5
          go_wp2_with fail
          go_ret
          exact ⟨rfl, HO.out⟩
        | true =>
          refine wp_region_family F (by kernel_rfl) (by kernel_rfl) HF0.out ?_
          repeat (go_big_quiet_step (first | (with_reducible exact D6.out _) | (with_reducible exact C6.out _) | (with_reducible exact D7.out _) | (with_reducible exact C7.out _)))
          refine wpQuiet_nil ?_
          intro w9 hw9
          have hS9 := (HF.out w9).2 hw9
          have HS9 := Lib.hid hS9
          clear hw9 c0 c1 c2 c3 c4 c5
          obtain ⟨s0, s1, s2, s3, s4, s5⟩ := hS9.l.cells
          clear hS9
          go_wp2_with fail
          refine (H1.out _ HS9.out).mono ?_
          rintro e10 w10 ⟨ov, rfl, hbl, ho10⟩
          obtain ⟨bA, bcap, rfl, _, _, _⟩ := hbl
          have HO10 := Lib.hid ho10
          have hov2 : 2 * need m ≤ m + C.length ∧ (m : Int) < 3 * (C.length : Int) := by
            rcases HOV.out trivial trivial with h | h
            · exact h
            · cases h
          clear ho10 s0 s1 s2 s3 s4 s5 HOV
          obtain ⟨cn, ecn⟩ : ∃ cn, cn = C.length := ⟨_, rfl⟩
          have hcl := HCL.out
          rw [← ecn] at hov2 hcl ⊢
          obtain ⟨N, eN⟩ : ∃ N, N = need m := ⟨_, rfl⟩
          have hnd : ∀ W, Calls Tryz.prog 26 #[.int .i64 (m : Int)] W fun e w' => e = .returned (.int .i64 (N : Int)) ∧ w' = W := fun W => by rw [eN, ← needI_nat]; exact qneed_any (m : Int) ⟨by omega, by omega⟩ W
          rw [← eN] at hov2
          obtain ⟨k1, k2⟩ := hov2
          have hN30 : N ≤ 30 := by rw [eN]; unfold need; omega
          have hN1 : 1 ≤ N := by rw [eN]; unfold need; omega
          have hm0 : m ≠ 0 := by omega
          have HND := Lib.hid hnd
          clear hnd ecn eN HCL
          go_wp2_with fail
          refine (HND.out _).mono ?_
          rintro e11 w11 ⟨rfl, rfl⟩
          have q1 : decide (2 * (N : Int) - (m : Int) ≤ (cn : Int)) = true := decide_eq_true (by omega)
          have q2 : decide ((m : Int) < 3 * (cn : Int)) = true := decide_eq_true k2
          clear k1 k2
          have q3 : ((m : Int) == 0) = false := by simp; omega
          go_wp2_with fail
          go_ret
          exact ⟨rfl, HO10.out⟩
end Go.Proofs.YtoehfainhmfghaaGreatDoor
