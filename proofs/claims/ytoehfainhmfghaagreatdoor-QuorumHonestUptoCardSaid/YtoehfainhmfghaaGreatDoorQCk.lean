/- What is proved here: the officers who contradict themselves, by the reference. Conditions: the numbers are ints, roots have 32 bytes, there are few votes and persons. -/
import Derived.Test.YtoehfainhmfghaaGreatDoorQCl
import Derived.Test.YtoehfainhmfghaaGreatDoorN8
import Derived.Test.YtoehfainhmfghaaGreatDoorQui
namespace Go.Proofs.YtoehfainhmfghaaGreatDoor
open Go.RowKit Go.Shelf
attribute [local go_sem ↓ high] vtLoad_eq hdLoad_eq
theorem seekP_drop {ag : Hd → Hd → Bool} {p : Pers} {l : List Vt} {i : Nat} {v : Vt} (h : l[i]? = some v) : seekP ag p (l.drop i) = match (if cnts p v then laterP ag p v (l.drop (i + 1)) else none) with | some u => some (v, u) | none => seekP ag p (l.drop (i + 1)) := by
  have hlt := (List.getElem?_eq_some_iff.1 h).1
  have : l.drop i = v :: l.drop (i + 1) := by rw [List.drop_eq_getElem_cons hlt]; rw [List.getElem?_eq_getElem hlt] at h; rw [Option.some.inj h]
  rw [this]; rfl
theorem laterP_drop {ag : Hd → Hd → Bool} {p : Pers} {v u : Vt} {l : List Vt} {i : Nat} (h : l[i]? = some u) : laterP ag p v (l.drop i) = if !ag v.head u.head && cnts p u then some u else laterP ag p v (l.drop (i + 1)) := by
  have hlt := (List.getElem?_eq_some_iff.1 h).1
  have : l.drop i = u :: l.drop (i + 1) := by rw [List.drop_eq_getElem_cons hlt]; rw [List.getElem?_eq_getElem hlt] at h; rw [Option.some.inj h]
  rw [this]; rfl
/-- What the loop over the first votes keeps. -/
def CkI (W0 : World) (ag : Hd → Hd → Bool) (L : List Vt) (O : List Pers) (k : Nat) (p : Pers) (m : Nat) (β : Bool) (out : Value) (W : World) : Prop :=
  if β = true then ClS W0 ag L O (k + 1) out W else seekP ag p L = seekP ag p (L.drop m) ∧ ClS W0 ag L O k out W
/-- What the loop over the second votes keeps. -/
def CkJ (W0 : World) (ag : Hd → Hd → Bool) (L : List Vt) (O : List Pers) (k : Nat) (p : Pers) (v : Vt) (m q : Nat) (γ : Bool) (out : Value) (W : World) : Prop :=
  if γ = true then ClS W0 ag L O (k + 1) out W else laterP ag p v (L.drop (m + 1)) = laterP ag p v (L.drop q) ∧ ClS W0 ag L O k out W
theorem ClS.keep {W0 : World} {ag : Hd → Hd → Bool} {L : List Vt} {O : List Pers} {k : Nat} {out : Value} {W W' : World} (h : ClS W0 ag L O k out W) (ho : Only NoneOf W W') : ClS W0 ag L O k out W' :=
  ⟨own_only h.own ho (fun _ _ e => e), h.only.trans ho⟩
theorem blmOf_seek {ag : Hd → Hd → Bool} {L : List Vt} {p : Pers} : blmOf ag L p = (seekP ag p L).map (fun x => ⟨p.id, x.1, x.2⟩) := by rw [seekP_eq]; rfl
set_option maxRecDepth 100000 in
set_option maxHeartbeats 8000000 in
theorem rclash_any (P : List Pers) (hP : PersOk P) (hlen : P.length ≤ 1000) (pv : Value) (L : List Vt) (hok : VtsOk L) (hL : L.length ≤ 100000) (sv : Value) (G : List (List Hd)) (hG : GlOk G) (gv : Value) (w : World) (hp : PerSl w pv P) (hs : VtSl w sv L) (hg : GlSl w gv G) :
    Calls Tryz.prog 22 #[setV pv, sv, gv] w fun e w' => ∃ ov, e = .returned ov ∧ BlSl w' ov (clashL (agB (growB G)) P L) ∧ Only NoneOf w w' := by
  have hqo : ∀ W, Only NoneOf w W → Calls Tryz.prog 44 #[setV pv] W fun e w' => ∃ ov, e = .returned ov ∧ PerSl w' ov (offs P) ∧ Only NoneOf W w' := fun W ho => rqofficers_any P hlen pv W (hp.only ho)
  have hol : (offs P).length ≤ 1000 := Nat.le_trans (offs_len P) hlen
  have hO : PersOk (offs P) := hP.offs
  have hcl : clashL (agB (growB G)) P L = clashO (agB (growB G)) L (offs P) := rfl
  rw [hcl]
  have hra : ∀ W, Only NoneOf w W → ∀ a b : Hd, a.Ok → b.Ok → Calls Tryz.prog 46 #[gv, .agg (hdC a).toArray, .agg (hdC b).toArray] W fun e w' => e = .returned (.bool (agB (growB G) a b)) ∧ Only NoneOf W w' := fun W ho a b ha hb => ragree_any G hG gv a b ha hb W (hg.only ho)
  obtain ⟨ag, eag⟩ : ∃ ag, ag = agB (growB G) := ⟨_, rfl⟩
  rw [← eag] at hra ⊢
  obtain ⟨O, eO⟩ : ∃ O, O = offs P := ⟨_, rfl⟩
  rw [← eO] at hqo hol hO ⊢
  unfold setV at hqo ⊢
  obtain ⟨A2, cap2, rfl, hlc2, hcm2, hA2⟩ := hs
  obtain ⟨B, eB⟩ : ∃ B, B = w.heap.size := ⟨_, rfl⟩
  obtain ⟨X, eX⟩ : ∃ X, X = w.alloc (.cells #[pv, .int .i64 0, .slice none 0 0, .slice none 0 0, .int .i64 0, .int .i64 0] 39) := ⟨_, rfl⟩
  have x1 : Blk X B tSu #[pv, .int .i64 0, .slice none 0 0, .slice none 0 0, .int .i64 0, .int .i64 0] := by rw [eX, eB]; exact Blk.new w _ _
  have x3 : Only NoneOf w X := by rw [eX]; exact (Only.refl _ _).alloc _
  have HX := Lib.hid (And.intro x1 x3)
  have HQO := Lib.hid hqo
  have HPO := Lib.hid hO
  have HOK := Lib.hid hok
  have HRA := Lib.hid hra
  have HA2 := Lib.hid hA2
  have EX := Lib.hid eX
  have EB := Lib.hid eB
  clear x1 x3 hqo hO hok hra eX eB eO hcl hp hA2 hP hlen hg hG eag
  go_enter Tryz.func22, Tryz.ntmps22
  go_upto_region 1 with (fail)
  rw [← EB.out, ← EX.out]
  clear EB EX
  have c0 : X.cell? ⟨B, 0, none⟩ = some pv := HX.out.1.cell 0
  have c1 : X.cell? ⟨B, 1, none⟩ = some (.int .i64 0) := HX.out.1.cell 1
  have c2 : X.cell? ⟨B, 2, none⟩ = some (.slice none 0 0) := HX.out.1.cell 2
  have c3 : X.cell? ⟨B, 3, none⟩ = some (.slice none 0 0) := HX.out.1.cell 3
  have c4 : X.cell? ⟨B, 4, none⟩ = some (.int .i64 0) := HX.out.1.cell 4
  have c5 : X.cell? ⟨B, 5, none⟩ = some (.int .i64 0) := HX.out.1.cell 5
  go_wp2_with fail
  refine (HQO.out _ HX.out.2).mono ?_
  rintro e2 W0 ⟨pw, rfl, hov, ho2⟩
  obtain ⟨A, cap, rfl, hlc, hcm, hA⟩ := hov
  have HA := Lib.hid hA
  have HW0 := Lib.hid (HX.out.2.trans ho2)
  clear hA ho2 HX c0 c1 c2 c3 c4 c5 HQO
  obtain ⟨ie, z, hie, hsz, hz, hzc, hby⟩ := blm_info
  have HIE := Lib.hid hie
  have HSZ := Lib.hid hsz
  have HZ := Lib.hid hz
  have HZC := Lib.hid hzc
  have HBY := Lib.hid hby
  have hs0 : ClS W0 ag L O 0 (.slice none 0 0) W0 := ⟨⟨rfl, .inl ⟨rfl, rfl⟩⟩, Only.refl _ _⟩
  have HS0 := Lib.hid hs0
  clear hie hsz hz hzc hby hs0
  go_wp2_with fail
  go_loopw [8, 9] (fun ov i wr => ∃ k : Nat, i = .int .i64 k ∧ k ≤ O.length ∧ ClS W0 ag L O k ov wr) (fun _ i _ => O.length - (intOf i).toNat)
  case atStart => exact ⟨0, rfl, Nat.zero_le _, HS0.out⟩
  case round =>
    obtain ⟨k, rfl, hk, hS⟩ := hrel
    have HS := Lib.hid hS
    clear hS
    by_cases hlt : k < O.length
    · obtain ⟨p, hp⟩ : ∃ p, O[k]? = some p := ⟨_, List.getElem?_eq_getElem hlt⟩
      obtain ⟨g, o, hA', hg, hr⟩ := HA.out k p hp
      subst hA'
      have hpo := HPO.out p (List.mem_of_getElem? hp)
      have ik : (k : Int) < (O.length : Int) := by omega
      have ik0 : (0 : Int) ≤ (k : Int) := by omega
      have htk := clashO_take (ag := ag) (L := L) hp
      rw [blmOf_seek] at htk
      have hI0 : CkI W0 ag L O k p 0 false u8 wr := ⟨rfl, HS.out⟩
      have HR := Lib.hid hr
      have HTK := Lib.hid htk
      have HPK := Lib.hid hpo
      have HI0 := Lib.hid hI0
      clear hr htk hpo hI0 hp HS
      obtain ⟨wo, rfl⟩ : ∃ wo : World, wo = wr := ⟨_, rfl⟩
      go_wp2_with fail
      go_loopw [8, 10, 11] (fun out fd i wi => ∃ (m : Nat) (β : Bool), i = .int .i64 m ∧ m ≤ L.length ∧ fd = .bool β ∧ CkI W0 ag L O k p m β out wi) (fun _ _ i _ => L.length - (intOf i).toNat)
      case atStart => exact ⟨0, false, rfl, Nat.zero_le _, rfl, HI0.out⟩
      case round =>
        obtain ⟨m, β, rfl, hm, rfl, hI⟩ := hrel
        have HI := Lib.hid hI
        clear hI HI0
        cases β with
        | true =>
          have HNEW : Hid (ClS W0 ag L O (k + 1) u8 wr) := Lib.hid HI.out
          by_cases hml : m < L.length
          · have d1 : decide ((m : Int) < (L.length : Int)) = true := decide_eq_true (by omega)
            go_wp2_with fail
            go_roundw
            case rel => exact ⟨k + 1, by go_num, by omega, HNEW.out⟩
            case measure => simp [intOf]; omega
          · have d1 : decide ((m : Int) < (L.length : Int)) = false := decide_eq_false (by omega)
            go_wp2_with fail
            go_roundw
            case rel => exact ⟨k + 1, by go_num, by omega, HNEW.out⟩
            case measure => simp [intOf]; omega
        | false =>
          have HSK : Hid (seekP ag p L = seekP ag p (L.drop m)) := Lib.hid HI.out.1
          have HSI : Hid (ClS W0 ag L O k u8 wr) := Lib.hid HI.out.2
          clear HI
          by_cases hml : m < L.length
          · have d1 : decide ((m : Int) < (L.length : Int)) = true := decide_eq_true (by omega)
            obtain ⟨v, hv⟩ : ∃ v, L[m]? = some v := ⟨_, List.getElem?_eq_getElem hml⟩
            obtain ⟨g2, o2, hA2', hg2, hr2⟩ := HA2.out m v hv
            subst hA2'
            have vo := HOK.out v (List.mem_of_getElem? hv)
            have hl := vo.head.root
            have im : (m : Int) < (L.length : Int) := by omega
            have im0 : (0 : Int) ≤ (m : Int) := by omega
            have hsd := seekP_drop (ag := ag) (p := p) hv
            obtain ⟨c, ec⟩ : ∃ c, c = cnts p v := ⟨_, rfl⟩
            rw [← ec] at hsd
            obtain ⟨I, F, hI, hF0, hF, hFS⟩ := family (fun W => Only NoneOf wr W) (W0 := wr.drew) (Only.refl _ _).drew
            have f0 : ∀ x, (F x).cell? ⟨g, o + k * 3, none⟩ = some (.int .i64 p.id) := fun x => (HSI.out.only.trans (hFS x)).cell_some (HR.out 0 _ rfl) (fun e => e)
            have f1 : ∀ x, (F x).cell? ⟨g, o + k * 3 + 1, none⟩ = some (.int .i64 p.role) := fun x => (HSI.out.only.trans (hFS x)).cell_some (HR.out 1 _ rfl) (fun e => e)
            have f2 : ∀ x, (F x).cell? ⟨g, o + k * 3 + 2, none⟩ = some (.int .i64 p.pub) := fun x => (HSI.out.only.trans (hFS x)).cell_some (HR.out 2 _ rfl) (fun e => e)
            have fl : ∀ x, (vtLoad (.pointer (some ⟨g2, o2 + m * 36, none⟩))).run Tryz.prog (F x) = .ok (.agg (vtC v).toArray) (F x) := fun x => vt_load (rng_only hr2 ((HW0.out.trans HSI.out.only).trans (hFS x))) hl
            have H1 : Hid (∀ x, Calls Tryz.prog 45 #[.agg #[.int .i64 p.id, .int .i64 p.role, .int .i64 p.pub], .agg (vtC v).toArray] (F x) fun e w' => e = .returned (.bool c) ∧ ∃ y, w' = F y) := Lib.hid (fun x => by rw [ec]; exact (rcounts_any p HPK.out v vo (F x)).mono (fun e w' hh => ⟨hh.1, (hF w').1 ((hFS x).trans hh.2)⟩))
            have HF := Lib.hid hF
            have HF0 := Lib.hid hF0
            have HVO := Lib.hid vo
            have HSD := Lib.hid hsd
            have HR2 := Lib.hid hr2
            clear hF hF0 hFS vo hsd hr2 ec hv
            go_upto_region 10 with (fail)
            refine wp_region_family F (by kernel_rfl) (by kernel_rfl) HF0.out ?_
            repeat (go_big_quiet_step (exact H1.out _))
            refine wpQuiet_nil ?_
            intro w9 hw9
            have HO9 := Lib.hid ((HF.out w9).2 hw9)
            clear hw9 f0 f1 f2 fl H1 HF HF0 hI F I
            obtain ⟨out, eout⟩ : ∃ out : Value, out = u8 := ⟨_, rfl⟩
            subst eout
            have HS9 := Lib.hid (HSI.out.keep HO9.out)
            cases c with
            | false =>
              have hn : seekP ag p L = seekP ag p (L.drop (m + 1)) := by rw [HSK.out, HSD.out]; rfl
              have HN := Lib.hid hn
              clear hn
              obtain ⟨wo2, rfl⟩ : ∃ wo2 : World, wo2 = wr := ⟨_, rfl⟩
              go_wp2_with fail
              go_loopw [8, 10, 13] (fun ov fd j wj => out = ov ∧ fd = .bool false ∧ j = .int .i64 ((m + 1 : Nat) : Int) ∧ ClS W0 ag L O k out wj) (fun _ _ _ _ => 0)
              case atStart => exact ⟨rfl, rfl, by go_num, HS9.out⟩
              case round =>
                obtain ⟨rfl, rfl, rfl, hSj⟩ := hrel
                have HSJ : Hid (CkI W0 ag L O k p (m + 1) false out wr) := Lib.hid ⟨HN.out, hSj⟩
                clear hSj
                by_cases hm1 : m + 1 < L.length
                · have d2 : decide (((m + 1 : Nat) : Int) < (L.length : Int)) = true := decide_eq_true (by omega)
                  go_wp2_with fail
                  go_roundw
                  case rel => exact ⟨m + 1, false, by go_num, by omega, rfl, HSJ.out⟩
                  case measure => simp [intOf]; omega
                · have d2 : decide (((m + 1 : Nat) : Int) < (L.length : Int)) = false := decide_eq_false (by omega)
                  go_wp2_with fail
                  go_roundw
                  case rel => exact ⟨m + 1, false, by go_num, by omega, rfl, HSJ.out⟩
                  case measure => simp [intOf]; omega
            | true =>
              have hj0 : CkJ W0 ag L O k p v m (m + 1) false out w9 := ⟨rfl, HS9.out⟩
              have HJ0 := Lib.hid hj0
              clear hj0
              obtain ⟨wo2, rfl⟩ : ∃ wo2 : World, wo2 = wr := ⟨_, rfl⟩
              go_wp2_with fail
              go_loopw [8, 10, 13] (fun ov fd j wj => ∃ (q : Nat) (γ : Bool), j = .int .i64 q ∧ m + 1 ≤ q ∧ q ≤ L.length ∧ fd = .bool γ ∧ CkJ W0 ag L O k p v m q γ ov wj) (fun _ _ j _ => L.length - (intOf j).toNat)
              case atStart => exact ⟨m + 1, false, by go_num, by omega, by omega, rfl, HJ0.out⟩
              case round =>
                obtain ⟨q, γ, rfl, hmq, hq, rfl, hJ⟩ := hrel
                have HJ := Lib.hid hJ
                clear hJ HJ0
                cases γ with
                | true =>
                  have HNEW : Hid (CkI W0 ag L O k p (m + 1) true u8 wr) := Lib.hid HJ.out
                  by_cases hql : q < L.length
                  · have d2 : decide ((q : Int) < (L.length : Int)) = true := decide_eq_true (by omega)
                    go_wp2_with fail
                    go_roundw
                    case rel => exact ⟨m + 1, true, by go_num, by omega, rfl, HNEW.out⟩
                    case measure => simp [intOf]; omega
                  · have d2 : decide ((q : Int) < (L.length : Int)) = false := decide_eq_false (by omega)
                    go_wp2_with fail
                    go_roundw
                    case rel => exact ⟨m + 1, true, by go_num, by omega, rfl, HNEW.out⟩
                    case measure => simp [intOf]; omega
                | false =>
                  have HLA : Hid (laterP ag p v (L.drop (m + 1)) = laterP ag p v (L.drop q)) := Lib.hid HJ.out.1
                  have HSQ : Hid (ClS W0 ag L O k u8 wr) := Lib.hid HJ.out.2
                  clear HJ
                  by_cases hql : q < L.length
                  · have d2 : decide ((q : Int) < (L.length : Int)) = true := decide_eq_true (by omega)
                    obtain ⟨u, hu⟩ : ∃ u, L[q]? = some u := ⟨_, List.getElem?_eq_getElem hql⟩
                    obtain ⟨g3, o3, e3, _, hr3⟩ := HA2.out q u hu
                    simp only [Option.some.injEq, Addr.mk.injEq, and_true] at e3
                    obtain ⟨rfl, rfl⟩ := e3
                    have uo := HOK.out u (List.mem_of_getElem? hu)
                    have hul := uo.head.root
                    have iq : (q : Int) < (L.length : Int) := by omega
                    have iq0 : (0 : Int) ≤ (q : Int) := by omega
                    have hld := laterP_drop (ag := ag) (p := p) (v := v) hu
                    obtain ⟨α, eα⟩ : ∃ α, α = ag v.head u.head := ⟨_, rfl⟩
                    obtain ⟨c2, ec2⟩ : ∃ c, c = cnts p u := ⟨_, rfl⟩
                    rw [← eα, ← ec2] at hld
                    obtain ⟨out, eout⟩ : ∃ out : Value, out = u8 := ⟨_, rfl⟩
                    subst eout
                    obtain ⟨I, F, hI, hF0, hF, hFS⟩ := family (fun W => Only NoneOf wr W) (W0 := wr.drew) (Only.refl _ _).drew
                    have hWW : ∀ x, Only NoneOf W0 (F x) := fun x => HSQ.out.only.trans (hFS x)
                    have fa : ∀ x, (hdLoad (.pointer (some ⟨g2, o2 + m * 36 + 1, none⟩))).run Tryz.prog (F x) = .ok (.agg (hdC v.head).toArray) (F x) := fun x => hd_load (range_head (rng_only HR2.out (HW0.out.trans (hWW x))) hl) hl
                    have fb : ∀ x, (hdLoad (.pointer (some ⟨g2, o2 + q * 36 + 1, none⟩))).run Tryz.prog (F x) = .ok (.agg (hdC u.head).toArray) (F x) := fun x => hd_load (range_head (rng_only hr3 (HW0.out.trans (hWW x))) hul) hul
                    have H1 : Hid (∀ x, Calls Tryz.prog 46 #[gv, .agg (hdC v.head).toArray, .agg (hdC u.head).toArray] (F x) fun e w' => e = .returned (.bool α) ∧ ∃ y, w' = F y) := Lib.hid (fun x => by rw [eα]; exact (HRA.out (F x) (HW0.out.trans (hWW x)) v.head u.head HVO.out.head uo.head).mono (fun e w' hh => ⟨hh.1, (hF w').1 ((hFS x).trans hh.2)⟩))
                    have HF := Lib.hid hF
                    have HF0 := Lib.hid hF0
                    have HUO := Lib.hid uo
                    have HLD := Lib.hid hld
                    have HR3 := Lib.hid hr3
                    have HC2 := Lib.hid ec2
                    clear hF hF0 hFS uo hld hr3 ec2 eα hu hWW
                    go_upto_region 14 with (fail)
                    refine wp_region_family F (by kernel_rfl) (by kernel_rfl) HF0.out ?_
                    repeat (go_big_quiet_step (exact H1.out _))
                    refine wpQuiet_nil ?_
                    intro w8 hw8
                    have HO8 := Lib.hid ((HF.out w8).2 hw8)
                    clear hw8 fa fb H1 HF HF0 hI F I
                    obtain ⟨I, F, hI, hF0, hF, hFS⟩ := family (fun W => Only NoneOf w8 W) (W0 := w8.drew) (Only.refl _ _).drew
                    have hWW : ∀ x, Only NoneOf W0 (F x) := fun x => (HSQ.out.only.trans HO8.out).trans (hFS x)
                    have f0 : ∀ x, (F x).cell? ⟨g, o + k * 3, none⟩ = some (.int .i64 p.id) := fun x => (hWW x).cell_some (HR.out 0 _ rfl) (fun e => e)
                    have f1 : ∀ x, (F x).cell? ⟨g, o + k * 3 + 1, none⟩ = some (.int .i64 p.role) := fun x => (hWW x).cell_some (HR.out 1 _ rfl) (fun e => e)
                    have f2 : ∀ x, (F x).cell? ⟨g, o + k * 3 + 2, none⟩ = some (.int .i64 p.pub) := fun x => (hWW x).cell_some (HR.out 2 _ rfl) (fun e => e)
                    have fl : ∀ x, (vtLoad (.pointer (some ⟨g2, o2 + q * 36, none⟩))).run Tryz.prog (F x) = .ok (.agg (vtC u).toArray) (F x) := fun x => vt_load (rng_only HR3.out (HW0.out.trans (hWW x))) hul
                    have H1 : Hid (∀ x, Calls Tryz.prog 45 #[.agg #[.int .i64 p.id, .int .i64 p.role, .int .i64 p.pub], .agg (vtC u).toArray] (F x) fun e w' => e = .returned (.bool c2) ∧ ∃ y, w' = F y) := Lib.hid (fun x => by rw [HC2.out]; exact (rcounts_any p HPK.out u HUO.out (F x)).mono (fun e w' hh => ⟨hh.1, (hF w').1 ((hFS x).trans hh.2)⟩))
                    have HF := Lib.hid hF
                    have HF0 := Lib.hid hF0
                    clear hF hF0 hFS hWW
                    go_upto_region 15 with (fail)
                    cases α with
                    | true =>
                      refine wp_region_family F (by kernel_rfl) (by kernel_rfl) HF0.out ?_
                      repeat (go_big_quiet_step (exact H1.out _))
                      refine wpQuiet_nil ?_
                      intro w7 hw7
                      have HO7 := Lib.hid (HO8.out.trans ((HF.out w7).2 hw7))
                      clear hw7 f0 f1 f2 fl H1 HF HF0 hI F I
                      have hn : laterP ag p v (L.drop (m + 1)) = laterP ag p v (L.drop (q + 1)) := by rw [HLA.out, HLD.out]; rfl
                      have HNEW : Hid (CkJ W0 ag L O k p v m (q + 1) false out w7) := Lib.hid ⟨hn, HSQ.out.keep HO7.out⟩
                      clear hn
                      go_wp2_with fail
                      go_roundw
                      case rel => exact ⟨q + 1, false, by go_num, by omega, by omega, rfl, HNEW.out⟩
                      case measure => simp [intOf]; omega
                    | false =>
                      refine wp_region_family F (by kernel_rfl) (by kernel_rfl) HF0.out ?_
                      repeat (go_big_quiet_step (exact H1.out _))
                      refine wpQuiet_nil ?_
                      intro w7 hw7
                      have HO7 := Lib.hid (HO8.out.trans ((HF.out w7).2 hw7))
                      clear hw7 f0 f1 f2 fl H1 HF HF0 hI F I
                      cases c2 with
                      | false =>
                        have hn : laterP ag p v (L.drop (m + 1)) = laterP ag p v (L.drop (q + 1)) := by rw [HLA.out, HLD.out]; rfl
                        have HNEW : Hid (CkJ W0 ag L O k p v m (q + 1) false out w7) := Lib.hid ⟨hn, HSQ.out.keep HO7.out⟩
                        clear hn
                        go_wp2_with fail
                        go_roundw
                        case rel => exact ⟨q + 1, false, by go_num, by omega, by omega, rfl, HNEW.out⟩
                        case measure => simp [intOf]; omega
                      | true =>
                        have hsk2 : seekP ag p L = some (v, u) := by rw [HSK.out, HSD.out]; simp only [if_true]; rw [HLA.out, HLD.out]; rfl
                        have htk2 : clashO ag L (O.take (k + 1)) = clashO ag L (O.take k) ++ [⟨p.id, v, u⟩] := by rw [HTK.out, hsk2]; rfl
                        have hol2 : (clashO ag L (O.take k)).length ≤ 1000 := Nat.le_trans (clashO_len ag L _) (Nat.le_trans (List.length_take_le _ _) (by omega))
                        obtain ⟨n0, en0⟩ : ∃ n0, n0 = (clashO ag L (O.take k)).length := ⟨_, rfl⟩
                        obtain ⟨C0, eC0⟩ : ∃ C0, C0 = (clashO ag L (O.take k)).flatMap blmC := ⟨_, rfl⟩
                        obtain ⟨TA, eTA⟩ : ∃ T, T = vtT v := ⟨_, rfl⟩
                        obtain ⟨TB, eTB⟩ : ∃ T, T = vtT u := ⟨_, rfl⟩
                        have hS7 := HSQ.out.keep HO7.out
                        have hown5 : w7.ownsRow W0.heap.size 67 4 out n0 C0 := by rw [en0, eC0]; exact hS7.own
                        have hcells : (clashO ag L (O.take (k + 1))).flatMap blmC = C0 ++ [.int .i64 p.id, .int .i64 44, .string TA, .string TB] := by
                          rw [htk2, List.flatMap_append, eC0, eTA, eTB]; rfl
                        have hlen1 : (clashO ag L (O.take (k + 1))).length = n0 + 1 := by rw [htk2, List.length_append, en0]; rfl
                        have hS0 : Only NoneOf W0 w7.drew := hS7.only.drew
                        have hW0 : w7.drew.ownsRow W0.heap.size 67 4 out n0 C0 := hown5
                        have c0 : ∀ W, Only NoneOf W0 W → W.cell? ⟨g, o + k * 3, none⟩ = some (.int .i64 p.id) := fun W h => h.cell_some (HR.out 0 _ rfl) (fun e => e)
                        have l1 : ∀ W, Only NoneOf W0 W → (vtLoad (.pointer (some ⟨g2, o2 + m * 36, none⟩))).run Tryz.prog W = .ok (.agg (vtC v).toArray) W := fun W h => vt_load (rng_only HR2.out (HW0.out.trans h)) hl
                        have l2 : ∀ W, Only NoneOf W0 W → (vtLoad (.pointer (some ⟨g2, o2 + q * 36, none⟩))).run Tryz.prog W = .ok (.agg (vtC u).toArray) W := fun W h => vt_load (rng_only HR3.out (HW0.out.trans h)) hul
                        have HKP : Hid (∀ W W', Only NoneOf W0 W → Only NoneOf W W' → Only NoneOf W0 W') := Lib.hid (fun W W' h ho => h.trans ho)
                        have HAL : Hid (∀ (W : World) o, Only NoneOf W0 W → Only NoneOf W0 (W.alloc o)) := Lib.hid (fun W o h => h.alloc o)
                        have HOK2 : Hid (∀ W W' : World, W.ownsRow W0.heap.size 67 4 out n0 C0 → Only NoneOf W W' → W'.ownsRow W0.heap.size 67 4 out n0 C0) := Lib.hid (fun W W' h ho => own_only h ho (fun _ _ e => e))
                        have HWA : Hid (∀ W, Calls Tryz.prog 47 #[.agg (vtC v).toArray] W fun e w' => e = .returned (.string TA) ∧ Only NoneOf W w') := Lib.hid (fun W => by rw [eTA]; exact rqwritten_any v HVO.out W)
                        have HWB : Hid (∀ W, Calls Tryz.prog 47 #[.agg (vtC u).toArray] W fun e w' => e = .returned (.string TB) ∧ Only NoneOf W w') := Lib.hid (fun W => by rw [eTB]; exact rqwritten_any u HUO.out W)
                        have HFN : Hid (∀ W w2 g cap, Only NoneOf W0 W → W.ownsRow W0.heap.size 67 4 out n0 C0 → w2.ownsRow W0.heap.size 67 4 (.slice (some ⟨g, 0, none⟩) (n0 + 1) cap) (n0 + 1) (C0 ++ [.int .i64 p.id, .int .i64 44, .string TA, .string TB]) → (W.alloc (.cells #[.int .i64 p.id, .int .i64 44, .string TA, .string TB] 67)).grownBy w2 out.ownBlock → ClS W0 ag L O (k + 1) (.slice (some ⟨g, 0, none⟩) (n0 + 1) cap) w2 ∧ Only NoneOf W0 w2) := Lib.hid (fun W w2 g cap h how h1 h2 => by
                          have h3 : Only NoneOf W0 w2 := (h.alloc _).grown h2 (fun j e => .inr (own_ge how e).1)
                          refine ⟨⟨?_, h3⟩, h3⟩
                          unfold BlmOwn
                          rw [hcells, hlen1]
                          exact h1)
                        have HSZ5 : Hid (∀ W, Only NoneOf W0 W → W0.heap.size ≤ W.heap.size) := Lib.hid (fun W h => h.size)
                        have hn0 : n0 ≤ 1000 := by rw [en0]; exact hol2
                        clear hsk2 htk2 hol2 en0 eC0 eTA eTB hown5 hcells hlen1 hS7
                        go_upto_region 16 with (fail)
                        go_region_held3 (fun W => Only NoneOf W0 W) (first | (with_reducible assumption) | (with_reducible exact HAL.out _ _ (by with_reducible assumption)))
                          (first
                            | (refine step_append_lies _ (by rfl) _ _ _ (by rfl) W0.heap.size 67 ie z 4 48 Tryz.underlying47 HIE.out HZ.out HSZ.out HBY.out HZC.out (by omega) out n0 C0 (by rfl) (World.ownsRow.alloc (by with_reducible assumption) _) _ 1 1 [.int .i64 p.id, .int .i64 44, .string TA, .string TB] (by rfl) (by rfl) (World.news_of_block (cs := #[.int .i64 p.id, .int .i64 44, .string TA, .string TB]) (t := 67) (fr := (0, 0)) (heap_alloc_new _ _)) (by simp [Value.oneCell']) (by omega) (by rw [maxLen_val]; omega) (by omega) (HSZ5.out _ (by first | (with_reducible assumption) | (with_reducible exact HAL.out _ _ (by with_reducible assumption)))) _ rfl ?_; intro g9 cap9 w2 hown2 hgrow2 hat2 hlt2; have hNEW := HFN.out _ w2 g9 cap9 (by with_reducible assumption) (by with_reducible assumption) hown2 hgrow2; have hNX := hNEW.2; clear hown2 hgrow2 hat2 hlt2)
                            | (go_at_call 47; (with_reducible refine (HWA.out _).mono ?_); rintro e6 w6 ⟨rfl, ho6⟩; have hS6 := HKP.out _ _ (by with_reducible assumption) ho6; have hW6 := HOK2.out _ _ (by with_reducible assumption) ho6; clear ho6)
                            | (go_at_call 47; (with_reducible refine (HWB.out _).mono ?_); rintro e7 w7 ⟨rfl, ho7⟩; have hS7 := HKP.out _ _ (by with_reducible assumption) ho7; have hW7 := HOK2.out _ _ (by with_reducible assumption) ho7; clear ho7))
                        have HNEW : Hid (CkJ W0 ag L O k p v m (q + 1) true (.slice (some ⟨g9, 0, none⟩) (n0 + 1) cap9) w2) := Lib.hid hNEW.1
                        clear hNEW hNX hS0 hW0 c0 l1 l2
                        go_wp2_with fail
                        go_roundw
                        case rel => exact ⟨q + 1, true, by go_num, by omega, by omega, rfl, HNEW.out⟩
                        case measure => simp [intOf]; omega
                  · obtain rfl : q = L.length := by omega
                    have d2 : decide ((L.length : Int) < (L.length : Int)) = false := decide_eq_false (by omega)
                    have hn : seekP ag p L = seekP ag p (L.drop (m + 1)) := by
                      rw [HSK.out, HSD.out]; simp only [if_true]; rw [HLA.out, List.drop_length]; rfl
                    have HNEW : Hid (CkI W0 ag L O k p (m + 1) false u8 wr) := Lib.hid ⟨hn, HSQ.out⟩
                    clear hn
                    go_wp2_with fail
                    go_roundw
                    case rel => exact ⟨m + 1, false, by go_num, by omega, rfl, HNEW.out⟩
                    case measure => simp [intOf]; omega
          · obtain rfl : m = L.length := by omega
            have hn : clashO ag L (O.take (k + 1)) = clashO ag L (O.take k) := by
              rw [HTK.out, HSK.out, List.drop_length]
              simp [seekP]
            have hS2 : ClS W0 ag L O (k + 1) u8 wr := by
              refine ⟨?_, HSI.out.only⟩
              rw [hn]
              exact HSI.out.own
            have d1 : decide ((L.length : Int) < (L.length : Int)) = false := decide_eq_false (by omega)
            have HNEW := Lib.hid hS2
            clear hn hS2
            go_wp2_with fail
            go_roundw
            case rel => exact ⟨k + 1, by go_num, by omega, HNEW.out⟩
            case measure => simp [intOf]; omega
    · obtain rfl : k = O.length := by omega
      have hown := HS.out.own
      rw [List.take_length] at hown
      have HR : Hid (BlSl wr u8 (clashO ag L O)) := Lib.hid hown.sl
      have HO := Lib.hid (HW0.out.trans HS.out.only)
      clear hown
      go_wp2_with fail
      go_ret
      exact ⟨_, rfl, HR.out, HO.out⟩
end Go.Proofs.YtoehfainhmfghaaGreatDoor
