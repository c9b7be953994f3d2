/- What is proved here: the law on the order of votes answers true. Conditions: the numbers are bytes; the table of powers of ten reads as its initialiser lays it. -/
import Derived.Test.YtoehfainhmfghaaGreatDoorQLk
import Derived.Test.YtoehfainhmfghaaGreatDoorQOv
import Derived.Test.YtoehfainhmfghaaGreatDoorQMs
import Derived.Test.YtoehfainhmfghaaGreatDoorN5
import Derived.Test.YtoehfainhmfghaaGreatDoorQLc
import Derived.Test.YtoehfainhmfghaaGreatDoorQui
namespace Go.Proofs.YtoehfainhmfghaaGreatDoor
open Go.RowKit Go.Shelf
attribute [local go_sem ↓ high] vtBs1_eq vtBs2_eq vtLoad_eq hdLoad_eq sgLoad_eq hdNew_eq hdStore_eq
theorem setB_pub {m : Nat} {P : List Pers} (hP : P = setB m) {A : Option Addr} {cap : Nat} {W : World} (h : PerSl W (.slice A P.length cap) P) {i : Nat} (h1 : 1 ≤ i) (hi : i ≤ m) : ∃ g o, A = some ⟨g, o, none⟩ ∧ W.cell? ⟨g, o + i * 3 + 2, none⟩ = some (.int .i64 (pub (secI (i : Int)))) := by
  obtain ⟨A', cap', e, _, _, h3⟩ := h
  simp only [Value.slice.injEq] at e
  obtain ⟨rfl, -, rfl⟩ := e
  obtain ⟨g, o, rfl, _, hr⟩ := h3 i (offAt i) (by rw [hP]; exact setB_get h1 hi)
  exact ⟨g, o, rfl, hr 2 _ rfl⟩
/-- What the law keeps behind its first loop. -/
structure LoS (w : World) (B : Nat) (pv : Value) (P : List Pers) (sv : Value) (V : List Vt) (tv : Value) (T : List Vt) (gv : Value) (G : List Vt) (lv : Value) (GG : List (List Hd)) (W : World) : Prop where
  l : LwS w B pv P sv V W
  t : VtSl W tv T
  g : VtSl W gv G
  r : GlSl W lv GG
theorem LoS.keep {w : World} {B : Nat} {pv : Value} {P : List Pers} {sv : Value} {V : List Vt} {tv : Value} {T : List Vt} {gv : Value} {G : List Vt} {lv : Value} {GG : List (List Hd)} {W W' : World} (h : LoS w B pv P sv V tv T gv G lv GG W) (ho : Only NoneOf W W') : LoS w B pv P sv V tv T gv G lv GG W' :=
  ⟨h.l.keep ho, h.t.only ho, h.g.only ho, h.r.only ho⟩
/-- .. with a head, .. with two. -/
structure LoH (w : World) (B : Nat) (pv : Value) (P : List Pers) (sv : Value) (V : List Vt) (tv : Value) (T : List Vt) (gv : Value) (G : List Vt) (lv : Value) (GG : List (List Hd)) (N : Nat) (h : Hd) (W : World) : Prop where
  o : LoS w B pv P sv V tv T gv G lv GG W
  h : HdAt W N h
theorem LoH.keep {w : World} {B : Nat} {pv : Value} {P : List Pers} {sv : Value} {V : List Vt} {tv : Value} {T : List Vt} {gv : Value} {G : List Vt} {lv : Value} {GG : List (List Hd)} {N : Nat} {x : Hd} {W W' : World} (h : LoH w B pv P sv V tv T gv G lv GG N x W) (ho : Only NoneOf W W') : LoH w B pv P sv V tv T gv G lv GG N x W' :=
  ⟨h.o.keep ho, Blk.only h.h ho (fun e => e)⟩
theorem LoS.head {w : World} {B : Nat} {pv : Value} {P : List Pers} {sv : Value} {V : List Vt} {tv : Value} {T : List Vt} {gv : Value} {G : List Vt} {lv : Value} {GG : List (List Hd)} {W : World} (k : LoS w B pv P sv V tv T gv G lv GG W) (h : Hd) (hl : h.root.length = 32) : LoH w B pv P sv V tv T gv G lv GG W.heap.size h ((W.alloc (.cells hd0C 25)).setCells W.heap.size 0 (hdC h)) := by
  have hO7 : Only NoneOf W ((W.alloc (.cells hd0C 25)).setCells W.heap.size 0 (hdC h)) := only_setCells ((Only.refl _ _).alloc _) W.heap.size 0 (.inr (Nat.le_refl _)) _
  exact ⟨k.keep hO7, filled_whole (Blk.new W tHd hd0C) (by rw [hdC_len hl]; rfl)⟩
structure LoF (w : World) (B : Nat) (pv : Value) (P : List Pers) (sv : Value) (V : List Vt) (tv : Value) (T : List Vt) (gv : Value) (G : List Vt) (lv : Value) (GG : List (List Hd)) (N M : Nat) (h : Hd) (W : World) : Prop where
  o : LoS w B pv P sv V tv T gv G lv GG W
  a : HdAt W N h
  b : HdAt W M h
theorem LoF.keep {w : World} {B : Nat} {pv : Value} {P : List Pers} {sv : Value} {V : List Vt} {tv : Value} {T : List Vt} {gv : Value} {G : List Vt} {lv : Value} {GG : List (List Hd)} {N M : Nat} {x : Hd} {W W' : World} (h : LoF w B pv P sv V tv T gv G lv GG N M x W) (ho : Only NoneOf W W') : LoF w B pv P sv V tv T gv G lv GG N M x W' :=
  ⟨h.o.keep ho, Blk.only h.a ho (fun e => e), Blk.only h.b ho (fun e => e)⟩
set_option maxRecDepth 100000 in
set_option maxHeartbeats 4000000 in
theorem order_law (n : Nat) (hn : n < 256) (L : List Bal) (hok : BalsOk L) (sv : Value) (y : Nat) (hy : y < 256) (w : World) (hs : BalSl w sv L) (ht : Tab w) :
    Calls Tryz.prog 10 #[.int .u8 (n : Int), sv, .int .u8 (y : Int)] w fun e w' => e = .returned (.bool true) ∧ Only NoneOf w w' := by
  obtain ⟨m, em⟩ : ∃ m : Nat, m = n % 14 := ⟨_, rfl⟩
  have hm : m < 14 := by omega
  have hin : In (m : Int) := ⟨by omega, by omega⟩
  have kt : (n : Int).tmod 14 = (m : Int) := by rw [em, Int.tmod_eq_emod_of_nonneg (by omega)]; omega
  have kw1 : IntKind.u8.wrap (m : Int) = (m : Int) := by rw [IntKind.wrap_u8]; omega
  have kw2 : IntKind.i64.wrap (m : Int) = (m : Int) := IntWalk.i64_in _ (by omega)
  have kw3 : IntKind.i64.wrap (y : Int) = (y : Int) := IntWalk.i64_in _ (by omega)
  have hnm : nOff (m : Int) = m := by unfold nOff; omega
  have hsu : ∀ W, Calls Tryz.prog 16 #[.int .i64 (m : Int), .bool false] W fun e' w' => ∃ pv, e' = .returned (setV pv) ∧ PerSl w' pv (setB m) ∧ Only NoneOf W w' := fun W => (setupO_any (m : Int) hin false W).mono (fun e' w' ⟨pv, h1, h2, h3⟩ => ⟨pv, h1, by rw [hnm, setO_false] at h2; exact h2, h3⟩)
  have hP : PersOk (setB m) := setB_ok m (by omega)
  have hPl : (setB m).length ≤ 1000 := by rw [setB_len]; omega
  have hli : ∀ W, Calls Tryz.prog 18 #[.bool true] W fun e w' => ∃ gv, e = .returned gv ∧ GlSl w' gv (listsG true) ∧ Only NoneOf W w' := fun W => lists_any true W
  have hvs : ∀ W, Only NoneOf w W → Calls Tryz.prog 17 #[sv] W fun e w' => ∃ rv, e = .returned rv ∧ VtOwn w' W.heap.size rv (votesL L).length (votesL L) ∧ Only NoneOf W w' := fun W ho => rvotes_any L hok sv W (hs.only ho)
  have hsa : ∀ W, Only NoneOf w W → Calls Tryz.prog 11 #[] W fun e w' => e = .returned (.bool true) ∧ Only NoneOf W w' := fun W ho => sanity29 W (ht.none ho)
  have hhe : ∀ (k : Int) W, In k → Calls Tryz.prog 24 #[.int .i64 k] W fun e w' => e = .returned (.agg (hdC (headI k)).toArray) ∧ Only NoneOf W w' := fun k W hk => rhead_any k hk W
  obtain ⟨V, eV⟩ : ∃ V, V = votesL L := ⟨_, rfl⟩
  have hVo : VtsOk V := by rw [eV]; exact votesL_ok L
  have hVl : V.length ≤ 40 := by rw [eV]; exact votesL_len L
  rw [← eV] at hvs
  obtain ⟨P, eP⟩ : ∃ P, P = setB m := ⟨_, rfl⟩
  have hplen : P.length = m + 1 := by rw [eP, setB_len]
  rw [← eP] at hsu hP hPl
  have HSU := Lib.hid hsu
  have HLI := Lib.hid hli
  have HVS := Lib.hid hvs
  have HSA := Lib.hid hsa
  have HVO := Lib.hid hVo
  have HVL := Lib.hid hVl
  have HP := Lib.hid hP
  have HPL := Lib.hid hPl
  have HHE := Lib.hid hhe
  have HT := Lib.hid ht
  have EP := Lib.hid eP
  have HPLEN := Lib.hid hplen
  clear hsu hli hvs hsa hVo hVl ht eV em hok hs hn hP hPl hhe hnm eP hplen
  go_enter Tryz.func10, Tryz.ntmps10
  go_wp2_with fail
  refine (HSA.out _ (Only.refl _ _)).mono ?_
  rintro e1 w1 ⟨rfl, ho1⟩
  have HO1 := Lib.hid ho1
  clear ho1 HSA
  go_wp2_with fail
  refine (HSU.out _).mono ?_
  rintro e2 w2 ⟨pv, rfl, hpv, ho2⟩
  have HO2 := Lib.hid (HO1.out.trans ho2)
  obtain ⟨pA, pcap, rfl, _, _, _⟩ := id hpv
  obtain ⟨B, eB⟩ : ∃ B, B = w2.heap.size := ⟨_, rfl⟩
  obtain ⟨X, eX⟩ : ∃ X, X = w2.alloc (.cells #[.slice pA P.length pcap, .int .i64 0, .slice none 0 0, .slice none 0 0, .int .i64 0, .int .i64 0] 39) := ⟨_, rfl⟩
  have hX1 : Blk X B tSu #[.slice pA P.length pcap, .int .i64 0, .slice none 0 0, .slice none 0 0, .int .i64 0, .int .i64 0] := by rw [eX, eB]; exact Blk.new w2 _ _
  have hX2 : Only NoneOf w2 X := by rw [eX]; exact (Only.refl _ _).alloc _
  have HX := Lib.hid (And.intro hX1 (And.intro (hpv.only hX2) (HO2.out.trans hX2)))
  have EB := Lib.hid eB
  have EX := Lib.hid eX
  clear hpv ho2 hX1 hX2 eB eX HO2 HSU
  unfold setV
  go_upto_region 3 with (fail)
  rw [← EB.out, ← EX.out]
  clear EB EX
  go_wp2_with fail
  refine (HVS.out _ HX.out.2.2).mono ?_
  rintro e3 w3 ⟨rv, rfl, hrv, ho3⟩
  have hS3 : LwS w B (.slice pA P.length pcap) P rv V w3 := ⟨HX.out.1.only ho3 (fun e => e), HX.out.2.1.only ho3, hrv.sl HVO.out, HX.out.2.2.trans ho3⟩
  obtain ⟨A2, cap2, rfl, hlc2, hcm2, hA2⟩ := id hS3.vts
  have HS3 := Lib.hid hS3
  have HA2 := Lib.hid hA2
  have HLW : Hid (∀ W, Only NoneOf w3 W → LwS w B (.slice pA P.length pcap) P (.slice A2 V.length cap2) V W) := Lib.hid (fun W h => HS3.out.keep h)
  clear hrv ho3 hS3 HX HVS hA2
  obtain ⟨ie, zz, hie, hsz, hz, hzc, hby⟩ := vt_info
  have HIE := Lib.hid hie
  have HSZ := Lib.hid hsz
  have HZ := Lib.hid hz
  have HZC := Lib.hid hzc
  have HBY := Lib.hid hby
  clear hie hsz hz hzc hby
  go_wp2_with fail
  go_loopw [10, 11, 12] (fun tv gv i wr => ∃ (k : Nat) (T G : List Vt), i = .int .i64 k ∧ k ≤ V.length ∧ Turned V k T ∧ G = (V.take k).filter (goodV m) ∧ Ov2 w3 T G tv gv wr) (fun _ _ i _ => V.length - (intOf i).toNat)
  case atStart => exact ⟨0, [], [], rfl, by omega, Turned.zero V, rfl, Ov2.start w3⟩
  case round =>
    obtain ⟨k, T, G, rfl, hk, hTu, eG, hS⟩ := hrel
    have hTl := hTu.len
    have hGl : G.length ≤ 40 := by rw [eG]; exact Nat.le_trans (List.length_filter_le _ _) (Nat.le_trans (List.length_take_le _ _) (by have := HVL.out; omega))
    have HS := Lib.hid hS
    have HTU := Lib.hid hTu
    have EG := Lib.hid eG
    have hVl := HVL.out
    clear hS hTu eG
    by_cases hlt : k < V.length
    · obtain ⟨v, hv⟩ : ∃ v, V[k]? = some v := ⟨_, List.getElem?_eq_getElem hlt⟩
      obtain ⟨r, er⟩ : ∃ r, r = (k + y) % V.length := ⟨_, rfl⟩
      have hr : r < V.length := by rw [er]; exact Nat.mod_lt _ (by omega)
      obtain ⟨u, hu⟩ : ∃ u, V[r]? = some u := ⟨_, List.getElem?_eq_getElem hr⟩
      obtain ⟨g, og, rfl, hg, hrv⟩ := HA2.out k v hv
      obtain ⟨g', og', hgo, _, hru⟩ := HA2.out r u hu
      simp only [Option.some.injEq, Addr.mk.injEq, and_true] at hgo
      obtain ⟨rfl, rfl⟩ := hgo
      have vo := HVO.out v (List.mem_of_getElem? hv)
      have uo := HVO.out u (List.mem_of_getElem? hu)
      have lv := vo.head.root
      have lu := uo.head.root
      have ik : (k : Int) < (V.length : Int) := by omega
      have ik0 : (0 : Int) ≤ (k : Int) := by omega
      have ir : (r : Int) < (V.length : Int) := by omega
      have ir0 : (0 : Int) ≤ (r : Int) := by omega
      have tr : ((k : Int) + (y : Int)).tmod (V.length : Int) = (r : Int) := by rw [er, Int.tmod_eq_emod_of_nonneg (by omega), Int.natCast_emod, Int.natCast_add]
      have nz1 : ¬ ((V.length : Int) = 0) := by omega
      have nz2 : V.length ≠ 0 := by omega
      have kw4 : IntKind.i64.wrap ((k : Int) + (y : Int)) = (k : Int) + (y : Int) := IntWalk.i64_in _ (by omega)
      have wr1 : IntKind.i64.wrap (r : Int) = (r : Int) := IntWalk.i64_in _ (by omega)
      have lv1 : ∀ W, Only NoneOf w3 W → (vtLoad (.pointer (some ⟨g, og + k * 36, none⟩))).run Tryz.prog W = .ok (.agg (vtC v).toArray) W := fun W h => vt_load (rng_only hrv h) lv
      have lu1 : ∀ W, Only NoneOf w3 W → (vtLoad (.pointer (some ⟨g, og + r * 36, none⟩))).run Tryz.prog W = .ok (.agg (vtC u).toArray) W := fun W h => vt_load (rng_only hru h) lu
      have hb2 := bs2v_run u v lu lv
      have HTOK : Hid (∀ (hk' : True), Turned V (k + 1) (T ++ [u, v])) := Lib.hid (fun _ => HTU.out.more (List.mem_of_getElem? hu) hv)
      have HUV : Hid (VtsOk [u, v]) := Lib.hid (fun x hx => by
        simp only [List.mem_cons, List.not_mem_nil, or_false] at hx
        rcases hx with rfl | rfl <;> assumption)
      have HLUV : Hid ((vtC u ++ vtC v).length = 2 * 36) := Lib.hid (by rw [List.length_append, vtC_len lu, vtC_len lv])
      have hS0 : Only NoneOf w3 wr.drew := HS.out.only.drew
      have HSA : Hid (∀ o, Only NoneOf w3 (wr.alloc o).drew) := Lib.hid (fun o => (HS.out.only.alloc o).drew)
      have HOW : Hid (∀ o, ((wr.alloc o).drew).ownsRow w3.heap.size 30 36 u10 T.length (T.flatMap vtC)) := Lib.hid (fun o => (HS.out.keep ((Only.refl _ _).alloc o).drew).t)
      have HAP : Hid (∀ o w1 g cap, w1.ownsRow w3.heap.size 30 36 (.slice (some ⟨g, 0, none⟩) (T.length + 2) cap) (T.length + 2) (T.flatMap vtC ++ (vtC u ++ vtC v)) → ((wr.alloc o).drew).grownBy w1 u10.ownBlock → (u10.ownBlock = some g ∨ g = ((wr.alloc o).drew).heap.size) → Ov2 w3 (T ++ [u, v]) G (.slice (some ⟨g, 0, none⟩) (T.length + 2) cap) u11 w1) := Lib.hid (fun o w1 g cap h1 h3 h4 => (HS.out.keep ((Only.refl _ _).alloc o).drew).appT (N := [u, v]) HUV.out (by simpa using h1) h3 h4)
      have HRV := Lib.hid hrv
      have HVOO := Lib.hid vo
      have HV := Lib.hid hv
      clear hv hu hrv hru vo uo er lu lv
      go_upto_region 8 with (fail)
      go_region_held3 (fun W => Only NoneOf w3 W) (first | (with_reducible assumption) | (with_reducible exact HSA.out _))
        (first
          | (refine step_append_lies _ (by rfl) _ _ _ (by rfl) w3.heap.size 30 ie zz 36 ie.bytes Tryz.underlying41 HIE.out HZ.out HSZ.out rfl HZC.out (by omega) u10 T.length (T.flatMap vtC) (by rfl) (HOW.out _) _ 2 2 (vtC u ++ vtC v) (by rfl) HLUV.out (World.news_of_block (cs := (vtC u ++ vtC v).toArray) (t := 30) (fr := (0, 0)) (NewB2.newd _ u v)) (two_one u v) (by omega) (by rw [maxLen_val]; omega) (by have := HBY.out; exact Nat.le_trans (Nat.mul_le_mul (show T.length + 2 ≤ 100 by omega) this) (by omega)) (Only.size (HSA.out _)) _ rfl ?_; intro g2 cap2' w4 hown2 hgrow2 hat2 hlt2; have hLT := HAP.out _ w4 g2 cap2' hown2 hgrow2 hat2; have hS2 := hLT.only; clear hown2 hgrow2 hat2 hlt2))
      rw [hTl] at hLT
      have HT2 := Lib.hid (HTOK.out trivial)
      have HLT := Lib.hid hLT
      have c13 : w4.cell? ⟨g, og + k * 36, none⟩ = some (.int .i64 v.who) := rng_only HRV.out hLT.only 0 _ rfl
      obtain ⟨T2, eT2⟩ : ∃ T2, T2 = T ++ [u, v] := ⟨_, rfl⟩
      rw [← eT2] at HLT HT2
      obtain ⟨tv, etv⟩ : ∃ tv : Value, tv = .slice (some ⟨g2, 0, none⟩) (2 * k + 2) cap2' := ⟨_, rfl⟩
      rw [← etv] at HLT ⊢
      obtain ⟨a, ea⟩ : ∃ a, a = v.who := ⟨_, rfl⟩
      rw [← ea] at c13
      obtain ⟨F, hFx⟩ := family (Ov2 w3 T2 G tv u11) (HLT.out.keep (Only.refl _ _).drew)
      obtain ⟨f, hI, hF0, hF, hFS⟩ := hFx
      have hgood : (V.take (k + 1)).filter (goodV m) = G ++ (if goodV m v then [v] else []) := by
        rw [List.take_add_one, HV.out, Option.toList_some, List.filter_append, EG.out]
        cases hg : goodV m v <;> simp [hg]
      have HF := Lib.hid hF
      have HF0 := Lib.hid hF0
      have HFS := Lib.hid hFS
      have HGOOD := Lib.hid hgood
      have EA := Lib.hid ea
      clear hLT hS2 hF hF0 hFS hgood ea eT2 etv hb2 lv1 lu1 HOW HAP HSA hS0 HLUV HUV HTOK
      by_cases g1 : 1 ≤ a
      · have d1 : decide ((1 : Int) ≤ a) = true := decide_eq_true g1
        by_cases g2 : a ≤ (m : Int)
        · obtain ⟨i, ei⟩ : ∃ i : Nat, a = (i : Int) := ⟨a.toNat, by omega⟩
          have hi1 : 1 ≤ i := by omega
          have him : i ≤ m := by omega
          subst ei
          have d2 : decide ((i : Int) ≤ (m : Int)) = true := decide_eq_true (by omega)
          obtain ⟨gp, op, rfl, cp3⟩ := setB_pub EP.out HS3.out.per hi1 him
          obtain ⟨pk, epk⟩ : ∃ pk : Int, pk = pub (secI (i : Int)) := ⟨_, rfl⟩
          have hpk := gp_in (expo (secI (i : Int)))
          rw [← epk] at cp3
          have ii : (i : Int) < (P.length : Int) := by rw [HPLEN.out]; omega
          have ii0 : (0 : Int) ≤ (i : Int) := by omega
          obtain ⟨γ, hγ⟩ : ∃ γ, γ = goodB pk (hdText v.head) v.r v.s := ⟨_, rfl⟩
          have hgv : goodV m v = γ := by unfold goodV; rw [← EA.out, d1, d2, ← epk, ← hγ]; rfl
          obtain ⟨T1, hT1⟩ : ∃ A : ByteArray, A = hdT v.head := ⟨_, rfl⟩
          have vo := HVOO.out
          have z1 : T1.size ≤ 100 := by rw [hT1]; exact hdT_size vo.head
          have C1 : Hid (∀ x, Calls Tryz.prog 13 #[.agg (hdC v.head).toArray] (f x) (fun e' w' => e' = .returned (.string T1) ∧ ∃ y, w' = f y)) := Lib.hid (fun x => by rw [hT1]; exact (qtext_any v.head vo.head (f x) (HT.out.none (HLW.out _ (HFS.out x).only).only)).mono (fun e w' hh => ⟨hh.1, (HF.out w').1 ((HFS.out x).keep hh.2)⟩))
          have C2 : Hid (∀ x, Calls Tryz.prog 28 #[.int .i64 pk, .string T1, sgv v.r v.s] (f x) (fun e' w' => e' = .returned (.bool γ) ∧ ∃ y, w' = f y)) := Lib.hid (fun x => by
            have h := sverify_any pk v.r v.s T1 (f x) (by omega) (by rw [epk]; exact hpk.1) (by rw [epk]; exact hpk.2) vo.r.1 vo.r.2
            rw [hT1, hdT_list, ← hγ] at h
            rw [hT1]; exact h.mono (fun e w' hh => ⟨hh.1, (HF.out w').1 ((HFS.out x).keep hh.2)⟩))
          have c0 : ∀ x, (f x).cell? ⟨B, 0, none⟩ = some (.slice (some ⟨gp, op, none⟩) P.length pcap) := fun x => (HLW.out (f x) (HFS.out x).only).cells.1
          have cp : ∀ x, (f x).cell? ⟨gp, op + i * 3 + 2, none⟩ = some (.int .i64 pk) := fun x => (HFS.out x).only.cell_some cp3 (fun e => e)
          have ch : ∀ x, (hdLoad (.pointer (some ⟨g, og + k * 36 + 1, none⟩))).run Tryz.prog (f x) = .ok (.agg (hdC v.head).toArray) (f x) := fun x => hd_load (range_head (rng_only HRV.out (HFS.out x).only) vo.head.root) vo.head.root
          have cs : ∀ x, (sgLoad (.pointer (some ⟨g, og + k * 36 + 34, none⟩))).run Tryz.prog (f x) = .ok (sgv v.r v.s) (f x) := fun x => sg_load (range_sig (rng_only HRV.out (HFS.out x).only) vo.head.root)
          have HGV := Lib.hid hgv
          clear hgv hγ epk hpk cp3 hT1 z1 vo
          go_upto_region 10 with (fail)
          refine wp_region_family f (by kernel_rfl) (by kernel_rfl) HF0.out ?_
          repeat (go_big_quiet_step (first | (with_reducible exact C1.out _) | (with_reducible exact C2.out _)))
          refine wpQuiet_nil ?_
          intro w9 hw9
          have hS9 := (HF.out w9).2 hw9
          have HS9 := Lib.hid hS9
          clear hw9 c0 cp ch cs c13 d1 d2
          cases γ with
          | false =>
            clear hS9
            go_wp2_with fail
            go_roundw
            case rel => exact ⟨k + 1, T2, G, by go_num, by omega, HT2.out, by rw [HGOOD.out, HGV.out]; simp, HS9.out⟩
            case measure => simp [intOf]; omega
          | true =>
            have hld := vt_load (rng_only HRV.out hS9.only) HVOO.out.head.root
            have hbs := bs1_run v HVOO.out.head.root
            have hsz9 := HS9.out.size
            have HV1 : Hid (VtsOk [v]) := Lib.hid (fun x hx => by rw [List.mem_singleton.1 hx]; exact HVOO.out)
            clear hS9
            go_wp2_with (at_builtin; refine wpList_append_lies _ rfl _ _ 41 rfl w3.heap.size 30 ie zz 36 ie.bytes Tryz.underlying41 HIE.out HZ.out HSZ.out rfl HZC.out (by omega) u11 G.length (G.flatMap vtC) rfl (World.ownsRow.alloc HS9.out.g _) _ 1 1 (vtC v) rfl (by rw [vtC_len HVOO.out.head.root]) (World.news_of_block (cs := (vtC v).toArray) (t := 30) (fr := (0, 0)) (NewB.new _ v)) (vtC_one v) (by omega) (by rw [maxLen_val]; omega) (by have := HBY.out; exact Nat.le_trans (Nat.mul_le_mul (show G.length + 1 ≤ 100 by omega) this) (by omega)) (by simp; omega) _ rfl ?_; intro g3 cap3 w10 hown3 hgrow3 hat3 hlt3)
            have HNEW := Lib.hid ((HS9.out.keep ((Only.refl _ _).alloc _)).swap.appT (N := [v]) HV1.out (by simpa using hown3) hgrow3 hat3).swap
            clear hown3 hgrow3 hat3 hlt3 hbs hld
            go_wp2_with fail
            go_roundw
            case rel => exact ⟨k + 1, T2, G ++ [v], by go_num, by omega, HT2.out, by rw [HGOOD.out, HGV.out]; simp, HNEW.out⟩
            case measure => simp [intOf]; omega
        · have d2 : decide (a ≤ (m : Int)) = false := decide_eq_false g2
          have HN : Hid (goodV m v = false) := Lib.hid (by unfold goodV; rw [← EA.out, d2]; simp)
          go_upto_region 10 with (fail)
          refine wp_region_family f (by kernel_rfl) (by kernel_rfl) HF0.out ?_
          repeat (go_big_quiet_step (fail))
          refine wpQuiet_nil ?_
          intro w9 hw9
          have HS9 := Lib.hid ((HF.out w9).2 hw9)
          clear hw9 c13 d1 d2
          go_wp2_with fail
          go_roundw
          case rel => exact ⟨k + 1, T2, G, by go_num, by omega, HT2.out, by rw [HGOOD.out, HN.out]; simp, HS9.out⟩
          case measure => simp [intOf]; omega
      · have d1 : decide ((1 : Int) ≤ a) = false := decide_eq_false g1
        have HN : Hid (goodV m v = false) := Lib.hid (by unfold goodV; rw [← EA.out, d1]; simp)
        go_upto_region 10 with (fail)
        refine wp_region_family f (by kernel_rfl) (by kernel_rfl) HF0.out ?_
        repeat (go_big_quiet_step (fail))
        refine wpQuiet_nil ?_
        intro w9 hw9
        have HS9 := Lib.hid ((HF.out w9).2 hw9)
        clear hw9 c13 d1
        go_wp2_with fail
        go_roundw
        case rel => exact ⟨k + 1, T2, G, by go_num, by omega, HT2.out, by rw [HGOOD.out, HN.out]; simp, HS9.out⟩
        case measure => simp [intOf]; omega
    · obtain rfl : k = V.length := by omega
      go_wp2_with fail
      refine (HLI.out _).mono ?_
      rintro e4 w4 ⟨lv, rfl, hlv, ho4⟩
      have hGok := listsG_ok true
      obtain ⟨GG, eGG⟩ : ∃ GG, GG = listsG true := ⟨_, rfl⟩
      rw [← eGG] at hGok hlv
      have hs0 := HS.out
      have hS4 : LoS w B (.slice pA P.length pcap) P (.slice A2 V.length cap2) V u10 T u11 G lv GG w4 := ⟨HLW.out _ (hs0.only.trans ho4), (hs0.t.sl hs0.okT).only ho4, (hs0.g.sl hs0.okG).only ho4, hlv⟩
      have HS4 := Lib.hid hS4
      have hGf : G = V.filter (goodV m) := by rw [EG.out, List.take_length]
      have hT8 : T.length ≤ 100000 := by omega
      have hG8 : G.length ≤ 100000 := by omega
      have hV8 : V.length ≤ 100000 := by omega
      have hcq : ∀ (xv : Value) (M : List Vt) (h : Hd) (c : Bool) W, h.Ok → VtsOk M → M.length ≤ 100000 → certB P h M = c → LwS w B (.slice pA P.length pcap) P (.slice A2 V.length cap2) V W → VtSl W xv M → Calls Tryz.prog 25 #[.agg #[.slice pA P.length pcap, .int .i64 0, .slice none 0 0, .slice none 0 0, .int .i64 0, .int .i64 0], .agg (hdC h).toArray, xv] W fun e w' => e = .returned (.bool c) ∧ Only NoneOf W w' := fun xv M h c W ok hM hl hc hW hx => by rw [← hc]; exact qcert_any P HP.out HPL.out _ h ok M hM hl xv W hW.per hx (HT.out.none hW.only)
      have HCQ : Hid (∀ (h : Hd) (c : Bool), h.Ok → certB P h V = c → ∀ W, LoS w B (.slice pA P.length pcap) P (.slice A2 V.length cap2) V u10 T u11 G lv GG W →
          (∀ xv, xv = .slice A2 V.length cap2 ∨ xv = u10 ∨ xv = u11 → Calls Tryz.prog 25 #[.agg #[.slice pA P.length pcap, .int .i64 0, .slice none 0 0, .slice none 0 0, .int .i64 0, .int .i64 0], .agg (hdC h).toArray, xv] W fun e w' => e = .returned (.bool c) ∧ Only NoneOf W w')) := Lib.hid (fun h c ok hc W hW xv hx => by
        rcases hx with rfl | rfl | rfl
        · exact hcq _ V h c W ok HVO.out hV8 hc hW.l hW.l.vts
        · exact hcq _ T h c W ok hs0.okT hT8 (by rw [← HTU.out.cert P h]; exact hc) hW.l hW.t
        · exact hcq _ G h c W ok hs0.okG hG8 (by rw [hGf, EP.out, ← good_cert (by omega) V h, ← EP.out]; exact hc) hW.l hW.g)
      have HBQ : Hid (∀ W, LoS w B (.slice pA P.length pcap) P (.slice A2 V.length cap2) V u10 T u11 G lv GG W → ∀ xv, xv = .slice A2 V.length cap2 ∨ xv = u10 → Calls Tryz.prog 31 #[.agg #[.slice pA P.length pcap, .int .i64 0, .slice none 0 0, .slice none 0 0, .int .i64 0, .int .i64 0], xv] W fun e w' => ∃ o, BestOn (fun h => h ∈ V.map (·.head)) (fun h => certB P h V) o ∧ e = .returned (.tuple #[.agg (hdC (hdOr o)).toArray, .bool o.isSome]) ∧ Only NoneOf W w') := Lib.hid (fun W hW xv hx => by
        rcases hx with rfl | rfl
        · exact qbest_any P HP.out HPL.out _ V HVO.out hV8 _ W hW.l.per hW.l.vts (HT.out.none hW.l.only)
        · exact (qbest_any P HP.out HPL.out _ T hs0.okT hT8 _ W hW.l.per hW.t (HT.out.none hW.l.only)).mono (fun e w' ⟨o, h1, h2, h3⟩ => ⟨o, HTU.out.best P h1, h2, h3⟩))
      obtain ⟨C, eC⟩ : ∃ C, C = clashL (agB (growB GG)) P V := ⟨_, rfl⟩
      have HKL : Hid (∀ W, LoS w B (.slice pA P.length pcap) P (.slice A2 V.length cap2) V u10 T u11 G lv GG W → ∀ xv, xv = .slice A2 V.length cap2 ∨ xv = u11 → Calls Tryz.prog 20 #[.agg #[.slice pA P.length pcap, .int .i64 0, .slice none 0 0, .slice none 0 0, .int .i64 0, .int .i64 0], xv, .func (.func 21) #[lv] #[]] W fun e w' => ∃ ov, e = .returned ov ∧ BlSl w' ov C ∧ Only NoneOf W w') := Lib.hid (fun W hW xv hx => by
        rcases hx with rfl | rfl
        · rw [eC]; exact clash_grow P HP.out HPL.out _ V HVO.out hV8 _ GG hGok lv W hW.l.per hW.l.vts hW.r (HT.out.none hW.l.only)
        · rw [eC, EP.out, good_clash (by omega) _ V, ← EP.out, ← hGf]; exact clash_grow P HP.out HPL.out _ G hs0.okG hG8 _ GG hGok lv W hW.l.per hW.g hW.r (HT.out.none hW.l.only))
      clear hlv ho4 hGok eGG hs0 hS4 hGf hT8 hG8 hV8 hcq eC HLI HIE HSZ HZ HZC HBY HS3 HA2 HLW hTl hGl
      go_wp2_with fail
      go_loopw [15] (fun i wr => ∃ k : Nat, i = .int .i64 k ∧ k ≤ 8 ∧ LoS w B (.slice pA P.length pcap) P (.slice A2 V.length cap2) V u10 T u11 G lv GG wr) (fun i _ => 8 - (intOf i).toNat)
      case atStart => exact ⟨0, rfl, by omega, HS4.out⟩
      case round =>
        obtain ⟨k, rfl, hk, hS⟩ := hrel
        have HSR := Lib.hid hS
        clear hS
        by_cases hk8 : k < 8
        · have ik : (k : Int) < 8 := by omega
          obtain ⟨h, eh⟩ : ∃ h, h = headI (k : Int) := ⟨_, rfl⟩
          have hko : h.Ok := by rw [eh]; exact headI_ok _
          have hl := hko.root
          have hst := fun W => hd_store_new W hl
          have hnw := hdNew_run
          have HKO := Lib.hid hko
          have HHK : Hid (∀ W, Calls Tryz.prog 24 #[.int .i64 (k : Int)] W fun e w' => e = .returned (.agg (hdC h).toArray) ∧ Only NoneOf W w') := Lib.hid (fun W => by rw [eh]; exact HHE.out (k : Int) W ⟨by omega, by omega⟩)
          clear eh hko
          go_wp2_with fail
          refine (HHK.out _).mono ?_
          rintro e5 w5 ⟨rfl, ho5⟩
          have hL := (HSR.out.keep ho5).head h hl
          obtain ⟨N, eN⟩ : ∃ N, N = w5.heap.size := ⟨_, rfl⟩
          rw [← eN] at hL
          have HL := Lib.hid hL
          have EN := Lib.hid eN
          clear hL eN ho5
          go_upto_region 17 with (fail)
          rw [← EN.out]
          refine wp_gen (LoH w B (.slice pA P.length pcap) P (.slice A2 V.length cap2) V u10 T u11 G lv GG N h) HL.out ?_
          intro Z hZ
          clear hst hnw HL EN
          obtain ⟨c, ec⟩ : ∃ c, certB P h V = c := ⟨_, rfl⟩
          have HC := Lib.hid (HCQ.out h c HKO.out ec)
          obtain ⟨s0, s1, s2, s3, s4, s5⟩ := hZ.o.l.cells
          have l1 := hd_load (blk_range hZ.h) hl
          have HZ := Lib.hid hZ
          have hne : (c != c) = false := by simp
          clear hZ ec
          go_wp2_with fail
          refine (HC.out _ HZ.out.o _ (.inl rfl)).mono ?_
          rintro e6 w6 ⟨rfl, ho6⟩
          have hZ6 := HZ.out.keep ho6
          clear s0 s1 s2 s3 s4 s5 l1 ho6
          obtain ⟨s0, s1, s2, s3, s4, s5⟩ := hZ6.o.l.cells
          have l1 := hd_load (blk_range hZ6.h) hl
          have HZ6 := Lib.hid hZ6
          clear hZ6
          go_wp2_with fail
          refine (HC.out _ HZ6.out.o _ (.inr (.inl rfl))).mono ?_
          rintro e7 w7 ⟨rfl, ho7⟩
          have hZ7 := HZ6.out.keep ho7
          clear s0 s1 s2 s3 s4 s5 l1 ho7
          obtain ⟨s0, s1, s2, s3, s4, s5⟩ := hZ7.o.l.cells
          have l1 := hd_load (blk_range hZ7.h) hl
          have HZ7 := Lib.hid hZ7
          clear hZ7
          go_wp2_with fail
          refine (HC.out _ HZ7.out.o _ (.inr (.inr rfl))).mono ?_
          rintro e8 w8 ⟨rfl, ho8⟩
          have HZ8 := Lib.hid (HZ7.out.keep ho8)
          clear s0 s1 s2 s3 s4 s5 l1 ho8
          go_wp2_with fail
          go_roundw
          case rel => exact ⟨k + 1, by go_num, by omega, HZ8.out.o⟩
          case measure => simp [intOf]; omega
        · obtain rfl : k = 8 := by omega
          obtain ⟨s0, s1, s2, s3, s4, s5⟩ := HSR.out.l.cells
          go_wp2_with fail
          refine (HBQ.out _ HSR.out _ (.inl rfl)).mono ?_
          rintro e4 w4 ⟨o, hbo, rfl, ho4⟩
          have hol : (hdOr o).root.length = 32 := by
            cases o with
            | none => rfl
            | some h =>
              obtain ⟨u, hu, eu⟩ := List.mem_map.1 hbo.1
              have := (HVO.out u hu).head.root
              rw [eu] at this
              exact this
          have hst := hd_store_new w4 hol
          have hnw := hdNew_run
          have hL := (HSR.out.keep ho4).head (hdOr o) hol
          obtain ⟨N, eN⟩ : ∃ N, N = w4.heap.size := ⟨_, rfl⟩
          rw [← eN] at hL
          have HL := Lib.hid hL
          have EN := Lib.hid eN
          have HBO := Lib.hid hbo
          clear hL eN ho4 hbo s0 s1 s2 s3 s4 s5
          go_upto_region 21 with (fail)
          rw [← EN.out]
          refine wp_gen (LoH w B (.slice pA P.length pcap) P (.slice A2 V.length cap2) V u10 T u11 G lv GG N (hdOr o)) HL.out ?_
          intro Z hZ
          obtain ⟨s0, s1, s2, s3, s4, s5⟩ := hZ.o.l.cells
          have HZ := Lib.hid hZ
          clear hst HL EN hZ
          go_wp2_with fail
          refine (HBQ.out _ HZ.out.o _ (.inr rfl)).mono ?_
          rintro e5 w5 ⟨o', hbo', rfl, ho5⟩
          obtain rfl : o' = o := hbo'.unique HBO.out
          have hst := hd_store_new w5 hol
          have hL2 := (HZ.out.keep ho5)
          have hL := hL2.o.head (hdOr o') hol
          have hN : N < w5.heap.size := Blk.lt hL2.h
          obtain ⟨M, eM⟩ : ∃ M, M = w5.heap.size := ⟨_, rfl⟩
          have hL3 : HdAt ((w5.alloc (.cells hd0C 25)).setCells M 0 (hdC (hdOr o'))) N (hdOr o') := Blk.farCells (by omega) _ 0 (Blk.alloc hL2.h _)
          rw [← eM] at hL
          have hF : LoF w B (.slice pA P.length pcap) P (.slice A2 V.length cap2) V u10 T u11 G lv GG N M (hdOr o') ((w5.alloc (.cells hd0C 25)).setCells M 0 (hdC (hdOr o'))) := ⟨hL.o, hL3, hL.h⟩
          have HF := Lib.hid hF
          have EM := Lib.hid eM
          clear hL eM ho5 hbo' s0 s1 s2 s3 s4 s5 HZ hL2 hL3 hN HBO hF
          go_upto_region 22 with (fail)
          rw [← EM.out]
          obtain ⟨hh, ehh⟩ : ∃ hh, hh = hdOr o' := ⟨_, rfl⟩
          rw [← ehh] at HF hol ⊢
          clear ehh
          refine wp_gen (LoF w B (.slice pA P.length pcap) P (.slice A2 V.length cap2) V u10 T u11 G lv GG N M hh) HF.out ?_
          intro Z2 hZ2
          have q1 := fun W => eql_hd hh hh hol hol W
          rw [eqHd_self] at q1
          have q2 : (o'.isSome == o'.isSome) = true := by simp
          have hS : LoF w B (.slice pA P.length pcap) P (.slice A2 V.length cap2) V u10 T u11 G lv GG N M hh Z2.drew := hZ2.keep (Only.refl _ _).drew
          have c0 : ∀ W, LoF w B (.slice pA P.length pcap) P (.slice A2 V.length cap2) V u10 T u11 G lv GG N M hh W → W.cell? ⟨B, 0, none⟩ = some (.slice pA P.length pcap) := fun W hW => hW.o.l.cells.1
          have c1 : ∀ W, LoF w B (.slice pA P.length pcap) P (.slice A2 V.length cap2) V u10 T u11 G lv GG N M hh W → W.cell? ⟨B, 1, none⟩ = some (.int .i64 0) := fun W hW => hW.o.l.cells.2.1
          have c2 : ∀ W, LoF w B (.slice pA P.length pcap) P (.slice A2 V.length cap2) V u10 T u11 G lv GG N M hh W → W.cell? ⟨B, 2, none⟩ = some (.slice none 0 0) := fun W hW => hW.o.l.cells.2.2.1
          have c3 : ∀ W, LoF w B (.slice pA P.length pcap) P (.slice A2 V.length cap2) V u10 T u11 G lv GG N M hh W → W.cell? ⟨B, 3, none⟩ = some (.slice none 0 0) := fun W hW => hW.o.l.cells.2.2.2.1
          have c4 : ∀ W, LoF w B (.slice pA P.length pcap) P (.slice A2 V.length cap2) V u10 T u11 G lv GG N M hh W → W.cell? ⟨B, 4, none⟩ = some (.int .i64 0) := fun W hW => hW.o.l.cells.2.2.2.2.1
          have c5 : ∀ W, LoF w B (.slice pA P.length pcap) P (.slice A2 V.length cap2) V u10 T u11 G lv GG N M hh W → W.cell? ⟨B, 5, none⟩ = some (.int .i64 0) := fun W hW => hW.o.l.cells.2.2.2.2.2
          have ca : ∀ W, LoF w B (.slice pA P.length pcap) P (.slice A2 V.length cap2) V u10 T u11 G lv GG N M hh W → (hdLoad (.pointer (some ⟨N, 0, none⟩))).run Tryz.prog W = .ok (.agg (hdC hh).toArray) W := fun W hW => hd_load (blk_range hW.a) hol
          have cb : ∀ W, LoF w B (.slice pA P.length pcap) P (.slice A2 V.length cap2) V u10 T u11 G lv GG N M hh W → (hdLoad (.pointer (some ⟨M, 0, none⟩))).run Tryz.prog W = .ok (.agg (hdC hh).toArray) W := fun W hW => hd_load (blk_range hW.b) hol
          have K1 : Hid (∀ W, LoF w B (.slice pA P.length pcap) P (.slice A2 V.length cap2) V u10 T u11 G lv GG N M hh W → Calls Tryz.prog 20 #[.agg #[.slice pA P.length pcap, .int .i64 0, .slice none 0 0, .slice none 0 0, .int .i64 0, .int .i64 0], .slice A2 V.length cap2, .func (.func 21) #[lv] #[]] W fun e w' => ∃ ov, e = .returned ov ∧ BlSl w' ov C ∧ Only NoneOf W w' ∧ LoF w B (.slice pA P.length pcap) P (.slice A2 V.length cap2) V u10 T u11 G lv GG N M hh w') := Lib.hid (fun W hW => (HKL.out W hW.o _ (.inl rfl)).mono (fun e w' ⟨ov, h1, h2, h3⟩ => ⟨ov, h1, h2, h3, hW.keep h3⟩))
          have K2 : Hid (∀ W, LoF w B (.slice pA P.length pcap) P (.slice A2 V.length cap2) V u10 T u11 G lv GG N M hh W → Calls Tryz.prog 20 #[.agg #[.slice pA P.length pcap, .int .i64 0, .slice none 0 0, .slice none 0 0, .int .i64 0, .int .i64 0], u11, .func (.func 21) #[lv] #[]] W fun e w' => ∃ ov, e = .returned ov ∧ BlSl w' ov C ∧ Only NoneOf W w' ∧ LoF w B (.slice pA P.length pcap) P (.slice A2 V.length cap2) V u10 T u11 G lv GG N M hh w') := Lib.hid (fun W hW => (HKL.out W hW.o _ (.inr rfl)).mono (fun e w' ⟨ov, h1, h2, h3⟩ => ⟨ov, h1, h2, h3, hW.keep h3⟩))
          have K5 : Hid (∀ av bv W, LoF w B (.slice pA P.length pcap) P (.slice A2 V.length cap2) V u10 T u11 G lv GG N M hh W → BlSl W av C → BlSl W bv C → Calls Tryz.prog 19 #[av, bv] W fun e w' => e = .returned (.bool true) ∧ LoF w B (.slice pA P.length pcap) P (.slice A2 V.length cap2) V u10 T u11 G lv GG N M hh w') := Lib.hid (fun av bv W hW ha hb => (same_any C av bv W ha hb).mono (fun e w' ⟨h1, h2⟩ => ⟨h1, hW.keep h2⟩))
          clear hst hnw HF EM hZ2
          go_region_held3 (fun w' => LoF w B (.slice pA P.length pcap) P (.slice A2 V.length cap2) V u10 T u11 G lv GG N M hh w') (first | (with_reducible assumption))
            (first
              | (go_at_call 20; (with_reducible refine (K1.out _ (by assumption)).mono ?_); rintro e5 w6 ⟨ov1, rfl, hb1, ho6, hS6⟩)
              | (go_at_call 20; (with_reducible refine (K2.out _ (by assumption)).mono ?_); rintro e7 w7 ⟨ov2, rfl, hb2, ho7, hS7⟩; have hb1 := BlSl.only hb1 ho7)
              | (go_at_call 19; (with_reducible refine (K5.out _ _ _ (by assumption) (by assumption) (by assumption)).mono ?_); rintro e9 w9 ⟨rfl, hS9⟩))
          all_goals
            have HO : Hid (Only NoneOf w _) := Lib.hid (LwS.only (LoS.l (LoF.o (by with_reducible assumption))))
            clear c0 c1 c2 c3 c4 c5 ca cb
            go_wp2_with fail
            go_ret
            exact ⟨rfl, HO.out⟩
end Go.Proofs.YtoehfainhmfghaaGreatDoor
