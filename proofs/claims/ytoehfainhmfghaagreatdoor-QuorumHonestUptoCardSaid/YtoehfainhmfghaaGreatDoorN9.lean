/- What is proved here: several parts. the setup that the laws on quorums use, without odd persons. Condition: the number is an int. · plain facts of the quorum laws' check: signed votes count, three of four officers certify. No conditions. · the check of the quorum laws answers true. Condition: the table of powers of ten reads as its initialiser lays it. -/
import Derived.Test.YtoehfainhmfghaaGreatDoorN4
import Derived.Test.YtoehfainhmfghaaGreatDoorM7
import Derived.Test.YtoehfainhmfghaaGreatDoorN1
import Derived.Test.YtoehfainhmfghaaGreatDoorN3
import Derived.Test.YtoehfainhmfghaaGreatDoorN8
import Derived.Test.YtoehfainhmfghaaGreatDoorN6
import Derived.BigQuiet
import Derived.Deep.DeepCutAuto
namespace Go.Proofs.YtoehfainhmfghaaGreatDoor
open Go.RowKit Go.Shelf
def secI (id : Int) : Int := 1000 + 7 * id
set_option maxHeartbeats 1000000 in
theorem secret_any (id : Int) (h0 : -1000000 ≤ id) (h1 : id ≤ 1000000) (w : World) : Calls Tryz.prog 23 #[.int .i64 id] w fun e w' => e = .returned (.int .i64 (secI id)) ∧ w' = w := by
  go_enter Tryz.func23, Tryz.ntmps23
  go_wp2_with fail
  go_ret
  exact ⟨ret_int (by unfold secI; omega), rfl⟩
noncomputable def offAt (k : Nat) : Pers := ⟨(k : Int), 2, (pub (secI k) : Int)⟩
noncomputable def clerk : Pers := ⟨50, 1, (pub (secI 50) : Int)⟩
noncomputable def setB (m : Nat) : List Pers := clerk :: (List.range m).map (fun j => offAt (j + 1))
theorem setB_snoc (m : Nat) : setB (m + 1) = setB m ++ [offAt (m + 1)] := by simp [setB, List.range_succ]
theorem setB_len (m : Nat) : (setB m).length = m + 1 := by simp [setB]
/-- How many officers a setup has. -/
def nOff (n : Int) : Nat := (min n 13).toNat
theorem nOff_le (n : Int) : nOff n ≤ 13 := by unfold nOff; omega
abbrev tSu : TypeId := 39
def suStore (p v : Value) : Sem Unit := Instr.storeAt 39 p v
theorem suStore_eq (p v : Value) : Instr.storeAt 39 p v = suStore p v := rfl
def suC (pv : Value) : Array Value := #[pv, .int .i64 0, .slice none 0 0, .slice none 0 0, .int .i64 0, .int .i64 0]
theorem su_store {W : World} {R n c : Nat} {A : Option Addr} {cs : Array Value} (h : Blk W R tSu cs) (hs : cs.size = 6) : (suStore (.pointer (some ⟨R, 0, none⟩)) (.agg #[.slice A n c, .int .i64 0, .slice none 0 0, .slice none 0 0, .int .i64 0, .int .i64 0])).run Tryz.prog W = .ok () (W.setCells R 0 [.slice A n c, .int .i64 0, .slice none 0 0, .slice none 0 0, .int .i64 0, .int .i64 0]) :=
  run_storeAt_mid (P := Tryz.prog) W R 0 39 #[.slice A n c, .int .i64 0, .slice none 0 0, .slice none 0 0, .int .i64 0, .int .i64 0] (h.there 0 _ (by rw [hs]; simp)) (by kernel_rfl) (by simp [Value.oneCell'])
attribute [local go_sem ↓ high] suStore_eq
/-- What the loop keeps. -/
structure StS (w : World) (R V : Nat) (m : Nat) (pv : Value) (W : World) : Prop where
  res : Blk W R tSu #[.slice none 0 0, .int .i64 0, .slice none 0 0, .slice none 0 0, .int .i64 0, .int .i64 0]
  st : Blk W V tSu #[pv, .int .i64 0, .slice none 0 0, .slice none 0 0, .int .i64 0, .int .i64 0]
  own : PerOwn W w.heap.size pv (m + 1) (setB m)
  only : Only NoneOf w W
set_option maxRecDepth 100000 in
set_option maxHeartbeats 4000000 in
theorem setup_any (n : Int) (hn : In n) (w : World) : Calls Tryz.prog 16 #[.int .i64 n, .bool false] w fun e' w' => ∃ pv, e' = .returned (setV pv) ∧ PerSl w' pv (setB (nOff n)) ∧ Only NoneOf w w' := by
  obtain ⟨ie, z, hie, hsz, hz, hzc, hby⟩ := pers_info3
  obtain ⟨n0, n1⟩ := hn
  obtain ⟨R, eR⟩ : ∃ R, R = w.heap.size := ⟨_, rfl⟩
  obtain ⟨G, eG⟩ : ∃ G, G = R + 1 := ⟨_, rfl⟩
  obtain ⟨V, eV⟩ : ∃ V, V = G + 1 := ⟨_, rfl⟩
  obtain ⟨pc, epc⟩ : ∃ x : Int, x = (pub (secI 50) : Int) := ⟨_, rfl⟩
  obtain ⟨X, eX⟩ : ∃ X, X = (((w.alloc (.cells #[.slice none 0 0, .int .i64 0, .slice none 0 0, .slice none 0 0, .int .i64 0, .int .i64 0] 39)).alloc (.cells #[.int .i64 50, .int .i64 1, .int .i64 pc] 64)).alloc (.cells #[.slice none 0 0, .int .i64 0, .slice none 0 0, .slice none 0 0, .int .i64 0, .int .i64 0] 39)).setCells V 0 [.slice (some ⟨G, 0, none⟩) 1 1, .int .i64 0, .slice none 0 0, .slice none 0 0, .int .i64 0, .int .i64 0] := ⟨_, rfl⟩
  have h3 : Blk (((w.alloc (.cells #[.slice none 0 0, .int .i64 0, .slice none 0 0, .slice none 0 0, .int .i64 0, .int .i64 0] 39)).alloc (.cells #[.int .i64 50, .int .i64 1, .int .i64 pc] 64)).alloc (.cells #[.slice none 0 0, .int .i64 0, .slice none 0 0, .slice none 0 0, .int .i64 0, .int .i64 0] 39)) V tSu #[.slice none 0 0, .int .i64 0, .slice none 0 0, .slice none 0 0, .int .i64 0, .int .i64 0] := by
    have h3 := Blk.new ((w.alloc (.cells #[.slice none 0 0, .int .i64 0, .slice none 0 0, .slice none 0 0, .int .i64 0, .int .i64 0] 39)).alloc (.cells #[.int .i64 50, .int .i64 1, .int .i64 pc] 64)) tSu #[.slice none 0 0, .int .i64 0, .slice none 0 0, .slice none 0 0, .int .i64 0, .int .i64 0]
    rw [World.size_alloc, World.size_alloc, ← eR, ← eG, ← eV] at h3
    exact h3
  have hst0 := su_store (n := 1) (c := 1) (A := some ⟨G, 0, none⟩) h3 rfl
  have hs0 : StS w R V 0 (.slice (some ⟨G, 0, none⟩) 1 1) X := by
    have h2 := Blk.new (w.alloc (.cells #[.slice none 0 0, .int .i64 0, .slice none 0 0, .slice none 0 0, .int .i64 0, .int .i64 0] 39)) 64 #[.int .i64 50, .int .i64 1, .int .i64 pc]
    rw [World.size_alloc, ← eR, ← eG] at h2
    refine ⟨by rw [eX]; exact Blk.farCells (by omega) _ 0 (by rw [eR]; exact ((Blk.new w _ _).alloc _).alloc _), by rw [eX]; exact filled_whole h3 rfl, ⟨rfl, .inr ⟨G, 1, #[.int .i64 50, .int .i64 1, .int .i64 pc], rfl, by omega, by rw [eX]; exact Blk.farCells (by omega) _ 0 (h2.alloc _), Nat.le_refl _, by rw [maxLen_val]; omega, rfl, ?_⟩⟩, by rw [eX]; exact only_setCells ((((Only.refl _ _).alloc _).alloc _).alloc _) V 0 (.inr (by omega)) _⟩
    rw [epc]
    rfl
  have hsec := fun W => secret_any 50 (by omega) (by omega) W
  have hpub : ∀ W, Calls Tryz.prog 39 #[.int .i64 (secI 50)] W fun e' w' => e' = .returned (.int .i64 pc) ∧ w' = W := fun W => by rw [epc]; exact rpub_any _ W
  have HS0 := Lib.hid hs0
  have HSEC := Lib.hid hsec
  have HPUB := Lib.hid hpub
  have HIE := Lib.hid hie
  have HSZ := Lib.hid hsz
  have HZ := Lib.hid hz
  have HZC := Lib.hid hzc
  have HBY := Lib.hid hby
  have EX := Lib.hid eX
  have ER := Lib.hid eR
  have EG := Lib.hid eG
  have EV := Lib.hid eV
  have hwR : w.heap.size ≤ R ∧ R ≠ V ∧ w.heap.size ≤ V := by omega
  obtain ⟨hwR1, hRV, hwV⟩ := hwR
  rw [eG, eV, eG, eR] at hst0
  clear hs0 hsec hpub hie hsz hz hzc hby eX eR eG eV epc h3
  unfold setV
  go_enter Tryz.func16, Tryz.ntmps16
  go_wp2_with fail
  refine (HSEC.out _).mono ?_
  rintro e1 w1 ⟨rfl, rfl⟩
  go_wp2_with fail
  refine (HPUB.out _).mono ?_
  rintro e2 w2 ⟨rfl, rfl⟩
  go_upto_region 2 with (fail)
  clear hst0
  rw [← ER.out, ← EG.out, ← EV.out, ← EX.out]
  clear HSEC HPUB
  refine wp_gen (StS w R V 0 (.slice (some ⟨G, 0, none⟩) 1 1)) HS0.out ?_
  intro Y hY
  have HY := Lib.hid hY
  clear hY HS0
  go_wp2_with fail
  go_loopw [6] (fun i wr => ∃ (q : Nat) (pv : Value), i = .int .i64 (q : Int) ∧ 1 ≤ q ∧ q ≤ nOff n + 1 ∧ StS w R V (q - 1) pv wr) (fun i _ => 14 - (intOf i).toNat)
  case atStart => exact ⟨1, _, rfl, by omega, by omega, HY.out⟩
  case round =>
    obtain ⟨q, pv, rfl, hq1, hq2, hS⟩ := hrel
    have hno := nOff_le n
    by_cases hlt : q ≤ nOff n
    · have hle : (q : Int) ≤ min n 13 := by unfold nOff at hlt; omega
      obtain ⟨m, rfl⟩ : ∃ m, q = m + 1 := ⟨q - 1, by omega⟩
      rw [Nat.add_sub_cancel] at hS
      obtain ⟨k, ek⟩ : ∃ k : Nat, k = m + 1 := ⟨_, rfl⟩
      rw [← ek] at hle ⊢
      obtain ⟨pk, epk⟩ : ∃ x : Int, x = (pub (secI k) : Int) := ⟨_, rfl⟩
      have hpc : persC (offAt k) = [.int .i64 (k : Int), .int .i64 2, .int .i64 pk] := by rw [epk]; rfl
      have hsec : ∀ W, Calls Tryz.prog 23 #[.int .i64 (k : Int)] W fun e' w' => e' = .returned (.int .i64 (secI (k : Int))) ∧ w' = W := fun W => secret_any (k : Int) (by omega) (by omega) W
      have hpub : ∀ W, Calls Tryz.prog 39 #[.int .i64 (secI (k : Int))] W fun e' w' => e' = .returned (.int .i64 pk) ∧ w' = W := fun W => by rw [epk]; exact rpub_any _ W
      have hcells : (setB (m + 1)).flatMap persC = (setB m).flatMap persC ++ [.int .i64 (k : Int), .int .i64 2, .int .i64 pk] := by
        rw [setB_snoc, List.flatMap_append, List.flatMap_cons, List.flatMap_nil, List.append_nil, ← ek, hpc]
      have c0 : wr.cell? ⟨V, 0, none⟩ = some pv := hS.st.cell 0
      have HS := Lib.hid hS
      have HSEC := Lib.hid hsec
      have HPUB := Lib.hid hpub
      have HCELLS := Lib.hid hcells
      have hall : ∀ o, ((wr.alloc o).drew).ownsRow w.heap.size 64 3 pv (m + 1) ((setB m).flatMap persC) := fun o => World.ownsRow.alloc HS.out.own o
      have hne : pv.ownBlock ≠ some V := own_blk_ne HS.out.own HS.out.st (by decide)
      have hneR : pv.ownBlock ≠ some R := own_blk_ne HS.out.own HS.out.res (by decide)
      have hgr : ∀ o w1, (((wr.alloc o).drew).grownBy w1 pv.ownBlock) → Blk w1 V tSu #[pv, .int .i64 0, .slice none 0 0, .slice none 0 0, .int .i64 0, .int .i64 0] ∧ Blk w1 R tSu #[.slice none 0 0, .int .i64 0, .slice none 0 0, .slice none 0 0, .int .i64 0, .int .i64 0] ∧ Only NoneOf w w1 := fun o w1 hg =>
        ⟨((HS.out.st.alloc o).drew).grown hg (Ne.symm hne), ((HS.out.res.alloc o).drew).grown hg (Ne.symm hneR), ((HS.out.only.alloc o).drew).grown hg (fun j e => .inr (own_ge HS.out.own e).1)⟩
      have HALL := Lib.hid hall
      have HGR := Lib.hid hgr
      have HSZZ := Lib.hid HS.out.only.size
      have ca : ∀ o, (wr.alloc o).cell? ⟨V, 0, none⟩ = some pv := fun o => (HS.out.st.alloc o).cell 0
      have HEK := Lib.hid ek
      have hkm : k ≤ 13 ∧ m ≤ 12 := by omega
      obtain ⟨hk13, hm12⟩ := hkm
      clear hS hsec hpub hcells hpc hall hne hneR hgr epk ek hq1 hq2 hlt
      go_upto_region 5 with (fail)
      go_region_law (first
        | (refine step_append_lies _ (by rfl) _ _ _ (by rfl) w.heap.size 64 ie z 3 24 Tryz.underlying35 HIE.out HZ.out HSZ.out HBY.out HZC.out (by omega) pv (m + 1) ((setB m).flatMap persC) (by rfl) (HALL.out _) ⟨wr.heap.size, 0, none⟩ 1 1 [.int .i64 (k : Int), .int .i64 2, .int .i64 pk] (by rfl) (by rfl) (World.news_of_block (cs := #[.int .i64 (k : Int), .int .i64 2, .int .i64 pk]) (t := 64) (fr := (0, 0)) (heap_alloc_new wr _)) (by simp [Value.oneCell']) (by omega) (by rw [maxLen_val]; omega) (by omega) (by have := HSZZ.out; simp; omega) (wr.heap.size + 1) (by simp) ?_; intro g cap w1 hown1 hgrow hat hlt1; have hb1 := HGR.out _ w1 hgrow; have hf1 := hb1.1.frozen 0; have hc1 := hb1.1.cell 0; simp only [List.getElem?_toArray, List.getElem?_cons_zero] at hc1)
        | (go_simp; go_at_call 23; refine (HSEC.out _).mono ?_; rintro e1 w3 ⟨rfl, rfl⟩)
        | (go_simp; go_at_call 39; refine (HPUB.out _).mono ?_; rintro e2 w2 ⟨rfl, rfl⟩))
      all_goals
        have hgne : (Value.slice (some ⟨g, 0, none⟩) (m + 1 + 1) cap).ownBlock ≠ some V := own_blk_ne hown1 hb1.1 (by decide)
        have hnew : StS w R V (m + 1) (.slice (some ⟨g, 0, none⟩) (m + 1 + 1) cap) (w1.setCell ⟨V, 0, none⟩ (.slice (some ⟨g, 0, none⟩) (m + 1 + 1) cap)) := by
          refine ⟨Blk.far (p := ⟨V, 0, none⟩) hb1.2.1 hRV _, Blk.set_ hb1.1 0 _, ?_, hb1.2.2.setCell (p := ⟨V, 0, none⟩) (.inr hwV) _⟩
          unfold PerOwn
          rw [HCELLS.out]
          exact own_far hown1 (p := ⟨V, 0, none⟩) hgne _
        have HNEW := Lib.hid hnew
        clear hb1 hgne hnew hown1 hgrow hat hlt1 hf1 hc1 ca c0
        go_wp2_with fail
        go_roundw
        case rel => exact ⟨k + 1, _, by go_num, by omega, by have := HEK.out; unfold nOff; omega, by rw [Nat.add_sub_cancel, HEK.out]; exact HNEW.out⟩
        case measure => simp [intOf]; omega
    · have hqe : q = nOff n + 1 := by omega
      have hle : ¬ (q : Int) ≤ min n 13 := by rw [hqe]; unfold nOff; omega
      rw [hqe, Nat.add_sub_cancel] at hS
      have hsl : PerSl wr pv (setB (nOff n)) := PerOwn.sl (by rw [setB_len]; exact hS.own)
      obtain ⟨N, eN⟩ : ∃ N, N = nOff n + 1 := ⟨_, rfl⟩
      have hown := hS.own
      rw [← eN] at hown
      obtain ⟨pA, pcap, rfl, _, _⟩ := own_form' hown
      have r0 := hS.res.cell 0
      have r1 := hS.res.cell 1
      have r2 := hS.res.cell 2
      have r3 := hS.res.cell 3
      have r4 := hS.res.cell 4
      have r5 := hS.res.cell 5
      have c0 := hS.st.cell 0
      have c1 := hS.st.cell 1
      have c2 := hS.st.cell 2
      have c3 := hS.st.cell 3
      have c4 := hS.st.cell 4
      have c5 := hS.st.cell 5
      simp only [List.getElem?_toArray, List.getElem?_cons_zero, List.getElem?_cons_succ] at c0 c1 c2 c3 c4 c5 r0 r1 r2 r3 r4 r5
      have hinf : (Tryz.prog.info? tSu).map (·.size) = some 6 := by kernel_rfl
      have hb2 : Blk (wr.setCells R 0 [.slice pA N pcap, .int .i64 0, .slice none 0 0, .slice none 0 0, .int .i64 0, .int .i64 0]) R tSu #[.slice pA N pcap, .int .i64 0, .slice none 0 0, .slice none 0 0, .int .i64 0, .int .i64 0] := filled_whole hS.res rfl
      have hst := su_store (n := N) (c := pcap) (A := pA) hS.res rfl
      have ho2 : Only NoneOf w (wr.setCells R 0 [.slice pA N pcap, .int .i64 0, .slice none 0 0, .slice none 0 0, .int .i64 0, .int .i64 0]) := only_setCells hS.only R 0 (.inr hwR1) _
      have hsl2 : PerSl (wr.setCells R 0 [.slice pA N pcap, .int .i64 0, .slice none 0 0, .slice none 0 0, .int .i64 0, .int .i64 0]) (.slice pA N pcap) (setB (nOff n)) := by
        have h1 := own_blk_ne hown hS.res (by decide)
        have h2 : PerOwn (wr.setCells R 0 [.slice pA N pcap, .int .i64 0, .slice none 0 0, .slice none 0 0, .int .i64 0, .int .i64 0]) w.heap.size (.slice pA N pcap) N (setB (nOff n)) :=
          own_only hown (only_setCells (S := fun k => k = R) (Only.refl _ _) R 0 (.inl rfl) _) (fun k hk e => h1 (by rw [hk, e]))
        exact PerOwn.sl (by rw [setB_len, ← eN]; exact h2)
      have HB2 := Lib.hid hb2
      have HO2 := Lib.hid ho2
      have HSL := Lib.hid hsl2
      have HI := Lib.hid hinf
      clear hS hsl hsl2 hb2 ho2 hinf hown eN hqe hq1 hq2 hlt
      go_wp2_with fail
      refine bodyPost_ret (v := .agg #[.slice pA N pcap, .int .i64 0, .slice none 0 0, .slice none 0 0, .int .i64 0, .int .i64 0]) (results_blk rfl rfl HB2.out Tryz.underlying39 rfl (by simpa using HI.out)) rfl ⟨_, rfl, HSL.out, HO2.out⟩
end Go.Proofs.YtoehfainhmfghaaGreatDoor
namespace Go.Proofs.YtoehfainhmfghaaGreatDoor
theorem cnts_voted (p : Pers) (who sec : Int) (h : Hd) (hw : who = p.id) (hk : p.pub = (pub sec : Int)) : cnts p (voteOf who sec h) = true := by
  unfold cnts voteOf
  simp only [hw, hk, beq_self_eq_true, Bool.true_and]
  exact goodB_true.2 (good_signed sec (hdText h) (nonce (expo sec) (hdText h)))
theorem cnts_other (p : Pers) (v : Vt) (h : v.who ≠ p.id) : cnts p v = false := by
  unfold cnts
  rw [beq_eq_false_iff_ne.2 h]; rfl
noncomputable def vAt (h : Hd) (k : Nat) : Vt := voteOf (k : Int) (secI k) h
noncomputable def vts (h : Hd) (m : Nat) : List Vt := (List.range m).map (fun j => vAt h (j + 1))
theorem vts_snoc (h : Hd) (m : Nat) : vts h (m + 1) = vts h m ++ [vAt h (m + 1)] := by simp [vts, List.range_succ]
theorem vts_len' (h : Hd) (m : Nat) : (vts h m).length = m := by simp [vts]
theorem gp_in (n : Nat) : In (gp n : Int) := by
  have h1 : gp n < P0 := pw_lt 4 n
  have h2 := P0_val
  constructor <;> omega
theorem sig_in (x : Int) (text : List UInt8) (n : Nat) : In (sigS x text n : Int) := by
  have h1 := sigS_lt x text n
  have h2 := Q0_val
  constructor <;> omega
theorem vote_ok {who sec : Int} {h : Hd} (iw : In who) (ok : h.Ok) : (voteOf who sec h).Ok := ⟨iw, ok, gp_in _, sig_in _ _ _⟩
theorem hit_self (h : Hd) (p : Pers) (v : Vt) (hv : v.head = h) : (eqHd v.head h && cnts p v) = cnts p v := by rw [eqHd_true.2 hv, Bool.true_and]
theorem offs_set4 : offs (setB 4) = [offAt 1, offAt 2, offAt 3, offAt 4] := by
  simp [offs, offGo, setB, clerk, offAt, List.range_succ]
theorem cnts_at (h : Hd) (k j : Nat) : cnts (offAt k) (vAt h j) = decide (j = k) := by
  by_cases e : j = k
  · subst e
    rw [decide_eq_true rfl]
    exact cnts_voted _ _ _ _ rfl rfl
  · rw [decide_eq_false e]
    exact cnts_other _ _ (fun h => e (by have h2 : (j : Int) = (k : Int) := h; omega))
theorem cert_three (h : Hd) : certB (setB 4) h (vts h 3) = true := by
  unfold certB votesFor
  rw [offs_set4]
  have hd : ∀ j, eqHd (vAt h j).head h = true := fun j => eqHd_true.2 rfl
  simp [vts, List.range_succ, hd, cnts_at, need]
theorem cert_two (h : Hd) : certB (setB 4) h ((vts h 3).take 2) = false := by
  unfold certB votesFor
  rw [offs_set4]
  have hd : ∀ j, eqHd (vAt h j).head h = true := fun j => eqHd_true.2 rfl
  simp [vts, List.range_succ, hd, cnts_at, need]
theorem cert_again (h : Hd) : certB (setB 4) h (List.replicate 3 (vAt h 1)) = false := by
  unfold certB votesFor
  rw [offs_set4]
  have hd : ∀ j, eqHd (vAt h j).head h = true := fun j => eqHd_true.2 rfl
  simp [List.replicate, hd, cnts_at, need]
end Go.Proofs.YtoehfainhmfghaaGreatDoor
namespace Go.Proofs.YtoehfainhmfghaaGreatDoor
open Go.RowKit Go.Shelf
attribute [local go_sem ↓ high] hdLoad_eq vtLoad_eq hdNew_eq hdStore_eq vtBs1_eq
def h2 : Hd := ⟨2, rootZ⟩
theorem h2_ok : h2.Ok := ⟨⟨by decide, by decide⟩, rfl⟩
/-- A head built, under a name that the walk does not open. -/
def hdBd (parts : Array (Nat × Value)) : Sem Value := Instr.build 25 parts
theorem hdBd_eq (parts : Array (Nat × Value)) : Instr.build 25 parts = hdBd parts := rfl
theorem hdBd_two (W : World) : (hdBd #[(0, .int .i64 2)]).run Tryz.prog W = .ok (.agg (hdC h2).toArray) W := run_build (P := Tryz.prog) W 25 _ _ (by kernel_rfl)
attribute [local go_sem ↓ high] hdBd_eq
def ofs7 : List Int := [0, 1, 3, 4, 6, 7, -5]
def wnt7 : List Int := [1, 1, 3, 3, 5, 5, 1]
theorem seven : ∀ k, k < 7 → ∃ x y, ofs7[k]? = some x ∧ wnt7[k]? = some y ∧ needI x = y ∧ In x := fun k hk => by
  match k, hk with
  | 0, _ => exact ⟨0, 1, rfl, rfl, rfl, by decide, by decide⟩
  | 1, _ => exact ⟨1, 1, rfl, rfl, rfl, by decide, by decide⟩
  | 2, _ => exact ⟨3, 3, rfl, rfl, rfl, by decide, by decide⟩
  | 3, _ => exact ⟨4, 3, rfl, rfl, rfl, by decide, by decide⟩
  | 4, _ => exact ⟨6, 5, rfl, rfl, rfl, by decide, by decide⟩
  | 5, _ => exact ⟨7, 5, rfl, rfl, rfl, by decide, by decide⟩
  | 6, _ => exact ⟨-5, 1, rfl, rfl, rfl, by decide, by decide⟩
def szOf : Value → Nat
  | .string s => s.size
  | _ => 0
/-- What the loop over zeros keeps. -/
def ZeR (Z : World) (s : Value) (W : World) : Prop := ∃ (i : Nat) (t : ByteArray), s = .string t ∧ i ≤ 6 ∧ t.data.toList = List.replicate (2 ^ i) 48 ∧ W = Z
/-- What lies there of the setup and the head. -/
structure SaS (w : World) (B : Nat) (pv : Value) (W : World) : Prop where
  su : Blk W B 39 #[pv, .int .i64 0, .slice none 0 0, .slice none 0 0, .int .i64 0, .int .i64 0]
  hd : HdAt W (B + 1) h2
  per : PerSl W pv (setB 4)
  only : Only NoneOf w W
theorem SaS.keep {w : World} {B : Nat} {pv : Value} {W W' : World} (h : SaS w B pv W) (ho : Only NoneOf W W') : SaS w B pv W' :=
  ⟨h.su.only ho (fun e => e), Blk.only h.hd ho (fun e => e), h.per.only ho, h.only.trans ho⟩
/-- The two lists of votes. -/
structure LvS (w : World) (m : Nat) (ls ag : Value) (W : World) : Prop where
  l : VtOwn W w.heap.size ls m (vts h2 m)
  a : VtOwn W w.heap.size ag m (List.replicate m (vAt h2 1))
  apart : ∀ g, ls.ownBlock = some g → ag.ownBlock ≠ some g
  only : Only NoneOf w W
/-- .. when one more vote is in the first one. -/
structure LvT (w : World) (m : Nat) (ls ag : Value) (W : World) : Prop where
  l : VtOwn W w.heap.size ls (m + 1) (vts h2 (m + 1))
  a : VtOwn W w.heap.size ag m (List.replicate m (vAt h2 1))
  apart : ∀ g, ls.ownBlock = some g → ag.ownBlock ≠ some g
  only : Only NoneOf w W
theorem LvS.app {w : World} {m : Nat} {ls ag : Value} {W w1 : World} {g cap : Nat} (h : LvS w m ls ag W) (ho : w1.ownsRow w.heap.size 30 36 (.slice (some ⟨g, 0, none⟩) (m + 1) cap) (m + 1) ((vts h2 m).flatMap vtC ++ vtC (vAt h2 (m + 1)))) (hg : W.grownBy w1 ls.ownBlock) (hat : ls.ownBlock = some g ∨ g = W.heap.size) : LvT w m (.slice (some ⟨g, 0, none⟩) (m + 1) cap) ag w1 := by
  have hne : ag.ownBlock = none ∨ ag.ownBlock ≠ ls.ownBlock := by
    cases hl : ls.ownBlock with
    | none =>
      cases ha : ag.ownBlock with
      | none => exact .inl rfl
      | some g => exact .inr (by simp)
    | some g0 => exact .inr (h.apart g0 hl)
  refine ⟨?_, World.ownsRow.kept h.a hg hne, fun g' e ha => ?_, h.only.grown hg (fun j e => .inr (own_ge h.l e).1)⟩
  · unfold VtOwn
    rw [vts_snoc, List.flatMap_append, List.flatMap_cons, List.flatMap_nil, List.append_nil]
    exact ho
  · have e2 : g = g' := by simpa [Value.ownBlock] using e
    subst e2
    rcases hat with h1 | h1
    · exact h.apart g h1 ha
    · have := (own_ge h.a ha).2; omega
theorem LvT.app {w : World} {m : Nat} {ls ag : Value} {W w1 : World} {g cap : Nat} (h : LvT w m ls ag W) (ho : w1.ownsRow w.heap.size 30 36 (.slice (some ⟨g, 0, none⟩) (m + 1) cap) (m + 1) ((List.replicate m (vAt h2 1)).flatMap vtC ++ vtC (vAt h2 1))) (hg : W.grownBy w1 ag.ownBlock) (hat : ag.ownBlock = some g ∨ g = W.heap.size) : LvS w (m + 1) ls (.slice (some ⟨g, 0, none⟩) (m + 1) cap) w1 := by
  have hne : ls.ownBlock = none ∨ ls.ownBlock ≠ ag.ownBlock := by
    cases hl : ls.ownBlock with
    | none => exact .inl rfl
    | some g0 => exact .inr (fun e => h.apart g0 hl e.symm)
  refine ⟨World.ownsRow.kept h.l hg hne, ?_, fun g' e ha => ?_, h.only.grown hg (fun j e => .inr (own_ge h.a e).1)⟩
  · unfold VtOwn
    rw [List.replicate_succ', List.flatMap_append, List.flatMap_cons, List.flatMap_nil, List.append_nil]
    exact ho
  · have e2 : g = g' := by simpa [Value.ownBlock] using ha
    subst e2
    rcases hat with h1 | h1
    · exact h.apart g e h1
    · have := (own_ge h.l e).2; omega
theorem LvT.keep {w : World} {m : Nat} {ls ag : Value} {W W' : World} (h : LvT w m ls ag W) (ho : Only NoneOf W W') : LvT w m ls ag W' :=
  ⟨own_only h.l ho (fun _ _ e => e), own_only h.a ho (fun _ _ e => e), h.apart, h.only.trans ho⟩
theorem LvS.keep {w : World} {m : Nat} {ls ag : Value} {W W' : World} (h : LvS w m ls ag W) (ho : Only NoneOf W W') : LvS w m ls ag W' :=
  ⟨own_only h.l ho (fun _ _ e => e), own_only h.a ho (fun _ _ e => e), h.apart, h.only.trans ho⟩
theorem vAt_ok (k : Nat) (hk : k ≤ 100) : (vAt h2 k).Ok := vote_ok ⟨by omega, by omega⟩ h2_ok
theorem vts_ok {m : Nat} (hm : m ≤ 99) : VtsOk (vts h2 m) := fun v hv => by
  obtain ⟨j, hj, rfl⟩ := List.mem_map.1 hv
  have := List.mem_range.1 hj
  exact vAt_ok (j + 1) (by omega)
theorem rep_ok (m : Nat) : VtsOk (List.replicate m (vAt h2 1)) := fun v hv => by
  rw [(List.mem_replicate.1 hv).2]
  exact vAt_ok 1 (by omega)
theorem setB_ok (m : Nat) (hm : m ≤ 100) : PersOk (setB m) := fun p hp => by
  rcases List.mem_cons.1 hp with rfl | hp
  · exact ⟨⟨by decide, by decide⟩, ⟨by decide, by decide⟩, gp_in _⟩
  · obtain ⟨j, hj, rfl⟩ := List.mem_map.1 hp
    have := List.mem_range.1 hj
    exact ⟨⟨by show (-9223372036854775808 : Int) ≤ ((j + 1 : Nat) : Int); omega, by show ((j + 1 : Nat) : Int) ≤ 9223372036854775807; omega⟩, ⟨by show (-9223372036854775808 : Int) ≤ 2; omega, by show (2 : Int) ≤ 9223372036854775807; omega⟩, gp_in _⟩
set_option maxRecDepth 100000 in
set_option maxHeartbeats 4000000 in
theorem sanity29 (w : World) (ht : Tab w) : Calls Tryz.prog 11 #[] w fun e w' => e = .returned (.bool true) ∧ Only NoneOf w w' := by
  obtain ⟨A, eA⟩ : ∃ A, A = w.heap.size := ⟨_, rfl⟩
  obtain ⟨X, eX⟩ : ∃ X, X = (w.alloc (.cells #[.int .i64 0, .int .i64 1, .int .i64 3, .int .i64 4, .int .i64 6, .int .i64 7, .int .i64 (-5)] 3)).alloc (.cells #[.int .i64 1, .int .i64 1, .int .i64 3, .int .i64 3, .int .i64 5, .int .i64 5, .int .i64 1] 3) := ⟨_, rfl⟩
  have x1 : Blk X A 3 (ofs7.map (Value.int .i64)).toArray := by rw [eX, eA]; exact (Blk.new w _ _).alloc _
  have x2 : Blk X (A + 1) 3 (wnt7.map (Value.int .i64)).toArray := by
    have h := Blk.new (w.alloc (.cells #[.int .i64 0, .int .i64 1, .int .i64 3, .int .i64 4, .int .i64 6, .int .i64 7, .int .i64 (-5)] 3)) 3 (wnt7.map (Value.int .i64)).toArray
    rw [World.size_alloc, ← eA] at h
    rw [eX]; exact h
  have x3 : Only NoneOf w X := by rw [eX]; exact ((Only.refl _ _).alloc _).alloc _
  have X1 := Lib.hid x1
  have X2 := Lib.hid x2
  have X3 := Lib.hid x3
  have EX := Lib.hid eX
  have EA := Lib.hid eA
  have HT := Lib.hid ht
  clear x1 x2 x3 eX eA ht
  go_enter Tryz.func11, Tryz.ntmps11
  go_upto_region 3 with (fail)
  rw [← EA.out, ← EX.out]
  go_wp2_with fail
  go_loopw [0, 3] (fun _ i wr => ∃ k : Nat, i = .int .i64 k ∧ k ≤ 7 ∧ Only NoneOf X wr) (fun _ i _ => 7 - (intOf i).toNat)
  case atStart => exact ⟨0, rfl, by omega, Only.refl _ _⟩
  case round =>
    obtain ⟨k, rfl, hk, ho⟩ := hrel
    by_cases hlt : k < 7
    · obtain ⟨x, y, hx, hy, hn, hin⟩ := seven k hlt
      have ik : (k : Int) < 7 := by omega
      have ik0 : (0 : Int) ≤ (k : Int) := by omega
      have c1 : wr.cell? ⟨A, k, none⟩ = some (.int .i64 x) := ho.cell_some (by rw [X1.out.cell, List.getElem?_toArray, List.getElem?_map, hx]; rfl) (fun e => e)
      have c2 : wr.cell? ⟨A + 1, k, none⟩ = some (.int .i64 y) := ho.cell_some (by rw [X2.out.cell, List.getElem?_toArray, List.getElem?_map, hy]; rfl) (fun e => e)
      have hnd : ∀ W, Calls Tryz.prog 26 #[.int .i64 x] W fun e w' => e = .returned (.int .i64 y) ∧ w' = W := fun W => by rw [← hn]; exact qneed_any x hin W
      have HND := Lib.hid hnd
      have HO := Lib.hid ho
      have hne : (y != y) = false := by simp
      clear hnd ho hx hy hn hin
      go_upto_region 6 with (fail)
      go_quiet ((go_at_call 26; exact Calls.quiet_of_same (HND.out _)))
      go_wp2_with fail
      go_roundw
      case rel => exact ⟨k + 1, by go_num, by omega, HO.out.drewN _⟩
      case measure => simp [intOf]; omega
    · obtain rfl : k = 7 := by omega
      have HO := Lib.hid ho
      clear ho
      go_wp2_with fail
      refine (setup_any 4 ⟨by omega, by omega⟩ _).mono ?_
      rintro e1 w1 ⟨pv, rfl, hpv, ho1⟩
      rw [show nOff 4 = 4 from rfl] at hpv
      have hpv2 := hpv
      obtain ⟨pA, pcap, epv, _, _, _⟩ := hpv2
      rw [setB_len] at epv
      subst epv
      obtain ⟨B, eB⟩ : ∃ B, B = w1.heap.size := ⟨_, rfl⟩
      have hb0 : Blk ((w1.alloc (.cells #[.slice pA (4 + 1) pcap, .int .i64 0, .slice none 0 0, .slice none 0 0, .int .i64 0, .int .i64 0] 39)).alloc (.cells hd0C 25)) (B + 1) tHd hd0C := by
        have h := Blk.new (w1.alloc (.cells #[.slice pA (4 + 1) pcap, .int .i64 0, .slice none 0 0, .slice none 0 0, .int .i64 0, .int .i64 0] 39)) tHd hd0C
        rw [World.size_alloc, ← eB] at h
        exact h
      have hst := hd_store (h := h2) hb0 rfl rfl
      have hz0 : SaS w B (.slice pA (4 + 1) pcap) (((w1.alloc (.cells #[.slice pA (4 + 1) pcap, .int .i64 0, .slice none 0 0, .slice none 0 0, .int .i64 0, .int .i64 0] 39)).alloc (.cells hd0C 25)).setCells (B + 1) 0 (hdC h2)) := by
        have ho9 := ((X3.out.trans HO.out).trans ho1)
        refine ⟨Blk.farCells (by omega) _ 0 (by rw [eB]; exact (Blk.new w1 _ _).alloc _), filled_whole hb0 rfl, ?_, only_setCells ((ho9.alloc _).alloc _) (B + 1) 0 (.inr (by have := ho9.size; omega)) _⟩
        exact hpv.only (only_setCells (((Only.refl _ _).alloc _).alloc _) (B + 1) 0 (.inr (by omega)) _)
      have HZ0 := Lib.hid hz0
      have EB := Lib.hid eB
      rw [eB] at hst
      have hbd := hdBd_two
      have hnw := hdNew_run
      clear hpv ho1 hb0 hz0 eB HO
      unfold setV
      go_upto_region 10 with (fail)
      rw [← EB.out]
      refine wp_gen (SaS w B (.slice pA (4 + 1) pcap)) HZ0.out ?_
      intro Z hZ
      have HZ := Lib.hid hZ
      clear hZ HZ0 hst hbd hnw
      go_wp2_with fail
      go_loopw [6] (fun s wr => ZeR Z s wr) (fun s _ => 64 - szOf s)
      case atStart => exact ⟨0, ⟨#[48]⟩, rfl, by omega, rfl, rfl⟩
      case round =>
        obtain ⟨i, t, rfl, hi, ht, rfl⟩ := hrel
        have hts : t.size = 2 ^ i := by rw [size_list, ht, List.length_replicate]
        by_cases hi6 : i < 6
        · have h32 : t.size ≤ 32 := by
            rw [hts]
            exact Nat.le_trans (Nat.pow_le_pow_right (by omega) (show i ≤ 5 by omega)) (by decide)
          have hpos : 0 < t.size := by rw [hts]; exact Nat.two_pow_pos i
          have hlt64 : (t.size : Int) < 64 := by omega
          have HT2 := Lib.hid ht
          have HTS := Lib.hid hts
          clear ht hts
          go_wp2_with fail
          go_roundw
          case rel =>
            refine ⟨i + 1, _, rfl, by omega, ?_, rfl⟩
            rw [ByteArray.data_append, Array.toList_append, HT2.out, List.replicate_append_replicate]
            congr 1
            rw [Nat.pow_succ]; omega
          case measure => simp only [szOf, ByteArray.size_append]; omega
        · obtain rfl : i = 6 := by omega
          have h64 : t.size = 64 := hts
          have HT2 := Lib.hid ht
          have hge : ¬ (t.size : Int) < 64 := by omega
          have H64 := Lib.hid h64
          clear ht hts h64
          go_wp2_with fail
          obtain ⟨ie, z, hie, hsz, hz, hzc, hby⟩ := vt_info
          have HIE := Lib.hid hie
          have HSZ := Lib.hid hsz
          have HZZ := Lib.hid hz
          have HZC := Lib.hid hzc
          have HBY := Lib.hid hby
          clear hie hsz hz hzc hby
          have hlv0 : LvS wr 0 (.slice none 0 0) (.slice none 0 0) wr := ⟨⟨rfl, .inl ⟨rfl, rfl⟩⟩, ⟨rfl, .inl ⟨rfl, rfl⟩⟩, fun g h => (by cases h), Only.refl _ _⟩
          have HLV0 := Lib.hid hlv0
          clear hlv0
          obtain ⟨Z, rfl⟩ : ∃ Z : World, Z = wr := ⟨_, rfl⟩
          go_loopw [7, 8, 9] (fun ls ag i wi => ∃ m : Nat, i = .int .i64 ((m + 1 : Nat) : Int) ∧ m ≤ 3 ∧ LvS Z m ls ag wi) (fun _ _ i _ => 4 - (intOf i).toNat)
          case atStart => exact ⟨0, rfl, by omega, HLV0.out⟩
          case round =>
            obtain ⟨m, rfl, hm, hL⟩ := hrel
            obtain ⟨k, ek⟩ : ∃ k, k = m + 1 := ⟨_, rfl⟩
            rw [← ek]
            have HL := Lib.hid hL
            have EK := Lib.hid ek
            by_cases hm3 : m < 3
            · have ik : (k : Int) < 4 := by omega
              have hkb : k ≤ 3 ∧ 1 ≤ k := by omega
              obtain ⟨hk3, hk1⟩ := hkb
              have hm2 : m ≤ 2 := by omega
              clear hL ek hm3 hm
              obtain ⟨V, eVv⟩ : ∃ V, V = vAt h2 k := ⟨_, rfl⟩
              have vo : V.Ok := by rw [eVv]; exact vAt_ok k (by omega)
              have hl := vo.head.root
              have hsec : ∀ W, Calls Tryz.prog 23 #[.int .i64 (k : Int)] W fun e' w' => e' = .returned (.int .i64 (secI (k : Int))) ∧ w' = W := fun W => secret_any (k : Int) (by omega) (by omega) W
              have hvt : ∀ W, Only NoneOf Z W → Calls Tryz.prog 12 #[.int .i64 (k : Int), .int .i64 (secI (k : Int)), .agg (hdC h2).toArray] W fun e' w' => e' = .returned (.agg (vtC V).toArray) ∧ Only NoneOf W w' := fun W ho => by rw [eVv]; exact qvote_any (k : Int) (secI k) h2 h2_ok W (HT.out.none (HZ.out.only.trans ho))
              have hbs := bs1_run V hl
              have hhd : ∀ W, Only NoneOf Z W → (hdLoad (.pointer (some ⟨B + 1, 0, none⟩))).run Tryz.prog W = .ok (.agg (hdC h2).toArray) W := fun W h => hd_load (blk_range (Blk.only HZ.out.hd h (fun e => e))) rfl
              have HSEC := Lib.hid hsec
              have HVT := Lib.hid hvt
              have HVO := Lib.hid vo
              have EVV := Lib.hid eVv
              have HLK : Hid (∀ W W', LvS Z m u7 u8 W → Only NoneOf W W' → LvS Z m u7 u8 W') := Lib.hid (fun W W' h ho => h.keep ho)
              have HOW : Hid (∀ W, LvS Z m u7 u8 W → W.ownsRow Z.heap.size 30 36 u7 m ((vts h2 m).flatMap vtC)) := Lib.hid (fun W h => h.l)
              have HAP : Hid (∀ W w1 g cap, LvS Z m u7 u8 W → w1.ownsRow Z.heap.size 30 36 (.slice (some ⟨g, 0, none⟩) (m + 1) cap) (m + 1) ((vts h2 m).flatMap vtC ++ vtC V) → W.grownBy w1 u7.ownBlock → (u7.ownBlock = some g ∨ g = W.heap.size) → LvT Z m (.slice (some ⟨g, 0, none⟩) (m + 1) cap) u8 w1) := Lib.hid (fun W w1 g cap h h1 h3 h4 => by
                rw [EVV.out, EK.out] at h1; exact h.app h1 h3 h4)
              have hS0 : Only NoneOf Z wr.drew := HL.out.only.drew
              have hL0 : LvS Z m u7 u8 wr.drew := HL.out.keep (Only.refl _ _).drew
              clear hsec hvt hl eVv vo
              go_upto_region 17 with (fail)
              go_region_held3 (fun W => Only NoneOf Z W) (first | (with_reducible assumption) | (with_reducible exact Only.alloc (by with_reducible assumption) _))
                (first
                  | (refine step_append_lies _ (by rfl) _ _ _ (by rfl) Z.heap.size 30 ie z 36 ie.bytes Tryz.underlying41 HIE.out HZZ.out HSZ.out rfl HZC.out (by omega) u7 m ((vts h2 m).flatMap vtC) (by rfl) (World.ownsRow.alloc (HOW.out _ (by with_reducible assumption)) _) _ 1 1 (vtC V) (by rfl) (by rw [vtC_len HVO.out.head.root]) (World.news_of_block (cs := (vtC V).toArray) (t := 30) (fr := (0, 0)) (NewB.new _ V)) (vtC_one V) (by omega) (by rw [maxLen_val]; omega) (by have := HBY.out; exact Nat.le_trans (Nat.mul_le_mul (show m + 1 ≤ 3 by omega) this) (by omega)) (Only.size (by with_reducible first | assumption | exact Only.alloc (by assumption) _)) _ rfl ?_; intro g2 cap2 w2 hown2 hgrow2 hat2 hlt2; have hLT := HAP.out _ w2 g2 cap2 (HLK.out _ _ (by with_reducible assumption) ((Only.refl _ _).alloc _)) hown2 hgrow2 hat2; have hS2 := hLT.only; clear hown2 hgrow2 hat2 hlt2)
                  | (go_at_call 23; refine (HSEC.out _).mono ?_; rintro e5 w5 ⟨rfl, rfl⟩)
                  | (go_at_call 12; refine (HVT.out _ (by with_reducible assumption)).mono ?_; rintro e6 w6 ⟨rfl, ho6⟩; have hS6 := Only.trans (by with_reducible assumption) ho6; have hL6 := HLK.out _ _ (by with_reducible assumption) ho6; clear ho6))
              have hL9 := hLT
              have hV1 : (vts h2 (m + 1))[0]? = some (vAt h2 1) := by simp [vts, List.range_succ_eq_map]
              have h1o := vAt_ok 1 (by omega)
              have hld := vt_load (hLT.l.range (vts_ok (by omega)) hV1) h1o.head.root
              rw [Nat.zero_mul] at hld
              have hbs1 := bs1_run (vAt h2 1) h1o.head.root
              obtain ⟨V1, eV1⟩ : ∃ V1, V1 = vAt h2 1 := ⟨_, rfl⟩
              rw [← eV1] at hld hbs1
              have hi0 : (0 : Int) < ((m + 1 : Nat) : Int) := by omega
              have HLT := Lib.hid hLT
              have EV1 := Lib.hid eV1
              have H1L : Hid (V1.head.root.length = 32) := Lib.hid (by rw [eV1]; exact h1o.head.root)
              have HAP2 : Hid (∀ W w1 g cap, LvT Z m (.slice (some ⟨g2, 0, none⟩) (m + 1) cap2) u8 W → w1.ownsRow Z.heap.size 30 36 (.slice (some ⟨g, 0, none⟩) (m + 1) cap) (m + 1) ((List.replicate m (vAt h2 1)).flatMap vtC ++ vtC V1) → W.grownBy w1 u8.ownBlock → (u8.ownBlock = some g ∨ g = W.heap.size) → LvS Z (m + 1) (.slice (some ⟨g2, 0, none⟩) (m + 1) cap2) (.slice (some ⟨g, 0, none⟩) (m + 1) cap) w1) := Lib.hid (fun W w1 g cap h h1 h3 h4 => by
                rw [EV1.out] at h1; exact h.app h1 h3 h4)
              have hszz := hLT.only.size
              clear hL9 hV1 h1o eV1 hLT hS2 hS0 hL0 hbs hhd hS6 hL6
              go_wp2_with (at_builtin; refine wpList_append_lies _ rfl _ _ 41 rfl Z.heap.size 30 ie z 36 ie.bytes Tryz.underlying41 HIE.out HZZ.out HSZ.out rfl HZC.out (by omega) u8 m ((List.replicate m (vAt h2 1)).flatMap vtC) rfl (World.ownsRow.alloc HLT.out.a _) _ 1 1 (vtC V1) rfl (by rw [vtC_len H1L.out]) (World.news_of_block (cs := (vtC V1).toArray) (t := 30) (fr := (0, 0)) (NewB.new _ V1)) (vtC_one V1) (by omega) (by rw [maxLen_val]; omega) (by have := HBY.out; exact Nat.le_trans (Nat.mul_le_mul (show m + 1 ≤ 3 by omega) this) (by omega)) (by simp; omega) _ rfl ?_; intro g3 cap3 w3 hown3 hgrow3 hat3 hlt3)
              have hnew := HAP2.out _ w3 g3 cap3 (HLT.out.keep ((Only.refl _ _).alloc _)) hown3 hgrow3 hat3
              have HNEW := Lib.hid hnew
              clear hnew hown3 hgrow3 hat3 hlt3 hld hbs1
              go_wp2_with fail
              go_roundw
              case rel => exact ⟨m + 1, by rw [EK.out]; go_num, by omega, HNEW.out⟩
              case measure => simp [intOf]; omega
            · obtain rfl : m = 3 := by omega
              obtain ⟨ga, capa, ea, _, _, hca, hma⟩ := own_form hL.l (by omega)
              obtain ⟨gb, capb, eb, _, _, hcb, hmb⟩ := own_form hL.a (by omega)
              subst ea
              subst eb
              rw [maxLen_val] at hma hmb
              have hsu := HZ.out.keep hL.only
              have ik : ¬ (k : Int) < 4 := by omega
              have hc2 : (2 : Int) ≤ (capa : Int) := by omega
              have hs1 : VtSl wr (.slice (some ⟨ga, 0, none⟩) 3 capa) (vts h2 3) := by
                have h9 : VtOwn wr Z.heap.size (.slice (some ⟨ga, 0, none⟩) 3 capa) (vts h2 3).length (vts h2 3) := by rw [vts_len']; exact hL.l
                have := h9.sl (vts_ok (by omega))
                exact this
              have hs2 : VtSl wr (.slice (some ⟨ga, 0, none⟩) 2 capa) ((vts h2 3).take 2) := by
                have h8 := own_shrink hL.l (m := 2) (by omega)
                have hok3 : VtsOk (vts h2 3) := vts_ok (by omega)
                have h7 : ((vts h2 3).flatMap vtC).take (2 * 36) = ((vts h2 3).take 2).flatMap vtC := by
                  rw [← flat_vtF hok3, flat_take vtF_len, flat_vtF (fun x hx => hok3 x (List.mem_of_mem_take hx))]
                rw [h7] at h8
                have h9 : VtOwn wr Z.heap.size (.slice (some ⟨ga, 0, none⟩) 2 capa) ((vts h2 3).take 2).length ((vts h2 3).take 2) := by rw [List.length_take, vts_len']; exact h8
                have := h9.sl (fun x hx => hok3 x (List.mem_of_mem_take hx))
                rw [List.length_take, vts_len'] at *
                exact this
              have hs3 : VtSl wr (.slice (some ⟨gb, 0, none⟩) 3 capb) (List.replicate 3 (vAt h2 1)) := by
                have h9 : VtOwn wr Z.heap.size (.slice (some ⟨gb, 0, none⟩) 3 capb) (List.replicate 3 (vAt h2 1)).length (List.replicate 3 (vAt h2 1)) := by rw [List.length_replicate]; exact hL.a
                exact h9.sl (rep_ok 3)
              have hpok : PersOk (setB 4) := setB_ok 4 (by omega)
              have hcert : ∀ (sv : Value) (L : List Vt) (β : Bool), VtSl wr sv L → VtsOk L → L.length ≤ 100000 → certB (setB 4) h2 L = β → ∀ W, Only NoneOf wr W → Calls Tryz.prog 25 #[.agg #[.slice pA 5 pcap, .int .i64 0, .slice none 0 0, .slice none 0 0, .int .i64 0, .int .i64 0], .agg (hdC h2).toArray, sv] W fun e w' => e = .returned (.bool β) ∧ Only NoneOf W w' := fun sv L β hs hok hlen hβ W ho => by
                rw [← hβ]
                exact qcert_any (setB 4) hpok (by rw [setB_len]; omega) _ h2 h2_ok L hok hlen sv W (hsu.per.only ho) (hs.only ho) (HT.out.none (hsu.only.trans ho))
              have q1 := hcert _ _ true hs1 (vts_ok (by omega)) (by rw [vts_len']; omega) (cert_three h2)
              have q2 := hcert _ _ false hs2 (fun x hx => vts_ok (m := 3) (by omega) x (List.mem_of_mem_take hx)) (by rw [List.length_take, vts_len']; omega) (cert_two h2)
              have q3 := hcert _ _ false hs3 (rep_ok 3) (by rw [List.length_replicate]; omega) (cert_again h2)
              obtain ⟨T1, eT1⟩ : ∃ T1, T1 = hdT h2 := ⟨_, rfl⟩
              have qt : ∀ W, Only NoneOf wr W → Calls Tryz.prog 13 #[.agg (hdC h2).toArray] W fun e w' => e = .returned (.string T1) ∧ Only NoneOf W w' := fun W ho => by rw [eT1]; exact qtext_any h2 h2_ok W (HT.out.none (hsu.only.trans ho))
              have hcat : (⟨#[104, 101, 97, 100, 32, 50, 32]⟩ : ByteArray) ++ t = T1 := by
                rw [eT1]
                refine bytes_ext ?_
                rw [ByteArray.data_append, Array.toList_append, HT2.out, hdT_list]
                decide +kernel
              have hts : ¬ 9223372036854775807 < 7 + t.size := by rw [H64.out]; omega
              have HQ1 := Lib.hid q1
              have HQ2 := Lib.hid q2
              have HQ3 := Lib.hid q3
              have HQT := Lib.hid qt
              have HSU := Lib.hid hsu.only
              have c0 : ∀ W, Only NoneOf wr W → W.cell? ⟨B, 0, none⟩ = some (.slice pA 5 pcap) := fun W h => (hsu.su.only h (fun e => e)).cell 0
              have c1 : ∀ W, Only NoneOf wr W → W.cell? ⟨B, 1, none⟩ = some (.int .i64 0) := fun W h => (hsu.su.only h (fun e => e)).cell 1
              have c2 : ∀ W, Only NoneOf wr W → W.cell? ⟨B, 2, none⟩ = some (.slice none 0 0) := fun W h => (hsu.su.only h (fun e => e)).cell 2
              have c3 : ∀ W, Only NoneOf wr W → W.cell? ⟨B, 3, none⟩ = some (.slice none 0 0) := fun W h => (hsu.su.only h (fun e => e)).cell 3
              have c4 : ∀ W, Only NoneOf wr W → W.cell? ⟨B, 4, none⟩ = some (.int .i64 0) := fun W h => (hsu.su.only h (fun e => e)).cell 4
              have c5 : ∀ W, Only NoneOf wr W → W.cell? ⟨B, 5, none⟩ = some (.int .i64 0) := fun W h => (hsu.su.only h (fun e => e)).cell 5
              have ch : ∀ W, Only NoneOf wr W → (hdLoad (.pointer (some ⟨B + 1, 0, none⟩))).run Tryz.prog W = .ok (.agg (hdC h2).toArray) W := fun W h => hd_load (blk_range (Blk.only hsu.hd h (fun e => e))) rfl
              have hS0 : Only NoneOf wr wr.drew := (Only.refl _ _).drew
              clear q1 q2 q3 qt hcert hs1 hs2 hs3 hsu hL ek eT1 hpok hm hm3
              go_upto_region 19 with (fail)
              go_region_held3 (fun W => Only NoneOf wr W) (first | (with_reducible assumption))
                (first
                  | (go_at_call 13; refine (HQT.out _ (by with_reducible assumption)).mono ?_; rintro e5 w5 ⟨rfl, ho5⟩; have hS5 := Only.trans (by with_reducible assumption) ho5; clear ho5)
                  | (go_at_call 25; (with_reducible refine (HQ1.out _ (by assumption)).mono ?_); rintro e6 w6 ⟨rfl, ho6⟩; have hS6 := Only.trans (by with_reducible assumption) ho6; clear ho6)
                  | (go_at_call 25; (with_reducible refine (HQ2.out _ (by assumption)).mono ?_); rintro e7 w7 ⟨rfl, ho7⟩; have hS7 := Only.trans (by with_reducible assumption) ho7; clear ho7)
                  | (go_at_call 25; (with_reducible refine (HQ3.out _ (by assumption)).mono ?_); rintro e8 w8 ⟨rfl, ho8⟩; have hS8 := Only.trans (by with_reducible assumption) ho8; clear ho8))
              all_goals
                go_wp2_with fail
                go_ret
                exact ⟨rfl, HSU.out.trans (by assumption)⟩
end Go.Proofs.YtoehfainhmfghaaGreatDoor
