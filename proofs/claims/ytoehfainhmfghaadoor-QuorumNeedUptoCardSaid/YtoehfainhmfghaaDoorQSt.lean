/- What is proved here: the setup that the laws on quorums use, without odd persons. Condition: the number is an int. -/
import Derived.Test.YtoehfainhmfghaaDoorQOf
import Derived.Test.YtoehfainhmfghaaDoorM7
import Derived.Test.YtoehfainhmfghaaDoorVtO
import Derived.BigQuiet
namespace Go.Proofs.YtoehfainhmfghaaDoor
open Go.RowKit Go.Shelf
def secI (id : Int) : Int := 1000 + 7 * id
set_option maxHeartbeats 1000000 in
theorem secret_any (id : Int) (h0 : -1000000 ≤ id) (h1 : id ≤ 1000000) (w : World) : Calls Tryd.prog 9 #[.int .i64 id] w fun e w' => e = .returned (.int .i64 (secI id)) ∧ w' = w := by
  go_enter Tryd.func9, Tryd.ntmps9
  go_wp2_with fail
  go_ret
  exact ⟨ret_int (by unfold secI; omega), rfl⟩
noncomputable def offAt (k : Nat) : Pers := ⟨(k : Int), 2, (pub (secI k) : Int)⟩
noncomputable def clerk : Pers := ⟨50, 1, (pub (secI 50) : Int)⟩
noncomputable def setB (m : Nat) : List Pers := clerk :: (List.range m).map (fun j => offAt (j + 1))
theorem setB_snoc (m : Nat) : setB (m + 1) = setB m ++ [offAt (m + 1)] := by simp [setB, List.range_succ]
theorem setB_len (m : Nat) : (setB m).length = m + 1 := by simp [setB]
/-- How many officers a setup has. -/
def nOff (n : Int) : Nat := (min n 13).toNat
theorem nOff_le (n : Int) : nOff n ≤ 13 := by unfold nOff; omega
abbrev tSu : TypeId := 30
def suStore (p v : Value) : Sem Unit := Instr.storeAt 30 p v
theorem suStore_eq (p v : Value) : Instr.storeAt 30 p v = suStore p v := rfl
def suC (pv : Value) : Array Value := #[pv, .int .i64 0, .slice none 0 0, .slice none 0 0, .int .i64 0, .int .i64 0]
theorem su_store {W : World} {R n c : Nat} {A : Option Addr} {cs : Array Value} (h : Blk W R tSu cs) (hs : cs.size = 6) : (suStore (.pointer (some ⟨R, 0, none⟩)) (.agg #[.slice A n c, .int .i64 0, .slice none 0 0, .slice none 0 0, .int .i64 0, .int .i64 0])).run Tryd.prog W = .ok () (W.setCells R 0 [.slice A n c, .int .i64 0, .slice none 0 0, .slice none 0 0, .int .i64 0, .int .i64 0]) :=
  run_storeAt_mid (P := Tryd.prog) W R 0 30 #[.slice A n c, .int .i64 0, .slice none 0 0, .slice none 0 0, .int .i64 0, .int .i64 0] (h.there 0 _ (by rw [hs]; simp)) (by kernel_rfl) (by simp [Value.oneCell'])
attribute [local go_sem ↓ high] suStore_eq
/-- What the loop keeps. -/
structure StS (w : World) (R V : Nat) (m : Nat) (pv : Value) (W : World) : Prop where
  res : Blk W R tSu #[.slice none 0 0, .int .i64 0, .slice none 0 0, .slice none 0 0, .int .i64 0, .int .i64 0]
  st : Blk W V tSu #[pv, .int .i64 0, .slice none 0 0, .slice none 0 0, .int .i64 0, .int .i64 0]
  own : PerOwn W w.heap.size pv (m + 1) (setB m)
  only : Only NoneOf w W
set_option maxRecDepth 100000 in
set_option maxHeartbeats 4000000 in
theorem setup_any (n : Int) (hn : In n) (w : World) : Calls Tryd.prog 7 #[.int .i64 n, .bool false] w fun e' w' => ∃ pv, e' = .returned (setV pv) ∧ PerSl w' pv (setB (nOff n)) ∧ Only NoneOf w w' := by
  obtain ⟨ie, z, hie, hsz, hz, hzc, hby⟩ := pers_info3
  obtain ⟨n0, n1⟩ := hn
  obtain ⟨R, eR⟩ : ∃ R, R = w.heap.size := ⟨_, rfl⟩
  obtain ⟨G, eG⟩ : ∃ G, G = R + 1 := ⟨_, rfl⟩
  obtain ⟨V, eV⟩ : ∃ V, V = G + 1 := ⟨_, rfl⟩
  obtain ⟨pc, epc⟩ : ∃ x : Int, x = (pub (secI 50) : Int) := ⟨_, rfl⟩
  obtain ⟨X, eX⟩ : ∃ X, X = (((w.alloc (.cells #[.slice none 0 0, .int .i64 0, .slice none 0 0, .slice none 0 0, .int .i64 0, .int .i64 0] 30)).alloc (.cells #[.int .i64 50, .int .i64 1, .int .i64 pc] 45)).alloc (.cells #[.slice none 0 0, .int .i64 0, .slice none 0 0, .slice none 0 0, .int .i64 0, .int .i64 0] 30)).setCells V 0 [.slice (some ⟨G, 0, none⟩) 1 1, .int .i64 0, .slice none 0 0, .slice none 0 0, .int .i64 0, .int .i64 0] := ⟨_, rfl⟩
  have h3 : Blk (((w.alloc (.cells #[.slice none 0 0, .int .i64 0, .slice none 0 0, .slice none 0 0, .int .i64 0, .int .i64 0] 30)).alloc (.cells #[.int .i64 50, .int .i64 1, .int .i64 pc] 45)).alloc (.cells #[.slice none 0 0, .int .i64 0, .slice none 0 0, .slice none 0 0, .int .i64 0, .int .i64 0] 30)) V tSu #[.slice none 0 0, .int .i64 0, .slice none 0 0, .slice none 0 0, .int .i64 0, .int .i64 0] := by
    have h3 := Blk.new ((w.alloc (.cells #[.slice none 0 0, .int .i64 0, .slice none 0 0, .slice none 0 0, .int .i64 0, .int .i64 0] 30)).alloc (.cells #[.int .i64 50, .int .i64 1, .int .i64 pc] 45)) tSu #[.slice none 0 0, .int .i64 0, .slice none 0 0, .slice none 0 0, .int .i64 0, .int .i64 0]
    rw [World.size_alloc, World.size_alloc, ← eR, ← eG, ← eV] at h3
    exact h3
  have hst0 := su_store (n := 1) (c := 1) (A := some ⟨G, 0, none⟩) h3 rfl
  have hs0 : StS w R V 0 (.slice (some ⟨G, 0, none⟩) 1 1) X := by
    have h2 := Blk.new (w.alloc (.cells #[.slice none 0 0, .int .i64 0, .slice none 0 0, .slice none 0 0, .int .i64 0, .int .i64 0] 30)) 45 #[.int .i64 50, .int .i64 1, .int .i64 pc]
    rw [World.size_alloc, ← eR, ← eG] at h2
    refine ⟨by rw [eX]; exact Blk.farCells (by omega) _ 0 (by rw [eR]; exact ((Blk.new w _ _).alloc _).alloc _), by rw [eX]; exact filled_whole h3 rfl, ⟨rfl, .inr ⟨G, 1, #[.int .i64 50, .int .i64 1, .int .i64 pc], rfl, by omega, by rw [eX]; exact Blk.farCells (by omega) _ 0 (h2.alloc _), Nat.le_refl _, by rw [maxLen_val]; omega, rfl, ?_⟩⟩, by rw [eX]; exact only_setCells ((((Only.refl _ _).alloc _).alloc _).alloc _) V 0 (.inr (by omega)) _⟩
    rw [epc]
    rfl
  have hsec := fun W => secret_any 50 (by omega) (by omega) W
  have hpub : ∀ W, Calls Tryd.prog 12 #[.int .i64 (secI 50)] W fun e' w' => e' = .returned (.int .i64 pc) ∧ w' = W := fun W => by rw [epc]; exact rpub_any _ W
  have HS0 := Lib.hid hs0
  have HSEC := Lib.hid hsec
  have HPUB := Lib.hid hpub
  have HIE := Lib.hid hie
  have HSZ := Lib.hid hsz
  have HZ := Lib.hid hz
  have HZC := Lib.hid hzc
  have HBY := Lib.hid hby
  have EX := Lib.hid eX
  have ER := Lib.hid eR
  have EG := Lib.hid eG
  have EV := Lib.hid eV
  have hwR : w.heap.size ≤ R ∧ R ≠ V ∧ w.heap.size ≤ V := by omega
  obtain ⟨hwR1, hRV, hwV⟩ := hwR
  rw [eG, eV, eG, eR] at hst0
  clear hs0 hsec hpub hie hsz hz hzc hby eX eR eG eV epc h3
  unfold setV
  go_enter Tryd.func7, Tryd.ntmps7
  go_wp2_with fail
  refine (HSEC.out _).mono ?_
  rintro e1 w1 ⟨rfl, rfl⟩
  go_wp2_with fail
  refine (HPUB.out _).mono ?_
  rintro e2 w2 ⟨rfl, rfl⟩
  go_upto_region 2 with (fail)
  clear hst0
  rw [← ER.out, ← EG.out, ← EV.out, ← EX.out]
  clear HSEC HPUB
  refine wp_gen (StS w R V 0 (.slice (some ⟨G, 0, none⟩) 1 1)) HS0.out ?_
  intro Y hY
  have HY := Lib.hid hY
  clear hY HS0
  go_wp2_with fail
  go_loopw [6] (fun i wr => ∃ (q : Nat) (pv : Value), i = .int .i64 (q : Int) ∧ 1 ≤ q ∧ q ≤ nOff n + 1 ∧ StS w R V (q - 1) pv wr) (fun i _ => 14 - (intOf i).toNat)
  case atStart => exact ⟨1, _, rfl, by omega, by omega, HY.out⟩
  case round =>
    obtain ⟨q, pv, rfl, hq1, hq2, hS⟩ := hrel
    have hno := nOff_le n
    by_cases hlt : q ≤ nOff n
    · have hle : (q : Int) ≤ min n 13 := by unfold nOff at hlt; omega
      obtain ⟨m, rfl⟩ : ∃ m, q = m + 1 := ⟨q - 1, by omega⟩
      rw [Nat.add_sub_cancel] at hS
      obtain ⟨k, ek⟩ : ∃ k : Nat, k = m + 1 := ⟨_, rfl⟩
      rw [← ek] at hle ⊢
      obtain ⟨pk, epk⟩ : ∃ x : Int, x = (pub (secI k) : Int) := ⟨_, rfl⟩
      have hpc : persC (offAt k) = [.int .i64 (k : Int), .int .i64 2, .int .i64 pk] := by rw [epk]; rfl
      have hsec : ∀ W, Calls Tryd.prog 9 #[.int .i64 (k : Int)] W fun e' w' => e' = .returned (.int .i64 (secI (k : Int))) ∧ w' = W := fun W => secret_any (k : Int) (by omega) (by omega) W
      have hpub : ∀ W, Calls Tryd.prog 12 #[.int .i64 (secI (k : Int))] W fun e' w' => e' = .returned (.int .i64 pk) ∧ w' = W := fun W => by rw [epk]; exact rpub_any _ W
      have hcells : (setB (m + 1)).flatMap persC = (setB m).flatMap persC ++ [.int .i64 (k : Int), .int .i64 2, .int .i64 pk] := by
        rw [setB_snoc, List.flatMap_append, List.flatMap_cons, List.flatMap_nil, List.append_nil, ← ek, hpc]
      have c0 : wr.cell? ⟨V, 0, none⟩ = some pv := hS.st.cell 0
      have HS := Lib.hid hS
      have HSEC := Lib.hid hsec
      have HPUB := Lib.hid hpub
      have HCELLS := Lib.hid hcells
      have hall : ∀ o, ((wr.alloc o).drew).ownsRow w.heap.size 45 3 pv (m + 1) ((setB m).flatMap persC) := fun o => World.ownsRow.alloc HS.out.own o
      have hne : pv.ownBlock ≠ some V := own_blk_ne HS.out.own HS.out.st (by decide)
      have hneR : pv.ownBlock ≠ some R := own_blk_ne HS.out.own HS.out.res (by decide)
      have hgr : ∀ o w1, (((wr.alloc o).drew).grownBy w1 pv.ownBlock) → Blk w1 V tSu #[pv, .int .i64 0, .slice none 0 0, .slice none 0 0, .int .i64 0, .int .i64 0] ∧ Blk w1 R tSu #[.slice none 0 0, .int .i64 0, .slice none 0 0, .slice none 0 0, .int .i64 0, .int .i64 0] ∧ Only NoneOf w w1 := fun o w1 hg =>
        ⟨((HS.out.st.alloc o).drew).grown hg (Ne.symm hne), ((HS.out.res.alloc o).drew).grown hg (Ne.symm hneR), ((HS.out.only.alloc o).drew).grown hg (fun j e => .inr (own_ge HS.out.own e).1)⟩
      have HALL := Lib.hid hall
      have HGR := Lib.hid hgr
      have HSZZ := Lib.hid HS.out.only.size
      have ca : ∀ o, (wr.alloc o).cell? ⟨V, 0, none⟩ = some pv := fun o => (HS.out.st.alloc o).cell 0
      have HEK := Lib.hid ek
      have hkm : k ≤ 13 ∧ m ≤ 12 := by omega
      obtain ⟨hk13, hm12⟩ := hkm
      clear hS hsec hpub hcells hpc hall hne hneR hgr epk ek hq1 hq2 hlt
      go_upto_region 5 with (fail)
      go_region_law (first
        | (refine step_append_lies _ (by rfl) _ _ _ (by rfl) w.heap.size 45 ie z 3 24 Tryd.underlying26 HIE.out HZ.out HSZ.out HBY.out HZC.out (by omega) pv (m + 1) ((setB m).flatMap persC) (by rfl) (HALL.out _) ⟨wr.heap.size, 0, none⟩ 1 1 [.int .i64 (k : Int), .int .i64 2, .int .i64 pk] (by rfl) (by rfl) (World.news_of_block (cs := #[.int .i64 (k : Int), .int .i64 2, .int .i64 pk]) (t := 45) (fr := (0, 0)) (heap_alloc_new wr _)) (by simp [Value.oneCell']) (by omega) (by rw [maxLen_val]; omega) (by omega) (by have := HSZZ.out; simp; omega) (wr.heap.size + 1) (by simp) ?_; intro g cap w1 hown1 hgrow hat hlt1; have hb1 := HGR.out _ w1 hgrow; have hf1 := hb1.1.frozen 0; have hc1 := hb1.1.cell 0; simp only [List.getElem?_toArray, List.getElem?_cons_zero] at hc1)
        | (go_simp; go_at_call 9; refine (HSEC.out _).mono ?_; rintro e1 w3 ⟨rfl, rfl⟩)
        | (go_simp; go_at_call 12; refine (HPUB.out _).mono ?_; rintro e2 w2 ⟨rfl, rfl⟩))
      all_goals
        have hgne : (Value.slice (some ⟨g, 0, none⟩) (m + 1 + 1) cap).ownBlock ≠ some V := own_blk_ne hown1 hb1.1 (by decide)
        have hnew : StS w R V (m + 1) (.slice (some ⟨g, 0, none⟩) (m + 1 + 1) cap) (w1.setCell ⟨V, 0, none⟩ (.slice (some ⟨g, 0, none⟩) (m + 1 + 1) cap)) := by
          refine ⟨Blk.far (p := ⟨V, 0, none⟩) hb1.2.1 hRV _, Blk.set_ hb1.1 0 _, ?_, hb1.2.2.setCell (p := ⟨V, 0, none⟩) (.inr hwV) _⟩
          unfold PerOwn
          rw [HCELLS.out]
          exact own_far hown1 (p := ⟨V, 0, none⟩) hgne _
        have HNEW := Lib.hid hnew
        clear hb1 hgne hnew hown1 hgrow hat hlt1 hf1 hc1 ca c0
        go_wp2_with fail
        go_roundw
        case rel => exact ⟨k + 1, _, by go_num, by omega, by have := HEK.out; unfold nOff; omega, by rw [Nat.add_sub_cancel, HEK.out]; exact HNEW.out⟩
        case measure => simp [intOf]; omega
    · have hqe : q = nOff n + 1 := by omega
      have hle : ¬ (q : Int) ≤ min n 13 := by rw [hqe]; unfold nOff; omega
      rw [hqe, Nat.add_sub_cancel] at hS
      have hsl : PerSl wr pv (setB (nOff n)) := PerOwn.sl (by rw [setB_len]; exact hS.own)
      obtain ⟨N, eN⟩ : ∃ N, N = nOff n + 1 := ⟨_, rfl⟩
      have hown := hS.own
      rw [← eN] at hown
      obtain ⟨pA, pcap, rfl, _, _⟩ := own_form' hown
      have r0 := hS.res.cell 0
      have r1 := hS.res.cell 1
      have r2 := hS.res.cell 2
      have r3 := hS.res.cell 3
      have r4 := hS.res.cell 4
      have r5 := hS.res.cell 5
      have c0 := hS.st.cell 0
      have c1 := hS.st.cell 1
      have c2 := hS.st.cell 2
      have c3 := hS.st.cell 3
      have c4 := hS.st.cell 4
      have c5 := hS.st.cell 5
      simp only [List.getElem?_toArray, List.getElem?_cons_zero, List.getElem?_cons_succ] at c0 c1 c2 c3 c4 c5 r0 r1 r2 r3 r4 r5
      have hinf : (Tryd.prog.info? tSu).map (·.size) = some 6 := by kernel_rfl
      have hb2 : Blk (wr.setCells R 0 [.slice pA N pcap, .int .i64 0, .slice none 0 0, .slice none 0 0, .int .i64 0, .int .i64 0]) R tSu #[.slice pA N pcap, .int .i64 0, .slice none 0 0, .slice none 0 0, .int .i64 0, .int .i64 0] := filled_whole hS.res rfl
      have hst := su_store (n := N) (c := pcap) (A := pA) hS.res rfl
      have ho2 : Only NoneOf w (wr.setCells R 0 [.slice pA N pcap, .int .i64 0, .slice none 0 0, .slice none 0 0, .int .i64 0, .int .i64 0]) := only_setCells hS.only R 0 (.inr hwR1) _
      have hsl2 : PerSl (wr.setCells R 0 [.slice pA N pcap, .int .i64 0, .slice none 0 0, .slice none 0 0, .int .i64 0, .int .i64 0]) (.slice pA N pcap) (setB (nOff n)) := by
        have h1 := own_blk_ne hown hS.res (by decide)
        have h2 : PerOwn (wr.setCells R 0 [.slice pA N pcap, .int .i64 0, .slice none 0 0, .slice none 0 0, .int .i64 0, .int .i64 0]) w.heap.size (.slice pA N pcap) N (setB (nOff n)) :=
          own_only hown (only_setCells (S := fun k => k = R) (Only.refl _ _) R 0 (.inl rfl) _) (fun k hk e => h1 (by rw [hk, e]))
        exact PerOwn.sl (by rw [setB_len, ← eN]; exact h2)
      have HB2 := Lib.hid hb2
      have HO2 := Lib.hid ho2
      have HSL := Lib.hid hsl2
      have HI := Lib.hid hinf
      clear hS hsl hsl2 hb2 ho2 hinf hown eN hqe hq1 hq2 hlt
      go_wp2_with fail
      refine bodyPost_ret (v := .agg #[.slice pA N pcap, .int .i64 0, .slice none 0 0, .slice none 0 0, .int .i64 0, .int .i64 0]) (results_blk rfl rfl HB2.out Tryd.underlying30 rfl (by simpa using HI.out)) rfl ⟨_, rfl, HSL.out, HO2.out⟩
end Go.Proofs.YtoehfainhmfghaaDoor
