/- What is proved here: the persons of the laws on signatures. Conditions: the seed is small. -/
import Derived.Test.YtclpebgjmgfigaaGreatDoorVerE
import Derived.Test.YtclpebgjmgfigaaGreatDoorM7
import Derived.Deep.RegionLaw
import Derived.Deep.AppendLies
namespace Go.Proofs.YtclpebgjmgfigaaGreatDoor
open Go.RowKit Go.Shelf
noncomputable def persAt (seed : Int) (k : Nat) : Pers := ⟨if k = 5 then 2 else (k : Int), 1 + (k : Int) % 4, (pub (seed + k) : Int)⟩
noncomputable def persL (seed : Int) (n : Nat) : List Pers := (List.range n).map (persAt seed)
theorem persL_len (seed : Int) (n : Nat) : (persL seed n).length = n := by simp [persL]
theorem persL_snoc (seed : Int) (n : Nat) : persL seed (n + 1) = persL seed n ++ [persAt seed n] := by simp [persL, List.range_succ]
theorem persC_len (p : Pers) : (persC p).length = 3 := rfl
/-- Persons that the call made. -/
def PerOwn (w : World) (base : Nat) (v : Value) (n : Nat) (P : List Pers) : Prop := w.ownsRow base 91 3 v n (P.flatMap persC)
theorem PerOwn.sl {w : World} {base : Nat} {v : Value} {P : List Pers} (h : PerOwn w base v P.length P) : PerSl w v P := by
  rcases h.2 with ⟨rfl, h0⟩ | ⟨g, cap, cur, rfl, hb, hh, hc, hm, hs, ht⟩
  · have hP0 : P = [] := List.eq_nil_of_length_eq_zero h0
    subst hP0
    exact ⟨none, 0, rfl, Nat.le_refl _, by omega, fun i e he => by simp at he⟩
  · rw [maxLen_val] at hm
    refine ⟨some ⟨g, 0, none⟩, cap, rfl, hc, hm, fun i p hp => ⟨g, 0, rfl, Blk.lt (t := 91) hh, fun j x hj => ?_⟩⟩
    have hj2 : j < 3 := (List.getElem?_eq_some_iff.1 hj).1
    have h1 := flat_get persC_len P i j hj2 p hp
    have h2 := World.ownsRow.cells h rfl (i * 3 + j) x (h1.trans hj)
    rw [Addr.add_mid, Nat.zero_add] at h2
    rw [Nat.zero_add]
    exact h2
theorem pers_info3 : ∃ ie z, Tryz.prog.info? 91 = some ie ∧ ie.size = 3 ∧ ie.zero = some z ∧ z.cells.size = 3 ∧ ie.bytes = 24 := by
  have h1 : (Tryz.prog.info? 91).map (·.size) = some 3 := by kernel_rfl
  have h2 : ((Tryz.prog.info? 91).bind (·.zero)).isSome = true := by kernel_rfl
  have h3 : (Tryz.prog.info? 91).map (·.bytes) = some 24 := by kernel_rfl
  have h4 : ((Tryz.prog.info? 91).bind (·.zero)).map (fun z => z.cells.size) = some 3 := by kernel_rfl
  cases hie : Tryz.prog.info? 91 with
  | none => simp [hie] at h1
  | some ie =>
    simp only [hie, Option.map_some, Option.some.injEq, Option.bind_some] at h1 h2 h3 h4
    obtain ⟨z, hz⟩ := Option.isSome_iff_exists.1 h2
    simp only [hz, Option.map_some, Option.some.injEq] at h4
    exact ⟨ie, z, rfl, h1, hz, h4, h3⟩
abbrev tSetup : TypeId := 58
/-- A setup stored, under a name that the walk does not open. -/
def stStore (p v : Value) : Sem Unit := Instr.storeAt 58 p v
theorem stStore_eq (p v : Value) : Instr.storeAt 58 p v = stStore p v := rfl
theorem st_store {W : World} {R n c : Nat} {A : Option Addr} {cs : Array Value} (h : Blk W R tSetup cs) (hs : cs.size = 6) : (stStore (.pointer (some ⟨R, 0, none⟩)) (.agg #[.slice A n c, .int .i64 0, .slice none 0 0, .slice none 0 0, .int .i64 0, .int .i64 0])).run Tryz.prog W = .ok () (W.setCells R 0 [.slice A n c, .int .i64 0, .slice none 0 0, .slice none 0 0, .int .i64 0, .int .i64 0]) :=
  run_storeAt_mid (P := Tryz.prog) W R 0 58 #[.slice A n c, .int .i64 0, .slice none 0 0, .slice none 0 0, .int .i64 0, .int .i64 0] (h.there 0 _ (by rw [hs]; simp)) (by kernel_rfl) (by simp [Value.oneCell'])
attribute [local go_sem ↓ high] stStore_eq
def setC (pv : Value) : Array Value := #[pv, .int .i64 0, .slice none 0 0, .slice none 0 0, .int .i64 0, .int .i64 0]
/-- What the loop keeps. -/
structure PeS (w : World) (R : Nat) (seed : Int) (n : Nat) (pv : Value) (W : World) : Prop where
  res : Blk W R tSetup #[.slice none 0 0, .int .i64 0, .slice none 0 0, .slice none 0 0, .int .i64 0, .int .i64 0]
  st : Blk W (R + 1) tSetup #[pv, .int .i64 0, .slice none 0 0, .slice none 0 0, .int .i64 0, .int .i64 0]
  own : PerOwn W w.heap.size pv n (persL seed n)
  only : Only NoneOf w W
set_option maxRecDepth 100000 in
set_option maxHeartbeats 4000000 in
theorem persons_any (seed : Int) (h0 : 0 ≤ seed) (h1 : seed ≤ 1048575) (w : World) : Calls Tryz.prog 24 #[.int .i64 seed] w fun e' w' => ∃ pv, e' = .returned (.agg #[pv, .int .i64 0, .slice none 0 0, .slice none 0 0, .int .i64 0, .int .i64 0]) ∧ PerSl w' pv (persL seed 6) ∧ Only NoneOf w w' := by
  obtain ⟨ie, z, hie, hsz, hz, hzc, hby⟩ := pers_info3
  obtain ⟨R, eR⟩ : ∃ R, R = w.heap.size := ⟨_, rfl⟩
  have hs0 : PeS w R seed 0 (.slice none 0 0) ((w.alloc (.cells #[.slice none 0 0, .int .i64 0, .slice none 0 0, .slice none 0 0, .int .i64 0, .int .i64 0] tSetup)).alloc (.cells #[.slice none 0 0, .int .i64 0, .slice none 0 0, .slice none 0 0, .int .i64 0, .int .i64 0] tSetup)) := by
    have h1 := Blk.new (w.alloc (.cells #[.slice none 0 0, .int .i64 0, .slice none 0 0, .slice none 0 0, .int .i64 0, .int .i64 0] tSetup)) tSetup #[.slice none 0 0, .int .i64 0, .slice none 0 0, .slice none 0 0, .int .i64 0, .int .i64 0]
    rw [World.size_alloc, ← eR] at h1
    exact ⟨by rw [eR]; exact (Blk.new w _ _).alloc _, h1, ⟨rfl, .inl ⟨rfl, rfl⟩⟩, ((Only.refl _ _).alloc _).alloc _⟩
  have HS0 := Lib.hid hs0
  have HIE := Lib.hid hie
  have HSZ := Lib.hid hsz
  have HZ := Lib.hid hz
  have HZC := Lib.hid hzc
  have HBY := Lib.hid hby
  have HER := Lib.hid eR
  clear hs0 hie hsz hz hzc hby
  have hwR : w.heap.size ≤ R := by omega
  clear eR
  go_enter Tryz.func24, Tryz.ntmps24
  go_upto_region 2 with (fail)
  rw [← HER.out]
  refine wp_gen (PeS w R seed 0 (.slice none 0 0)) HS0.out ?_
  intro Y hY
  have HY := Lib.hid hY
  clear hY HS0
  go_wp2_with fail
  go_loopw [4] (fun i wr => ∃ (k : Nat) (pv : Value), i = .int .i64 k ∧ k ≤ 6 ∧ PeS w R seed k pv wr) (fun i _ => 6 - (intOf i).toNat)
  case atStart => exact ⟨0, _, rfl, by omega, HY.out⟩
  case round =>
    obtain ⟨k, pv, rfl, hk, hS⟩ := hrel
    by_cases hlt : k < 6
    · have ik : (k : Int) < 6 := by omega
      obtain ⟨idv, eid⟩ : ∃ x : Int, x = (persAt seed k).id := ⟨_, rfl⟩
      have hid : idv = if k = 5 then 2 else (k : Int) := by rw [eid]; rfl
      obtain ⟨pw0, epw⟩ : ∃ x : Int, x = (pub (seed + (k : Int)) : Int) := ⟨_, rfl⟩
      obtain ⟨ro, ero⟩ : ∃ x : Int, x = 1 + (k : Int) % 4 := ⟨_, rfl⟩
      have hpc : persC (persAt seed k) = [.int .i64 idv, .int .i64 ro, .int .i64 pw0] := by rw [eid, epw, ero]; rfl
      have kw1 : IntKind.i64.wrap ((k : Int).tmod 4) = (k : Int) % 4 := by rw [Int.tmod_eq_emod_of_nonneg (by omega)]; exact IntWalk.i64_in _ (by omega)
      have kw2 : IntKind.i64.wrap (1 + (k : Int) % 4) = ro := by rw [ero]; exact IntWalk.i64_in _ (by omega)
      have kw3 : IntKind.i64.wrap (seed + (k : Int)) = seed + (k : Int) := IntWalk.i64_in _ (by omega)
      have hpub : ∀ W, Calls Tryz.prog 47 #[.int .i64 (seed + (k : Int))] W fun e' w' => e' = .returned (.int .i64 pw0) ∧ w' = W := fun W => by rw [epw]; exact rpub_any _ W
      have c0 : wr.cell? ⟨R + 1, 0, none⟩ = some pv := hS.st.cell 0
      have HS := Lib.hid hS
      have HPUB := Lib.hid hpub
      have HPC := Lib.hid hpc
      have HID := Lib.hid hid
      clear hS hpub hpc eid epw ero hid
      have hall : ∀ o, ((wr.alloc o).drew).ownsRow w.heap.size 91 3 pv k ((persL seed k).flatMap persC) := fun o => World.ownsRow.alloc HS.out.own o
      have hne : pv.ownBlock ≠ some (R + 1) := own_blk_ne HS.out.own HS.out.st (by decide)
      have hneR : pv.ownBlock ≠ some R := own_blk_ne HS.out.own HS.out.res (by decide)
      have hgr : ∀ o w1, (((wr.alloc o).drew).grownBy w1 pv.ownBlock) → Blk w1 (R + 1) tSetup #[pv, .int .i64 0, .slice none 0 0, .slice none 0 0, .int .i64 0, .int .i64 0] ∧ Blk w1 R tSetup #[.slice none 0 0, .int .i64 0, .slice none 0 0, .slice none 0 0, .int .i64 0, .int .i64 0] ∧ Only NoneOf w w1 := fun o w1 hg =>
        ⟨((HS.out.st.alloc o).drew).grown hg (Ne.symm hne), ((HS.out.res.alloc o).drew).grown hg (Ne.symm hneR), ((HS.out.only.alloc o).drew).grown hg (fun j e => .inr (own_ge HS.out.own e).1)⟩
      have HALL := Lib.hid hall
      have HGR := Lib.hid hgr
      have HSZZ := Lib.hid HS.out.only.size
      have ca : ∀ o, (wr.alloc o).cell? ⟨R + 1, 0, none⟩ = some pv := fun o => (HS.out.st.alloc o).cell 0
      have kt : (k : Int).tmod 4 = (k : Int) % 4 := Int.tmod_eq_emod_of_nonneg (by omega)
      clear hall hne hneR hgr
      by_cases h5 : k = 5
      · have ik5 : ((k : Int) == 5) = true := beq_iff_eq.2 (by omega)
        have hi : idv = 2 := by rw [HID.out, if_pos h5]
        clear h5
        have hpc2 : persC (persAt seed k) = [.int .i64 2, .int .i64 ro, .int .i64 pw0] := by rw [HPC.out, hi]
        have hcells : (persL seed (k + 1)).flatMap persC = (persL seed k).flatMap persC ++ [.int .i64 2, .int .i64 ro, .int .i64 pw0] := by
          rw [persL_snoc, List.flatMap_append, List.flatMap_cons, List.flatMap_nil, List.append_nil, hpc2]
        have HCELLS := Lib.hid hcells
        clear hi hpc2 hcells
        go_upto_region 8 with (fail)
        go_region_law (first
          | (refine step_append_lies _ (by rfl) _ _ _ (by rfl) w.heap.size 91 ie z 3 24 Tryz.underlying54 HIE.out HZ.out HSZ.out HBY.out HZC.out (by omega) pv k ((persL seed k).flatMap persC) (by rfl) (HALL.out _) ⟨wr.heap.size, 0, none⟩ 1 1 [.int .i64 2, .int .i64 ro, .int .i64 pw0] (by rfl) (by rfl) (World.news_of_block (cs := #[.int .i64 2, .int .i64 ro, .int .i64 pw0]) (t := 91) (fr := (0, 0)) (heap_alloc_new wr _)) (by simp [Value.oneCell']) (by omega) (by rw [maxLen_val]; omega) (by omega) (by have := HSZZ.out; simp; omega) (wr.heap.size + 1) (by simp) ?_; intro g cap w1 hown1 hgrow hat hlt; have hb1 := HGR.out _ w1 hgrow; have hf1 := hb1.1.frozen 0; have hc1 := hb1.1.cell 0; simp only [List.getElem?_toArray, List.getElem?_cons_zero] at hc1)
          | (go_simp; go_at_call 47; refine (HPUB.out _).mono ?_; rintro e2 w2 ⟨rfl, rfl⟩))
        all_goals
          have hb1 := HGR.out _ w1 hgrow
          have hgne : (Value.slice (some ⟨g, 0, none⟩) (k + 1) cap).ownBlock ≠ some (R + 1) := own_blk_ne hown1 hb1.1 (by decide)
          have hnew : PeS w R seed (k + 1) (.slice (some ⟨g, 0, none⟩) (k + 1) cap) (w1.setCell ⟨R + 1, 0, none⟩ (.slice (some ⟨g, 0, none⟩) (k + 1) cap)) := by
            refine ⟨Blk.far (p := ⟨R + 1, 0, none⟩) hb1.2.1 (show R ≠ R + 1 by omega) _, Blk.set_ hb1.1 0 _, ?_, hb1.2.2.setCell (p := ⟨R + 1, 0, none⟩) (.inr (show w.heap.size ≤ R + 1 by omega)) _⟩
            unfold PerOwn
            rw [HCELLS.out]
            exact own_far hown1 (p := ⟨R + 1, 0, none⟩) hgne _
          have HNEW := Lib.hid hnew
          clear hb1 hgne hnew hown1 hgrow hat hlt hf1 hc1 ca c0
          go_wp2_with fail
          go_roundw
          case rel => exact ⟨k + 1, _, by go_num, by omega, HNEW.out⟩
          case measure => simp [intOf]; omega
      · have ik5 : ((k : Int) == 5) = false := beq_eq_false_iff_ne.2 (by omega)
        have hi : idv = (k : Int) := by rw [HID.out, if_neg h5]
        have hpc2 : persC (persAt seed k) = [.int .i64 (k : Int), .int .i64 ro, .int .i64 pw0] := by rw [HPC.out, hi]
        have hcells : (persL seed (k + 1)).flatMap persC = (persL seed k).flatMap persC ++ [.int .i64 (k : Int), .int .i64 ro, .int .i64 pw0] := by
          rw [persL_snoc, List.flatMap_append, List.flatMap_cons, List.flatMap_nil, List.append_nil, hpc2]
        have HCELLS := Lib.hid hcells
        clear hi hpc2 hcells
        go_upto_region 8 with (fail)
        go_region_law (first
          | (refine step_append_lies _ (by rfl) _ _ _ (by rfl) w.heap.size 91 ie z 3 24 Tryz.underlying54 HIE.out HZ.out HSZ.out HBY.out HZC.out (by omega) pv k ((persL seed k).flatMap persC) (by rfl) (HALL.out _) ⟨wr.heap.size, 0, none⟩ 1 1 [.int .i64 (k : Int), .int .i64 ro, .int .i64 pw0] (by rfl) (by rfl) (World.news_of_block (cs := #[.int .i64 (k : Int), .int .i64 ro, .int .i64 pw0]) (t := 91) (fr := (0, 0)) (heap_alloc_new wr _)) (by simp [Value.oneCell']) (by omega) (by rw [maxLen_val]; omega) (by omega) (by have := HSZZ.out; simp; omega) (wr.heap.size + 1) (by simp) ?_; intro g cap w1 hown1 hgrow hat hlt; have hb1 := HGR.out _ w1 hgrow; have hf1 := hb1.1.frozen 0; have hc1 := hb1.1.cell 0; simp only [List.getElem?_toArray, List.getElem?_cons_zero] at hc1)
          | (go_simp; go_at_call 47; refine (HPUB.out _).mono ?_; rintro e2 w2 ⟨rfl, rfl⟩))
        all_goals
          have hb1 := HGR.out _ w1 hgrow
          have hgne : (Value.slice (some ⟨g, 0, none⟩) (k + 1) cap).ownBlock ≠ some (R + 1) := own_blk_ne hown1 hb1.1 (by decide)
          have hnew : PeS w R seed (k + 1) (.slice (some ⟨g, 0, none⟩) (k + 1) cap) (w1.setCell ⟨R + 1, 0, none⟩ (.slice (some ⟨g, 0, none⟩) (k + 1) cap)) := by
            refine ⟨Blk.far (p := ⟨R + 1, 0, none⟩) hb1.2.1 (show R ≠ R + 1 by omega) _, Blk.set_ hb1.1 0 _, ?_, hb1.2.2.setCell (p := ⟨R + 1, 0, none⟩) (.inr (show w.heap.size ≤ R + 1 by omega)) _⟩
            unfold PerOwn
            rw [HCELLS.out]
            exact own_far hown1 (p := ⟨R + 1, 0, none⟩) hgne _
          have HNEW := Lib.hid hnew
          clear hb1 hgne hnew hown1 hgrow hat hlt hf1 hc1 ca c0
          go_wp2_with fail
          go_roundw
          case rel => exact ⟨k + 1, _, by go_num, by omega, HNEW.out⟩
          case measure => simp [intOf]; omega
    · obtain rfl : k = 6 := by omega
      have hsl : PerSl wr pv (persL seed 6) := PerOwn.sl (by rw [persL_len]; exact hS.own)
      obtain ⟨pA, pcap, rfl, _, _⟩ := own_form' hS.own
      have r0 := hS.res.cell 0
      have r1 := hS.res.cell 1
      have r2 := hS.res.cell 2
      have r3 := hS.res.cell 3
      have r4 := hS.res.cell 4
      have r5 := hS.res.cell 5
      have c0 := hS.st.cell 0
      have c1 := hS.st.cell 1
      have c2 := hS.st.cell 2
      have c3 := hS.st.cell 3
      have c4 := hS.st.cell 4
      have c5 := hS.st.cell 5
      simp only [List.getElem?_toArray, List.getElem?_cons_zero, List.getElem?_cons_succ] at c0 c1 c2 c3 c4 c5 r0 r1 r2 r3 r4 r5
      have hinf : (Tryz.prog.info? tSetup).map (·.size) = some 6 := by kernel_rfl
      have hb2 : Blk (wr.setCells R 0 [.slice pA 6 pcap, .int .i64 0, .slice none 0 0, .slice none 0 0, .int .i64 0, .int .i64 0]) R tSetup #[.slice pA 6 pcap, .int .i64 0, .slice none 0 0, .slice none 0 0, .int .i64 0, .int .i64 0] := setCells_own hS.res rfl
      have hst := st_store (n := 6) (c := pcap) (A := pA) hS.res rfl
      have ho2 : Only NoneOf w (wr.setCells R 0 [.slice pA 6 pcap, .int .i64 0, .slice none 0 0, .slice none 0 0, .int .i64 0, .int .i64 0]) := only_setCells hS.only R 0 (.inr hwR) _
      have hgR : ∀ a, pA = some a → a.block ≠ R := fun a ha h => by
        have := own_blk_ne hS.own hS.res (by decide)
        rw [ha] at this
        rcases hS.own.2 with ⟨h0, _⟩ | ⟨g, c, cur, h0, _⟩
        · simp only [Value.slice.injEq] at h0; rw [ha] at h0; cases h0.1
        · simp only [Value.slice.injEq, ha, Option.some.injEq] at h0
          rw [h0.1] at this h
          simp only at h
          exact this (by simp [Value.ownBlock, h])
      have hsl2 : PerSl (wr.setCells R 0 [.slice pA 6 pcap, .int .i64 0, .slice none 0 0, .slice none 0 0, .int .i64 0, .int .i64 0]) (.slice pA 6 pcap) (persL seed 6) := by
        obtain ⟨A', cap', hv, h1, h2, h3⟩ := hsl
        refine ⟨A', cap', hv, h1, h2, fun i p hp => ?_⟩
        obtain ⟨g, o, hA, hg, hr⟩ := h3 i p hp
        simp only [Value.slice.injEq] at hv
        obtain ⟨rfl, _, rfl⟩ := hv
        refine ⟨g, o, hA, by rw [setCells_size]; exact hg, fun j v hj => ?_⟩
        rw [World.cell?_setCells_out R _ 0 wr ⟨g, o + i * 3 + j, none⟩ (fun hb => absurd hb (hgR ⟨g, o, none⟩ hA))]
        exact hr j v hj
      have HB2 := Lib.hid hb2
      have HO2 := Lib.hid ho2
      have HSL := Lib.hid hsl2
      have HI := Lib.hid hinf
      clear hS hsl hgR hsl2 hb2 ho2 hinf
      go_wp2_with fail
      refine bodyPost_ret (v := .agg #[.slice pA 6 pcap, .int .i64 0, .slice none 0 0, .slice none 0 0, .int .i64 0, .int .i64 0]) (results_blk rfl rfl HB2.out Tryz.underlying58 rfl (by simpa using HI.out)) rfl ⟨_, rfl, HSL.out, HO2.out⟩
end Go.Proofs.YtclpebgjmgfigaaGreatDoor
