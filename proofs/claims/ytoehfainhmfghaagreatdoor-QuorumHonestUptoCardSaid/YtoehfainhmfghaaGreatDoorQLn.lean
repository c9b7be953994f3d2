/- What is proved here: the law on who votes for heads of one list alone answers true. Conditions: the numbers are bytes; the table of powers of ten reads as its initialiser lays it. -/
import Derived.Test.YtoehfainhmfghaaGreatDoorQLo
import Derived.Test.YtoehfainhmfghaaGreatDoorQZb
import Derived.Deep.CutBlock
namespace Go.Proofs.YtoehfainhmfghaaGreatDoor
open Go.RowKit Go.Shelf
attribute [local go_sem ↓ high] vtBs1_eq vtLoad_eq hdLoad_eq sgLoad_eq vtNew_eq vtStore_eq
/-- The four heads of the first list. -/
theorem gl_first {W : World} {gv : Value} (h : GlSl W gv (listsG false)) : ∃ gg go gc gh oh hc, gv = .slice (some ⟨gg, go, none⟩) 2 gc ∧ W.cell? ⟨gg, go, none⟩ = some (.slice (some ⟨gh, oh, none⟩) 4 hc) ∧ 4 ≤ hc ∧ ∀ j : Nat, j < 4 → W.rangeAt gh (oh + j * 33) (hdC (headI (2 * (j : Int)))) := by
  obtain ⟨A, gc, rfl, _, _, hr⟩ := h
  obtain ⟨gg, go, lv, rfl, hcell, hls⟩ := hr 0 [headI 0, headI 2, headI 4, headI 6] rfl
  obtain ⟨A', hc, rfl, hlc, _, hh⟩ := hls
  obtain ⟨gh, oh, rfl, _, _⟩ := hh 0 _ rfl
  refine ⟨gg, go, gc, gh, oh, hc, rfl, hcell, hlc, fun j hj => ?_⟩
  obtain ⟨g', o', e, _, hrr⟩ := hh j (headI (2 * (j : Int))) (by
    have hc : j = 0 ∨ j = 1 ∨ j = 2 ∨ j = 3 := by omega
    rcases hc with rfl | rfl | rfl | rfl <;> rfl)
  simp only [Option.some.injEq, Addr.mk.injEq, and_true] at e
  obtain ⟨rfl, rfl⟩ := e
  exact hrr
/-- A slice literal of no vote. -/
def vtBs0 (parts : Array (Nat × Value)) : Sem Value := Instr.buildSlice 41 0 parts
theorem vtBs0_eq (parts : Array (Nat × Value)) : Instr.buildSlice 41 0 parts = vtBs0 parts := rfl
theorem bs0_run (W : World) : (vtBs0 #[]).run Tryz.prog W = .ok (.slice (some ⟨W.heap.size, 0, none⟩) 0 0) (W.alloc (.cells #[] 30)) := by kernel_rfl
theorem append_none (ty : TypeId) (W : World) (A : Option Addr) (n c : Nat) (h : n ≤ c) : (Builtin.append_ #[41, 41] ty #[.slice A n c, .slice none 0 0]).run Tryz.prog W = .ok (.slice A n c) W := by
  obtain ⟨ie, z, hie, hsz, hz, hzc, hby⟩ := vt_info
  cases A <;> simp [Builtin.append_, run_underlying (P := Tryz.prog) Tryz.underlying41, sizeOf, typeInfo, zeroValue, hie, hz, Builtin.lenOf, h, run_firstCells_none, storeCells]
attribute [local go_sem ↓ high] vtBs0_eq
/-- What lies there of a vote while a list is made. -/
structure HvS (Y : World) (M : List Vt) (av : Value) (N : Nat) (v : Vt) (W : World) : Prop where
  o : OvS Y M av W
  v : VtAt W N v
  low : Y.heap.size ≤ N
  far : ∀ g, av.ownBlock = some g → g ≠ N
theorem HvS.keep {Y : World} {M : List Vt} {av : Value} {N : Nat} {v : Vt} {W W' : World} (h : HvS Y M av N v W) (ho : Only NoneOf W W') : HvS Y M av N v W' := ⟨h.o.keep ho, Blk.only h.v ho (fun e => e), h.low, h.far⟩
theorem HvS.put {Y : World} {M : List Vt} {av : Value} {N : Nat} {v u : Vt} {W : World} (h : HvS Y M av N v W) (lv : v.head.root.length = 32) (lu : u.head.root.length = 32) : HvS Y M av N u (W.setCells N 0 (vtC u)) := by
  refine ⟨⟨?_, h.o.ok, only_setCells h.o.only N 0 (.inr h.low) _⟩, filled_whole (ds := vtC u) h.v (by rw [vtC_len lu, List.size_toArray, vtC_len lv]), h.low, h.far⟩
  exact own_only h.o.own (only_setCells (S := fun k => k = N) (Only.refl _ _) N 0 (.inl rfl) _) (fun k hk e => h.far k hk e)
set_option maxRecDepth 100000 in
set_option maxHeartbeats 4000000 in
theorem honest_law (n : Nat) (hn : n < 256) (bt : Nat) (_hbt : bt < 256) (L : List Bal) (hok : BalsOk L) (sv : Value) (w : World) (hs : BalSl w sv L) (ht : Tab w) :
    Calls Tryz.prog 6 #[.int .u8 (n : Int), .int .u8 (bt : Int), sv] w fun e w' => e = .returned (.bool true) ∧ Only NoneOf w w' := by
  obtain ⟨LA, lcap, rfl, hllc, hlcm, hLA⟩ := hs
  obtain ⟨i, ei⟩ : ∃ i : Nat, i = n % 13 := ⟨_, rfl⟩
  have hi : i < 13 := by omega
  have kt : (n : Int).tmod 13 = (i : Int) := by rw [ei, Int.tmod_eq_emod_of_nonneg (by omega)]; omega
  have kw1 : IntKind.u8.wrap (i : Int) = (i : Int) := by rw [IntKind.wrap_u8]; omega
  have kw2 : IntKind.i64.wrap (i : Int) = (i : Int) := IntWalk.i64_in _ (by omega)
  obtain ⟨j, ej⟩ : ∃ j : Nat, 1 + (i : Int) = (j : Int) := ⟨i + 1, by omega⟩
  have hj : 1 ≤ j ∧ j ≤ 13 := by omega
  have kwj : IntKind.i64.wrap (j : Int) = (j : Int) := IntWalk.i64_in _ (by omega)
  have hin : In (13 : Int) := ⟨by omega, by omega⟩
  have hsu : ∀ W, Calls Tryz.prog 16 #[.int .i64 13, .bool false] W fun e' w' => ∃ pv, e' = .returned (setV pv) ∧ PerSl w' pv (setB 13) ∧ Only NoneOf W w' := fun W => (setupO_any 13 hin false W).mono (fun e' w' ⟨pv, h1, h2, h3⟩ => ⟨pv, h1, by rw [setO_false] at h2; exact h2, h3⟩)
  have hP : PersOk (setB 13) := setB_ok 13 (by omega)
  have hPl : (setB 13).length ≤ 1000 := by rw [setB_len]; omega
  obtain ⟨P, eP⟩ : ∃ P, P = setB 13 := ⟨_, rfl⟩
  have hplen : P.length = 14 := by rw [eP, setB_len]
  rw [← eP] at hsu hP hPl
  have hsa : ∀ W, Only NoneOf w W → Calls Tryz.prog 11 #[] W fun e w' => e = .returned (.bool true) ∧ Only NoneOf W w' := fun W ho => sanity29 W (ht.none ho)
  have hli : ∀ W, Calls Tryz.prog 18 #[.bool false] W fun e w' => ∃ gv, e = .returned gv ∧ GlSl w' gv (listsG false) ∧ Only NoneOf W w' := fun W => lists_any false W
  have HSU := Lib.hid hsu
  have HLI := Lib.hid hli
  have HSA := Lib.hid hsa
  have HP := Lib.hid hP
  have HPL := Lib.hid hPl
  have HT := Lib.hid ht
  have EP := Lib.hid eP
  have HPLEN := Lib.hid hplen
  have HSL := Lib.hid hLA
  have HOK := Lib.hid hok
  clear hsu hli hsa ht ei hok hLA hn hP hPl eP hplen
  go_enter Tryz.func6, Tryz.ntmps6
  go_wp2_with fail
  refine (HSA.out _ (Only.refl _ _)).mono ?_
  rintro e1 w1 ⟨rfl, ho1⟩
  have HO1 := Lib.hid ho1
  clear ho1 HSA
  go_wp2_with fail
  refine (HSU.out _).mono ?_
  rintro e2 w2 ⟨pv, rfl, hpv, ho2⟩
  have HO2 := Lib.hid (HO1.out.trans ho2)
  obtain ⟨pA, pcap, rfl, _, _, _⟩ := id hpv
  obtain ⟨B, eB⟩ : ∃ B, B = w2.heap.size := ⟨_, rfl⟩
  obtain ⟨X, eX⟩ : ∃ X, X = w2.alloc (.cells #[.slice pA P.length pcap, .int .i64 0, .slice none 0 0, .slice none 0 0, .int .i64 0, .int .i64 0] 39) := ⟨_, rfl⟩
  have hX1 : Blk X B tSu #[.slice pA P.length pcap, .int .i64 0, .slice none 0 0, .slice none 0 0, .int .i64 0, .int .i64 0] := by rw [eX, eB]; exact Blk.new w2 _ _
  have hX2 : Only NoneOf w2 X := by rw [eX]; exact (Only.refl _ _).alloc _
  have HX := Lib.hid (And.intro hX1 (And.intro (hpv.only hX2) (HO2.out.trans hX2)))
  have EB := Lib.hid eB
  have EX := Lib.hid eX
  clear hpv ho2 hX1 hX2 eB eX HO2 HSU
  unfold setV
  go_upto_region 3 with (fail)
  rw [← EB.out, ← EX.out]
  clear EB EX
  go_wp2_with fail
  clear ej
  refine (HLI.out _).mono ?_
  rintro e4 Z ⟨gv, rfl, hgv, ho4⟩
  obtain ⟨gg, go, gc, gh, oh, hc, rfl, hgc, hhc, hgh⟩ := gl_first hgv
  have hGok := listsG_ok false
  have HGOK := Lib.hid hGok
  have HGV := Lib.hid hgv
  have HGC := Lib.hid hgc
  have HGH := Lib.hid hgh
  have HLW : Hid (∀ W, Only NoneOf Z W → Blk W B tSu #[.slice pA P.length pcap, .int .i64 0, .slice none 0 0, .slice none 0 0, .int .i64 0, .int .i64 0] ∧ PerSl W (.slice pA P.length pcap) P ∧ Only NoneOf w W) := Lib.hid (fun W h => by
    have h1 := ho4.trans h
    exact ⟨HX.out.1.only h1 (fun e => e), HX.out.2.1.only h1, HX.out.2.2.trans h1⟩)
  obtain ⟨ie, zz, hie, hsz, hz, hzc, hby⟩ := vt_info
  have HIE := Lib.hid hie
  have HSZ := Lib.hid hsz
  have HZZ := Lib.hid hz
  have HZC := Lib.hid hzc
  have HBY := Lib.hid hby
  clear hie hsz hz hzc hby hgv hGok hgc hgh ho4 HLI
  go_wp2_with fail
  go_loopw [11, 12] (fun ov kv wr => ∃ (k : Nat) (M : List Vt), kv = .int .i64 k ∧ k ≤ 4 ∧ M.length ≤ k ∧ (∀ v ∈ M, ∃ q : Nat, q < 4 ∧ v.head = headI (2 * (q : Int))) ∧ (M = [] → ov = .slice none 0 0) ∧ OvS Z M ov wr) (fun _ kv _ => 4 - (intOf kv).toNat)
  case atStart => exact ⟨0, [], rfl, by omega, by simp, fun _ h => (by cases h), fun _ => rfl, ⟨⟨rfl, .inl ⟨rfl, rfl⟩⟩, fun _ h => (by cases h), Only.refl _ _⟩⟩
  case round =>
    obtain ⟨k, M, rfl, hk, hMl, hMh, hMn, hS⟩ := hrel
    have HS := Lib.hid hS
    have HMH := Lib.hid hMh
    have HMN := Lib.hid hMn
    have cg : wr.cell? ⟨gg, go, none⟩ = some (.slice (some ⟨gh, oh, none⟩) 4 hc) := hS.only.cell_some HGC.out (fun e => e)
    clear hMh hMn hS
    by_cases hk4 : k < 4
    · have ik : (k : Int) < 4 := by omega
      have ik0 : (0 : Int) ≤ (k : Int) := by omega
      obtain ⟨β, eβ⟩ : ∃ β, (bits BinOp.and IntKind.u8 ((bt : Int) / 2 ^ k) 1 == 1) = β := ⟨_, rfl⟩
      cases β with
      | false =>
        go_wp2_with fail
        go_roundw
        case rel => exact ⟨k + 1, M, by go_num, by omega, by omega, HMH.out, HMN.out, HS.out⟩
        case measure => simp [intOf]; omega
      | true =>
        obtain ⟨h, eh⟩ : ∃ h, h = headI (2 * (k : Int)) := ⟨_, rfl⟩
        have hho : h.Ok := by rw [eh]; exact headI_ok _
        have hl := hho.root
        have hrg := HGH.out k hk4
        rw [← eh] at hrg
        obtain ⟨sec, esec⟩ : ∃ s, s = secI (j : Int) := ⟨_, rfl⟩
        obtain ⟨V, eV⟩ : ∃ V, V = voteOf (j : Int) sec h := ⟨_, rfl⟩
        have vo : V.Ok := by rw [eV]; exact vote_ok ⟨by omega, by omega⟩ hho
        have S1 : Hid (∀ W, Calls Tryz.prog 23 #[.int .i64 (j : Int)] W fun e' w' => e' = .returned (.int .i64 sec) ∧ w' = W) := Lib.hid (fun W => by rw [esec]; exact secret_any (j : Int) (by omega) (by omega) W)
        have V1 : Hid (∀ W, Only NoneOf Z W → Calls Tryz.prog 12 #[.int .i64 (j : Int), .int .i64 sec, .agg (hdC h).toArray] W fun e' w' => e' = .returned (.agg (vtC V).toArray) ∧ Only NoneOf W w') := Lib.hid (fun W ho => by rw [eV]; exact qvote_any (j : Int) sec h hho W (HT.out.none (HLW.out W ho).2.2))
        have hbs := bs1_run V vo.head.root
        have c1 : ∀ W, Only NoneOf Z W → W.cell? ⟨gg, go, none⟩ = some (.slice (some ⟨gh, oh, none⟩) 4 hc) := fun W h => h.cell_some HGC.out (fun e => e)
        have c2 : ∀ W, Only NoneOf Z W → (hdLoad (.pointer (some ⟨gh, oh + k * 33, none⟩))).run Tryz.prog W = .ok (.agg (hdC h).toArray) W := fun W ho => hd_load (rng_only hrg ho) hl
        have HVO := Lib.hid vo
        have HVH : Hid (∀ v ∈ M ++ [V], ∃ q : Nat, q < 4 ∧ v.head = headI (2 * (q : Int))) := Lib.hid (fun v hv => by
          rcases List.mem_append.1 hv with hv | hv
          · exact HMH.out v hv
          · rw [List.mem_singleton.1 hv, eV]; exact ⟨k, hk4, eh⟩)
        have HLK : Hid (∀ W W', OvS Z M u11 W → Only NoneOf W W' → OvS Z M u11 W') := Lib.hid (fun W W' h ho => h.keep ho)
        have HOW : Hid (∀ W, OvS Z M u11 W → W.ownsRow Z.heap.size 30 36 u11 M.length (M.flatMap vtC)) := Lib.hid (fun W h => h.own)
        have HAP : Hid (∀ W o w1 g cap, OvS Z M u11 W → w1.ownsRow Z.heap.size 30 36 (.slice (some ⟨g, 0, none⟩) (M.length + 1) cap) (M.length + 1) (M.flatMap vtC ++ vtC V) → (W.alloc o).grownBy w1 u11.ownBlock → OvS Z (M ++ [V]) (.slice (some ⟨g, 0, none⟩) (M.length + 1) cap) w1) := Lib.hid (fun W o w1 g cap h h1 h3 => h.app HVO.out o h1 h3)
        have hS0 : Only NoneOf Z wr.drew := HS.out.only.drew
        have hL0 : OvS Z M u11 wr.drew := HS.out.keep (Only.refl _ _).drew
        clear eV esec eh hho vo hl hrg
        go_upto_region 10 with (fail)
        go_region_held3 (fun W => Only NoneOf Z W) (first | (with_reducible assumption) | (with_reducible exact Only.alloc (by with_reducible assumption) _))
          (first
            | (refine step_append_lies _ (by rfl) _ _ _ (by rfl) Z.heap.size 30 ie zz 36 ie.bytes Tryz.underlying41 HIE.out HZZ.out HSZ.out rfl HZC.out (by omega) u11 M.length (M.flatMap vtC) (by rfl) (World.ownsRow.alloc (HOW.out _ (by with_reducible assumption)) _) _ 1 1 (vtC V) (by rfl) (by rw [vtC_len HVO.out.head.root]) (World.news_of_block (cs := (vtC V).toArray) (t := 30) (fr := (0, 0)) (NewB.new _ V)) (vtC_one V) (by omega) (by rw [maxLen_val]; omega) (by have := HBY.out; exact Nat.le_trans (Nat.mul_le_mul (show M.length + 1 ≤ 100 by omega) this) (by omega)) (Only.size (by with_reducible first | assumption | exact Only.alloc (by assumption) _)) _ rfl ?_; intro g2 cap2 w5 hown2 hgrow2 hat2 hlt2; have hLT := HAP.out _ _ w5 g2 cap2 (by with_reducible assumption) hown2 hgrow2; have hS2 := hLT.only; clear hown2 hgrow2 hat2 hlt2)
            | (go_at_call 23; (with_reducible refine (S1.out _).mono ?_); rintro e5 w6 ⟨rfl, rfl⟩)
            | (go_at_call 12; (with_reducible refine (V1.out _ (by assumption)).mono ?_); rintro e6 w6 ⟨rfl, ho6⟩; have hS6 := Only.trans (by with_reducible assumption) ho6; have hL6 := HLK.out _ _ (by with_reducible assumption) ho6; clear ho6))
        have HNEW := Lib.hid hLT
        clear hLT hS2 hL0 hS0 hbs c1 c2 hS6 hL6
        go_wp2_with fail
        go_roundw
        case rel => exact ⟨k + 1, M ++ [V], by go_num, by omega, by rw [List.length_append]; simp; omega, HVH.out, fun e => by simp at e, HNEW.out⟩
        case measure => simp [intOf]; omega
    · have ik4 : ¬ (k : Int) < 4 := by omega
      have hMl4 : M.length ≤ 4 := by omega
      obtain ⟨k4, rfl⟩ : ∃ k4 : Nat, k4 = k := ⟨_, rfl⟩
      clear hk4 hk hMl
      obtain ⟨Y, rfl⟩ : ∃ Y : World, Y = wr := ⟨_, rfl⟩
      obtain ⟨ow, rfl⟩ : ∃ ow : Value, ow = u11 := ⟨_, rfl⟩
      have hb0 := bs0_run Y
      go_upto_region 11 with (fail)
      go_cut [13] (fun cv wx => ∃ av : Value, av = cv ∧ OvS Y M av wx)
      case first =>
        by_cases hM : M = []
        · have hn := HMN.out hM
          subst hn
          subst hM
          have hap := fun ty W A => append_none ty W A 0 0 (Nat.le_refl _)
          have hfin : OvS Y [] (.slice (some ⟨Y.heap.size, 0, none⟩) 0 0) (Y.alloc (.cells #[] 30)) := ⟨World.ownsRow_made Y #[] 0 (Nat.le_refl _) (by omega) rfl, fun _ h => (by cases h), (Only.refl _ _).alloc _⟩
          have HFIN := Lib.hid hfin
          clear hfin
          go_wp2_with fail
          go_meet
          case rel => exact ⟨_, rfl, HFIN.out⟩
        · have hM1 : 0 < M.length := List.length_pos_iff.2 hM
          obtain ⟨gm, cm, rfl, _, hgm, _, _⟩ := own_form HS.out.own hM1
          have hmade : (Y.alloc (.cells #[] 30)).ownsRow Y.heap.size 30 36 (.slice (some ⟨Y.heap.size, 0, none⟩) 0 0) 0 [] := World.ownsRow_made Y #[] 0 (Nat.le_refl _) (by omega) rfl
          have hnews : ∀ j u, (M.flatMap vtC)[j]? = some u → (Y.alloc (.cells #[] 30)).cell? (Addr.add ⟨gm, 0, none⟩ j) = some u := World.ownsRow.cells (World.ownsRow.alloc HS.out.own _) rfl
          have hone : ∀ u ∈ M.flatMap vtC, u.oneCell' = true := fun u hu => by
            obtain ⟨x, _, h⟩ := List.mem_flatMap.1 hu
            exact vtC_one x u h
          have hlen := HS.out.own.1
          clear hM
          go_wp2_with (at_builtin; refine wpList_append_lies _ rfl _ _ 41 rfl Y.heap.size 30 ie zz 36 ie.bytes Tryz.underlying41 HIE.out HZZ.out HSZ.out rfl HZC.out (by omega) (.slice (some ⟨Y.heap.size, 0, none⟩) 0 0) 0 [] rfl hmade ⟨gm, 0, none⟩ M.length cm (M.flatMap vtC) rfl hlen hnews hone hM1 (by rw [maxLen_val]; omega) (by have := HBY.out; exact Nat.le_trans (Nat.mul_le_mul (show 0 + M.length ≤ 100 by omega) this) (by omega)) (by simp) _ rfl ?_; intro g3 cap3 w8 hown3 hgrow3 hat3 hlt3)
          have hfin : OvS Y M (.slice (some ⟨g3, 0, none⟩) M.length cap3) w8 := by
            refine ⟨?_, HS.out.ok, ((Only.refl _ _).alloc _).grown hgrow3 (fun q e => .inr (by have e2 : Y.heap.size = q := Option.some.inj e; omega))⟩
            unfold VtOwn
            simpa using hown3
          have HFIN := Lib.hid hfin
          clear hfin hown3 hgrow3 hat3 hlt3 hmade hnews hone hlen hb0
          go_wp2_with fail
          go_meet
          case rel => exact ⟨_, rfl, by simpa using HFIN.out⟩
      case rest =>
      obtain ⟨av, rfl, hS2⟩ := hcut
      have HS2 := Lib.hid hS2
      have hHon : Hon j M := fun v hv => .inr (HMH.out v hv)
      have HHON := Lib.hid hHon
      have HYW : Hid (∀ W, Only NoneOf Y W → Only NoneOf Z W) := Lib.hid (fun W h => HS.out.only.trans h)
      clear hS2 hHon hb0 cg
      go_upto_block 2 with fail
      go_cut [13] from 54 to 103 (fun cv wx => ∃ (M2 : List Vt) (av2 : Value), av2 = cv ∧ M2.length ≤ 44 ∧ Hon j M2 ∧ OvS Y M2 av2 wx)
      case first =>
       as_aux_lemma =>
        go_wp2_with fail
        go_loopw [13, 14] (fun cv kv wr2 => ∃ (k : Nat) (M2 : List Vt), kv = .int .i64 k ∧ k ≤ L.length ∧ k ≤ 40 ∧ M2.length ≤ 4 + k ∧ Hon j M2 ∧ OvS Y M2 cv wr2) (fun _ kv _ => L.length - (intOf kv).toNat)
        case atStart => exact ⟨0, M, rfl, by omega, by omega, by omega, HHON.out, HS2.out⟩
        case round =>
          obtain ⟨k, M2, rfl, hk, hk40, hMl2, hHo, hS⟩ := hrel
          have HS3 := Lib.hid hS
          have HHO := Lib.hid hHo
          clear hHo
          by_cases hlt : k < L.length ∧ k < 40
          · obtain ⟨hlt, h40⟩ := hlt
            obtain ⟨bb, hb⟩ : ∃ b, L[k]? = some b := ⟨_, List.getElem?_eq_getElem hlt⟩
            obtain ⟨g, o, hA', hg, hr⟩ := HSL.out k bb hb
            subst hA'
            have ok := HOK.out bb (List.mem_of_getElem? hb)
            have hwY := fun W (h : Only NoneOf Y W) => (HLW.out _ (HYW.out W h)).2.2
            have hr2 := rng_only hr (hwY _ hS.only)
            have d1 : decide ((k : Int) < (L.length : Int)) = true := decide_eq_true (by omega)
            have d2 : decide ((k : Int) < 40) = true := decide_eq_true (by omega)
            have ik : (k : Int) < (L.length : Int) := by omega
            have ik0 : (0 : Int) ≤ (k : Int) := by omega
            have c0 : wr.cell? ⟨g, o + k * 3, none⟩ = some (.int .u8 (bb.who : Int)) := hr2 0 _ rfl
            have c1 : wr.cell? ⟨g, o + k * 3 + 1, none⟩ = some (.int .u8 (bb.head : Int)) := hr2 1 _ rfl
            have c2 : wr.cell? ⟨g, o + k * 3 + 2, none⟩ = some (.int .u8 (bb.wrong : Int)) := hr2 2 _ rfl
            obtain ⟨V, eV⟩ : ∃ V, V = balV bb := ⟨_, rfl⟩
            have vo : V.Ok := by rw [eV]; exact balV_ok bb
            have hbal : ∀ W, Calls Tryz.prog 27 #[.agg #[.int .u8 (bb.who : Int), .int .u8 (bb.head : Int), .int .u8 (bb.wrong : Int)]] W fun e w' => e = .returned (.agg (vtC V).toArray) ∧ Only NoneOf W w' := fun W => by rw [eV]; exact bal_any bb ok W
            have HBAL := Lib.hid hbal
            have HVO := Lib.hid vo
            have HR := Lib.hid hr
            have hbw := ok.wrong
            clear hbal eV hr hr2 ok hb vo hS hwY
            go_wp2_with fail
            refine (HBAL.out _).mono ?_
            rintro e6 w6 ⟨rfl, ho6⟩
            have hst := vt_store_new w6 HVO.out.head.root
            have hnw := vtNew_run
            have hO7 : Only NoneOf w6 ((w6.alloc (.cells vt0C 30)).setCells w6.heap.size 0 (vtC V)) := only_setCells ((Only.refl _ _).alloc _) w6.heap.size 0 (.inr (Nat.le_refl _)) _
            have h6 := HS3.out.keep ho6
            have hF : HvS Y M2 u13 w6.heap.size V ((w6.alloc (.cells vt0C 30)).setCells w6.heap.size 0 (vtC V)) := ⟨h6.keep hO7, filled_whole (Blk.new w6 tVt vt0C) (by rw [vtC_len HVO.out.head.root]; rfl), h6.size, fun g hg e => by have := (own_ge h6.own hg).2; omega⟩
            obtain ⟨N1, eN1⟩ : ∃ N, N = w6.heap.size := ⟨_, rfl⟩
            rw [← eN1] at hF
            have HF := Lib.hid hF
            have EN1 := Lib.hid eN1
            clear hF eN1 ho6 hO7 c0 c1 c2 h6
            go_upto_region 16 with (fail)
            rw [← EN1.out]
            refine wp_gen (HvS Y M2 u13 N1 V) HF.out ?_
            intro W6 hS6
            obtain ⟨a13, ea13⟩ : ∃ x, x = V.who := ⟨_, rfl⟩
            have c13 : W6.cell? ⟨N1, 0, none⟩ = some (.int .i64 a13) := by rw [ea13]; exact Blk.cell hS6.v 0
            have hld := vt_load (blk_range hS6.v) HVO.out.head.root
            have HS6 := Lib.hid hS6
            have EA := Lib.hid ea13
            clear hst hnw HF EN1 hS6 ea13
            by_cases hne : a13 = (j : Int)
            · have dn : (a13 == (j : Int)) = true := by simp [hne]
              obtain ⟨sec, esec⟩ : ∃ s, s = secI (j : Int) := ⟨_, rfl⟩
              have hsb : sec = 1000 + 7 * (j : Int) := by rw [esec]; rfl
              obtain ⟨V', eV'⟩ : ∃ V', V' = voteOf (j : Int) (sec + 1 + (bb.wrong : Int)) V.head := ⟨_, rfl⟩
              have vo' : V'.Ok := by rw [eV']; exact vote_ok ⟨by omega, by omega⟩ HVO.out.head
              have vw : V'.who = (j : Int) := by rw [eV']; rfl
              have vh : V'.head = V.head := by rw [eV']; rfl
              have kw6 : IntKind.i64.wrap (sec + 1) = sec + 1 := IntWalk.i64_in _ (by omega)
              have kw7 : IntKind.i64.wrap (bb.wrong : Int) = (bb.wrong : Int) := IntWalk.i64_in _ (by omega)
              have kw8 : IntKind.i64.wrap (sec + 1 + (bb.wrong : Int)) = sec + 1 + (bb.wrong : Int) := IntWalk.i64_in _ (by omega)
              obtain ⟨Ft, hFt⟩ := family (HvS Y M2 u13 N1 V) (HS6.out.keep (Only.refl _ _).drew)
              obtain ⟨F, hI, hF0, hF, hFS⟩ := hFt
              have hwF : ∀ x, Only NoneOf w (F x) := fun x => (HLW.out _ (HYW.out _ (hFS x).o.only)).2.2
              have S1 : Hid (∀ x, Calls Tryz.prog 23 #[.int .i64 (j : Int)] (F x) fun e' w' => e' = .returned (.int .i64 sec) ∧ ∃ y, w' = F y) := Lib.hid (fun x => by rw [esec]; exact (secret_any (j : Int) (by omega) (by omega) (F x)).mono (fun e w' hh => ⟨hh.1, x, hh.2⟩))
              have V1 : Hid (∀ x, Calls Tryz.prog 12 #[.int .i64 (j : Int), .int .i64 (sec + 1 + (bb.wrong : Int)), .agg (hdC V.head).toArray] (F x) fun e' w' => e' = .returned (.agg (vtC V').toArray) ∧ ∃ y, w' = F y) := Lib.hid (fun x => by rw [eV']; exact (qvote_any (j : Int) (sec + 1 + (bb.wrong : Int)) V.head HVO.out.head (F x) (HT.out.none (hwF x))).mono (fun e w' hh => ⟨hh.1, (hF w').1 ((hFS x).keep hh.2)⟩))
              have m1 : ∀ x, (F x).cell? ⟨g, o + k * 3 + 2, none⟩ = some (.int .u8 (bb.wrong : Int)) := fun x => (rng_only HR.out (hwF x)) 2 _ rfl
              have m2 : ∀ x, (hdLoad (.pointer (some ⟨N1, 1, none⟩))).run Tryz.prog (F x) = .ok (.agg (hdC V.head).toArray) (F x) := fun x => hd_load (range_head (blk_range (hFS x).v) HVO.out.head.root) HVO.out.head.root
              have HF := Lib.hid hF
              have HF0 := Lib.hid hF0
              have HVO' := Lib.hid vo'
              have HVW := Lib.hid vw
              have HVH := Lib.hid vh
              have HNJ := Lib.hid hne
              clear hne hld esec hsb eV' vo' vw vh hF hF0 hFS hwF
              go_upto_region 17 with (fail)
              refine wp_region_family_tail F 14 (by kernel_rfl) (by kernel_rfl) HF0.out ?_
              simp only [List.take_succ_cons, List.take_zero, List.drop_succ_cons, List.drop_zero]
              repeat (go_big_quiet_step (first | (with_reducible exact S1.out _) | (with_reducible exact V1.out _)))
              refine wpQuiet_nil ?_
              intro w9 hw9
              have hS9 := (HF.out w9).2 hw9
              have hst := vt_store (cs := (vtC V).toArray) (v := V') hS9.v (by rw [List.size_toArray, vtC_len HVO.out.head.root]) HVO'.out.head.root
              have HS9 := Lib.hid (hS9.put HVO.out.head.root HVO'.out.head.root)
              clear hw9 hS9 m1 m2 c13
              obtain ⟨gp, op, hpA, cp3⟩ := setB_pub EP.out (HLW.out Z (Only.refl _ _)).2.1 hj.1 hj.2
              subst hpA
              obtain ⟨pk, epk⟩ : ∃ pk : Int, pk = pub (secI (j : Int)) := ⟨_, rfl⟩
              have hpk := gp_in (expo (secI (j : Int)))
              rw [← epk] at cp3
              have ii : (j : Int) < (P.length : Int) := by rw [HPLEN.out]; omega
              have ii0 : (0 : Int) ≤ (j : Int) := by omega
              obtain ⟨γ, hγ⟩ : ∃ γ, γ = goodB pk (hdText V'.head) V'.r V'.s := ⟨_, rfl⟩
              obtain ⟨T1, hT1⟩ : ∃ A : ByteArray, A = hdT V'.head := ⟨_, rfl⟩
              have z1 : T1.size ≤ 100 := by rw [hT1]; exact hdT_size HVO'.out.head
              obtain ⟨Ft2, hFt2⟩ := family (HvS Y M2 u13 N1 V') (HS9.out.keep (Only.refl _ _).drew)
              obtain ⟨F2, hI2, hF02, hF2, hFS2⟩ := hFt2
              have hyF : ∀ x, Only NoneOf Z (F2 x) := fun x => HYW.out _ (hFS2 x).o.only
              have C1 : Hid (∀ x, Calls Tryz.prog 13 #[.agg (hdC V'.head).toArray] (F2 x) (fun e' w' => e' = .returned (.string T1) ∧ ∃ y, w' = F2 y)) := Lib.hid (fun x => by rw [hT1]; exact (qtext_any V'.head HVO'.out.head (F2 x) (HT.out.none (HLW.out _ (hyF x)).2.2)).mono (fun e w' hh => ⟨hh.1, (hF2 w').1 ((hFS2 x).keep hh.2)⟩))
              have C2 : Hid (∀ x, Calls Tryz.prog 28 #[.int .i64 pk, .string T1, sgv V'.r V'.s] (F2 x) (fun e' w' => e' = .returned (.bool γ) ∧ ∃ y, w' = F2 y)) := Lib.hid (fun x => by
                have h := sverify_any pk V'.r V'.s T1 (F2 x) (by omega) (by rw [epk]; exact hpk.1) (by rw [epk]; exact hpk.2) HVO'.out.r.1 HVO'.out.r.2
                rw [hT1, hdT_list, ← hγ] at h
                rw [hT1]; exact h.mono (fun e w' hh => ⟨hh.1, (hF2 w').1 ((hFS2 x).keep hh.2)⟩))
              have m0 : ∀ x, (F2 x).cell? ⟨B, 0, none⟩ = some (.slice (some ⟨gp, op, none⟩) P.length pcap) := fun x => (HLW.out _ (hyF x)).1.cell 0
              have mp : ∀ x, (F2 x).cell? ⟨gp, op + j * 3 + 2, none⟩ = some (.int .i64 pk) := fun x => (hyF x).cell_some cp3 (fun e => e)
              have mh : ∀ x, (hdLoad (.pointer (some ⟨N1, 1, none⟩))).run Tryz.prog (F2 x) = .ok (.agg (hdC V'.head).toArray) (F2 x) := fun x => hd_load (range_head (blk_range (hFS2 x).v) HVO'.out.head.root) HVO'.out.head.root
              have ms : ∀ x, (sgLoad (.pointer (some ⟨N1, 34, none⟩))).run Tryz.prog (F2 x) = .ok (sgv V'.r V'.s) (F2 x) := fun x => sg_load (range_sig (blk_range (hFS2 x).v) HVO'.out.head.root)
              have HF2 := Lib.hid hF2
              have HF02 := Lib.hid hF02
              have HGA : Hid (γ = goodB (pub (secI (j : Int)) : Int) (hdText V'.head) V'.r V'.s) := Lib.hid (by rw [hγ, epk])
              clear hγ epk hpk cp3 hT1 z1 hF2 hF02 hFS2 hyF HF HF0 S1 V1
              go_upto_region 18 with (fail)
              refine wp_region_family F2 (by kernel_rfl) (by kernel_rfl) HF02.out ?_
              repeat (go_big_quiet_step (first | (with_reducible exact C1.out _) | (with_reducible exact C2.out _)))
              refine wpQuiet_nil ?_
              intro w10 hw10
              have hS10 := (HF2.out w10).2 hw10
              have HS10 := Lib.hid hS10
              clear hw10 m0 mp mh ms hst
              cases γ with
              | true =>
                have HOF := Lib.hid (HLW.out _ (HYW.out _ hS10.o.only)).2.2
                clear hS10
                go_wp2_with fail
                go_ret
                exact ⟨rfl, HOF.out⟩
              | false =>
                have HNE : Hid (Hon j (M2 ++ [V'])) := Lib.hid (HHO.out.append (fun v hv => by
                  rw [List.mem_singleton.1 hv]
                  exact .inl (not_cnt (fun _ => HGA.out.symm))))
                have hld := vt_load (blk_range hS10.v) HVO'.out.head.root
                have hbs := bs1_run V' HVO'.out.head.root
                have hsz7 := hS10.o.size
                clear hS10
                go_wp2_with (at_builtin; refine wpList_append_lies _ rfl _ _ 41 rfl Y.heap.size 30 ie zz 36 ie.bytes Tryz.underlying41 HIE.out HZZ.out HSZ.out rfl HZC.out (by omega) u13 M2.length (M2.flatMap vtC) rfl (World.ownsRow.alloc HS10.out.o.own _) _ 1 1 (vtC V') rfl (by rw [vtC_len HVO'.out.head.root]) (World.news_of_block (cs := (vtC V').toArray) (t := 30) (fr := (0, 0)) (NewB.new _ V')) (vtC_one V') (by omega) (by rw [maxLen_val]; omega) (by have := HBY.out; exact Nat.le_trans (Nat.mul_le_mul (show M2.length + 1 ≤ 100 by omega) this) (by omega)) (by simp; omega) _ rfl ?_; intro g3 cap3 w8 hown3 hgrow3 hat3 hlt3)
                have HNEW := Lib.hid (HS10.out.o.app HVO'.out _ hown3 hgrow3)
                clear hown3 hgrow3 hat3 hlt3 hbs hld
                go_wp2_with fail
                go_roundw
                case rel => exact ⟨k + 1, M2 ++ [V'], by go_num, by omega, by omega, by rw [List.length_append]; simp; omega, HNE.out, HNEW.out⟩
                case measure => simp [intOf]; omega
            · have dn : (a13 == (j : Int)) = false := by simp [hne]
              have HNE : Hid (Hon j (M2 ++ [V])) := Lib.hid (HHO.out.append (fun v hv => by
                rw [List.mem_singleton.1 hv]
                exact .inl (cnts_other _ _ (by rw [← EA.out]; exact hne))))
              have hbs := bs1_run V HVO.out.head.root
              have hsz7 := HS6.out.o.size
              clear hne
              go_wp2_with (at_builtin; refine wpList_append_lies _ rfl _ _ 41 rfl Y.heap.size 30 ie zz 36 ie.bytes Tryz.underlying41 HIE.out HZZ.out HSZ.out rfl HZC.out (by omega) u13 M2.length (M2.flatMap vtC) rfl (World.ownsRow.alloc HS6.out.o.own _) _ 1 1 (vtC V) rfl (by rw [vtC_len HVO.out.head.root]) (World.news_of_block (cs := (vtC V).toArray) (t := 30) (fr := (0, 0)) (NewB.new _ V)) (vtC_one V) (by omega) (by rw [maxLen_val]; omega) (by have := HBY.out; exact Nat.le_trans (Nat.mul_le_mul (show M2.length + 1 ≤ 100 by omega) this) (by omega)) (by simp; omega) _ rfl ?_; intro g3 cap3 w8 hown3 hgrow3 hat3 hlt3)
              have HNEW := Lib.hid (HS6.out.o.app HVO.out _ hown3 hgrow3)
              clear hown3 hgrow3 hat3 hlt3 hbs hld
              go_wp2_with fail
              go_roundw
              case rel => exact ⟨k + 1, M2 ++ [V], by go_num, by omega, by omega, by rw [List.length_append]; simp; omega, HNE.out, HNEW.out⟩
              case measure => simp [intOf]; omega
          · have hM5 : M2.length ≤ 44 := by omega
            clear hS
            by_cases hl : k < L.length
            · have d1 : decide ((k : Int) < (L.length : Int)) = true := decide_eq_true (by omega)
              have d2 : decide ((k : Int) < 40) = false := decide_eq_false (by omega)
              go_wp2_with fail
              go_meet
              case rel => exact ⟨M2, _, rfl, hM5, HHO.out, HS3.out⟩
            · have d1 : decide ((k : Int) < (L.length : Int)) = false := decide_eq_false (by omega)
              go_wp2_with fail
              go_meet
              case rel => exact ⟨M2, _, rfl, hM5, HHO.out, HS3.out⟩
      case rest =>
      obtain ⟨M2, av2, rfl, hM5, hHo, hS3⟩ := hcut
      obtain ⟨U, rfl⟩ : ∃ U : World, U = wc := ⟨_, rfl⟩
      obtain ⟨LL, eLL⟩ : ∃ LL, LL = M2 ++ M := ⟨_, rfl⟩
      have hLok : VtsOk LL := fun v hv => by
        rw [eLL] at hv
        rcases List.mem_append.1 hv with hv | hv
        · exact hS3.ok v hv
        · exact HS.out.ok v hv
      have hLl : LL.length ≤ 100000 := by rw [eLL, List.length_append]; omega
      have hHL : Hon j LL := by rw [eLL]; exact hHo.append HHON.out
      obtain ⟨G, eG⟩ : ∃ G, G = listsG false := ⟨_, rfl⟩
      obtain ⟨C, eC⟩ : ∃ C, C = clashL (agB (growB G)) P LL := ⟨_, rfl⟩
      have hnone : ∀ x ∈ C, x.who ≠ (j : Int) := fun x hx => by
        rw [eC, eG, EP.out] at hx
        exact hon_none (by omega) hj.1 hj.2 hHL hx
      have hgok := HGOK.out
      have hgv := HGV.out
      rw [← eG] at hgok hgv
      have KC : Hid (∀ W xv, Only NoneOf Y W → VtSl W xv LL → Calls Tryz.prog 20 #[.agg #[.slice pA P.length pcap, .int .i64 0, .slice none 0 0, .slice none 0 0, .int .i64 0, .int .i64 0], xv, .func (.func 21) #[.slice (some ⟨gg, go, none⟩) 2 gc] #[]] W fun e w' => ∃ ov, e = .returned ov ∧ BlSl w' ov C ∧ Only NoneOf W w') := Lib.hid (fun W xv h hx => by
        obtain ⟨h1, h2, h3⟩ := HLW.out W (HYW.out W h)
        rw [eC]
        exact clash_grow P HP.out HPL.out _ LL hLok hLl xv G hgok _ W h2 hx (hgv.only (HYW.out W h)) (HT.out.none h3))
      have hsu : ∀ W, Only NoneOf Y W → Blk W B tSu #[.slice pA P.length pcap, .int .i64 0, .slice none 0 0, .slice none 0 0, .int .i64 0, .int .i64 0] := fun W h => (HLW.out W (HYW.out W h)).1
      have c0 : ∀ W, Only NoneOf Y W → W.cell? ⟨B, 0, none⟩ = some (.slice pA P.length pcap) := fun W h => (hsu W h).cell 0
      have c1 : ∀ W, Only NoneOf Y W → W.cell? ⟨B, 1, none⟩ = some (.int .i64 0) := fun W h => (hsu W h).cell 1
      have c2 : ∀ W, Only NoneOf Y W → W.cell? ⟨B, 2, none⟩ = some (.slice none 0 0) := fun W h => (hsu W h).cell 2
      have c3 : ∀ W, Only NoneOf Y W → W.cell? ⟨B, 3, none⟩ = some (.slice none 0 0) := fun W h => (hsu W h).cell 3
      have c4 : ∀ W, Only NoneOf Y W → W.cell? ⟨B, 4, none⟩ = some (.int .i64 0) := fun W h => (hsu W h).cell 4
      have c5 : ∀ W, Only NoneOf Y W → W.cell? ⟨B, 5, none⟩ = some (.int .i64 0) := fun W h => (hsu W h).cell 5
      have hX1 : Only NoneOf Y U.drew := hS3.only.drew
      have hsz3 := hX1.size
      have HS3 := Lib.hid hS3
      have HLK := Lib.hid hLok
      have HNONE := Lib.hid hnone
      have ELL := Lib.hid eLL
      clear hLok hLl hHL eC eG hnone hgok hgv hsu hHo eLL
      go_upto_region 21 with (fail)
      go_cut [16] (fun cv wx => BlSl wx cv C ∧ Only NoneOf Y wx)
      case first =>
        by_cases hM : M = []
        · have hn := HMN.out hM
          subst hn
          have hLM : LL = M2 := by rw [ELL.out, hM, List.append_nil]
          obtain ⟨A3, cap3, rfl, hcap3, _⟩ := own_form' hS3.own
          have hsl : VtSl U.drew (.slice A3 M2.length cap3) LL := by rw [hLM]; exact (hS3.keep (Only.refl _ _).drew).own.sl hS3.ok
          clear hS3 hLM hM
          cases A3
          all_goals
            go_region_held3 (fun W => Only NoneOf Y W) (first | (with_reducible assumption))
              (first
                | (go_at_call 20; (with_reducible refine (KC.out _ _ (by assumption) (by assumption)).mono ?_); rintro e9 w9 ⟨ov, rfl, hbl, ho9⟩; have hS9 := Only.trans (by with_reducible assumption) ho9))
            all_goals
              go_wp2_with fail
              go_meet
              case rel => exact ⟨hbl, hS9⟩
        · have hM1 : 0 < M.length := List.length_pos_iff.2 hM
          obtain ⟨gm, cm, rfl, _, hgm, _, _⟩ := own_form HS.out.own hM1
          have hcel := World.ownsRow.cells HS.out.own rfl
          have hnews : ∀ q u, (M.flatMap vtC)[q]? = some u → U.drew.cell? (Addr.add ⟨gm, 0, none⟩ q) = some u := fun q u hu => hX1.cell_some (hcel q u hu) (fun e => e)
          have hone : ∀ u ∈ M.flatMap vtC, u.oneCell' = true := fun u hu => by
            obtain ⟨x, _, h⟩ := List.mem_flatMap.1 hu
            exact vtC_one x u h
          have hlen := HS.out.own.1
          have hown : U.drew.ownsRow Y.heap.size 30 36 av2 M2.length (M2.flatMap vtC) := (hS3.keep (Only.refl _ _).drew).own
          have HGR : Hid (∀ w1, U.drew.grownBy w1 av2.ownBlock → Only NoneOf Y w1) := Lib.hid (fun w1 hg => hX1.grown hg (fun q e => .inr (own_ge hS3.own e).1))
          have HSL2 : Hid (∀ W g cap, W.ownsRow Y.heap.size 30 36 (.slice (some ⟨g, 0, none⟩) (M2.length + M.length) cap) (M2.length + M.length) (M2.flatMap vtC ++ M.flatMap vtC) → VtSl W (.slice (some ⟨g, 0, none⟩) (M2.length + M.length) cap) LL) := Lib.hid (fun W g cap h => by
            have hk := HLK.out
            rw [ELL.out] at hk ⊢
            rw [← List.length_append] at h ⊢
            refine VtOwn.sl (base := Y.heap.size) ?_ hk
            unfold VtOwn
            rw [List.flatMap_append]
            exact h)
          have HCM := Lib.hid (And.intro hnews (And.intro hone (And.intro hlen hown)))
          clear hM hS3 hnews hone hlen hown hcel
          go_region_held3 (fun W => Only NoneOf Y W) (first | (with_reducible assumption))
            (first
              | (refine step_append_lies _ (by rfl) _ _ _ (by rfl) Y.heap.size 30 ie zz 36 ie.bytes Tryz.underlying41 HIE.out HZZ.out HSZ.out rfl HZC.out (by omega) av2 M2.length (M2.flatMap vtC) (by rfl) HCM.out.2.2.2 ⟨gm, 0, none⟩ M.length cm (M.flatMap vtC) (by rfl) HCM.out.2.2.1 HCM.out.1 HCM.out.2.1 hM1 (by rw [maxLen_val]; omega) (by have := HBY.out; exact Nat.le_trans (Nat.mul_le_mul (show M2.length + M.length ≤ 100 by omega) this) (by omega)) hsz3 _ rfl ?_; intro g8 cap8 w8 hown8 hgrow8 hat8 hlt8; have hS8 := HGR.out _ hgrow8; have hsl8 := HSL2.out _ _ _ hown8; clear hgrow8 hat8 hlt8)
              | (go_at_call 20; (with_reducible refine (KC.out _ _ (by assumption) (by assumption)).mono ?_); rintro e9 w9 ⟨ov, rfl, hbl, ho9⟩; have hS9 := Only.trans (by with_reducible assumption) ho9))
          all_goals
            go_wp2_with fail
            go_meet
            case rel => exact ⟨hbl, hS9⟩
      case rest =>
      obtain ⟨hbl, ho⟩ := hcut
      obtain ⟨bA, bcap, ebl, _, _, hbr⟩ := hbl
      subst ebl
      obtain ⟨T, rfl⟩ : ∃ T : World, T = wc := ⟨_, rfl⟩
      have HO := Lib.hid ho
      have HBR := Lib.hid hbr
      clear ho hbr c0 c1 c2 c3 c4 c5 hX1 hsz3 hS3 KC
      go_wp2_with fail
      go_loopw [17] (fun kv wr2 => ∃ k : Nat, kv = .int .i64 k ∧ k ≤ C.length ∧ Only NoneOf T wr2) (fun kv _ => C.length - (intOf kv).toNat)
      case atStart => exact ⟨0, rfl, by omega, Only.refl _ _⟩
      case round =>
        obtain ⟨k, rfl, hk, hS⟩ := hrel
        have HS5 := Lib.hid hS
        clear hS
        by_cases hlt : k < C.length
        · obtain ⟨p, hp⟩ : ∃ p, C[k]? = some p := ⟨_, List.getElem?_eq_getElem hlt⟩
          obtain ⟨g, o, hA', _, hr⟩ := HBR.out k p hp
          subst hA'
          have ik : (k : Int) < (C.length : Int) := by omega
          have ik0 : (0 : Int) ≤ (k : Int) := by omega
          obtain ⟨pw, epw⟩ : ∃ x, x = p.who := ⟨_, rfl⟩
          have a0 : wr.cell? ⟨g, o + k * 4, none⟩ = some (.int .i64 pw) := by rw [epw]; exact HS5.out.cell_some (hr 0 _ rfl) (fun e => e)
          have dn : (pw == (j : Int)) = false := by
            have := HNONE.out p (List.mem_of_getElem? hp)
            rw [epw]; simp [this]
          clear hp hr epw
          go_wp2_with fail
          go_roundw
          case rel => exact ⟨k + 1, by go_num, by omega, HS5.out⟩
          case measure => simp [intOf]; omega
        · obtain rfl : k = C.length := by omega
          have HOF := Lib.hid (HLW.out _ (HYW.out _ (HO.out.trans HS5.out))).2.2
          go_wp2_with fail
          go_ret
          exact ⟨rfl, HOF.out⟩
end Go.Proofs.YtoehfainhmfghaaGreatDoor
