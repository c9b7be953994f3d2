/- What is proved here: several parts. a client is made; setups are cloned. Conditions: there are few persons. · the setup that the laws on quorums use, with the persons in a block of its own. Condition: the number is an int. -/
import Derived.Test.YtgalfohobgjelaaGreatDoorGr19
import Derived.Test.YtgalfohobgjelaaGreatDoorGr26
import Derived.Maps.AppendAt
import Derived.BigQuiet
namespace Go.Proofs.YtgalfohobgjelaaGreatDoor
open Go.RowKit Go.Shelf
theorem pers_cells {w : World} {g o : Nat} {L : List Pers} (h : ∀ (i : Nat) (e : Pers), L[i]? = some e → w.rangeAt g (o + i * 3) (persC e)) : ∀ j u, (L.flatMap persC)[j]? = some u → w.cell? ((⟨g, o, none⟩ : Addr).add j) = some u := fun j u hj => by
  have hlt := (List.getElem?_eq_some_iff.1 hj).1
  rw [flat_len persC_len] at hlt
  obtain ⟨e, he⟩ : ∃ e, L[j / 3]? = some e := ⟨_, List.getElem?_eq_getElem (by omega)⟩
  have h1 := flat_get persC_len L (j / 3) (j % 3) (Nat.mod_lt _ (by omega)) e he
  rw [show j / 3 * 3 + j % 3 = j by omega] at h1
  rw [h1] at hj
  have h2 := h (j / 3) e he (j % 3) u hj
  rw [show o + j / 3 * 3 + j % 3 = o + j by omega] at h2
  rw [Addr.add_mid]
  exact h2
theorem pers_one (L : List Pers) : ∀ u ∈ L.flatMap persC, u.oneCell' = true := fun u hu => by
  obtain ⟨v, _, hv⟩ := List.mem_flatMap.1 hu
  simp only [persC, List.mem_cons, List.not_mem_nil, or_false] at hv
  rcases hv with rfl | rfl | rfl <;> rfl
set_option maxRecDepth 100000 in
set_option maxHeartbeats 2000000 in
theorem pclone_any (L : List Pers) (hlen : L.length ≤ 100000) (sv : Value) (w : World) (hs : PerSl w sv L) :
    Calls Tryz.prog 43 #[sv] w fun e w' => ∃ rv, e = .returned rv ∧ PerOwn w' w.heap.size rv L.length L ∧ Only NoneOf w w' := by
  obtain ⟨ie, z, hie, hsz, hz, hzc, hby⟩ := pers_info3
  obtain ⟨A, cap, rfl, hlc, hcm, hA⟩ := hs
  cases A with
  | none =>
    have h0 : L = [] := by
      cases L with
      | nil => rfl
      | cons x l =>
        obtain ⟨g, o, hA', _⟩ := hA 0 x rfl
        cases hA'
    subst h0
    have heq := fun W => Lib.run_eql_slice_nil (P := Tryz.prog) W 46 67 none 0 cap 0 0 Tryz.underlying46
    clear hA hlc
    go_enter Tryz.func43, Tryz.ntmps43
    go_wp2_with fail
    go_ret
    exact ⟨_, rfl, ⟨rfl, .inl ⟨rfl, rfl⟩⟩, Only.refl _ _⟩
  | some a =>
    obtain ⟨g, o, q⟩ := a
    have heq := fun W => Lib.run_eql_slice_nil (P := Tryz.prog) W 46 67 (some ⟨g, o, q⟩) L.length cap 0 0 Tryz.underlying46
    have hnews : ∀ j u, (L.flatMap persC)[j]? = some u → (w.alloc (.cells #[] 67)).cell? ((⟨g, o, q⟩ : Addr).add j) = some u := fun j u hj => by
      cases L with
      | nil => simp at hj
      | cons x l =>
        obtain ⟨g', o', hA', _⟩ := hA 0 x rfl
        cases hA'
        have h1 := pers_cells (w := w) (g := g) (o := o) (fun i e he => by
          obtain ⟨g2, o2, hA2, _, hr⟩ := hA i e he
          cases hA2
          exact hr) j u hj
        exact ((Only.refl NoneOf w).alloc _).cell_some h1 (fun e => e)
    have hown0 : (w.alloc (.cells #[] 67)).ownsRow w.heap.size 67 3 (.slice (some ⟨w.heap.size, 0, none⟩) 0 0) 0 [] :=
      ⟨rfl, .inr ⟨w.heap.size, 0, #[], rfl, Nat.le_refl _, Blk.new w _ _, Nat.le_refl _, by rw [maxLen_val]; omega, rfl, rfl⟩⟩
    have hll := flat_len persC_len L
    have HN := Lib.hid hnews
    have HOWN := Lib.hid hown0
    have HLL := Lib.hid hll
    clear hA hnews hown0 hll
    go_enter Tryz.func43, Tryz.ntmps43
    go_upto_region 3 with (fail)
    clear heq
    go_wp2_with (first
      | (at_builtin; refine wpList_append_own_at _ rfl _ _ 46 rfl w.heap.size 67 ie z 3 24 Tryz.underlying46 hie hz hsz hby hzc (by omega) _ 0 [] rfl HOWN.out ⟨g, o, q⟩ L.length cap (L.flatMap persC) rfl HLL.out HN.out (pers_one L) (by rw [maxLen_val]; omega) (by rw [Nat.zero_add]; omega) (by simp) ?_; intro v' w1 hown1 hgrow1 hnil1 hloc1))
    have hO : Only NoneOf w w1 := ((Only.refl NoneOf w).alloc _).grown hgrow1 (fun j e => by cases e; exact .inr (Nat.le_refl _))
    rw [Nat.zero_add, List.nil_append] at hown1
    have HW := Lib.hid hown1
    have HO := Lib.hid hO
    clear hown1 hgrow1 hnil1 hloc1 hO
    go_wp2_with fail
    go_ret
    exact ⟨_, rfl, HW.out, HO.out⟩
attribute [local go_sem ↓ high] suLoad_eq
def cliBd (parts : Array (Nat × Value)) : Sem Value := Instr.build 100 parts
theorem cliBd_eq (parts : Array (Nat × Value)) : Instr.build 100 parts = cliBd parts := rfl
attribute [local go_sem ↓ high] cliBd_eq
/-- A new client. -/
def cliNew (C : Nat) (id : Int) (pv : Value) (P : List Pers) : Cli := ⟨C, id, pv, P, false, ⟨#[]⟩, hd0, .slice none 0 0, [], .map none, [], false⟩
set_option maxRecDepth 100000 in
theorem cliBd_built (id : Int) (A : Option Addr) (n cap : Nat) : Tryz.prog.built 100 [(0, .int .i64 id), (1, .agg #[.slice A n cap, .int .i64 0, .slice none 0 0, .slice none 0 0, .int .i64 0, .int .i64 0])] = some (cliC (cliNew 0 id (.slice A n cap) [])).toArray := by kernel_rfl
theorem cliBd_run (id : Int) (A : Option Addr) (n cap : Nat) (W : World) : (cliBd #[(0, .int .i64 id), (1, .agg #[.slice A n cap, .int .i64 0, .slice none 0 0, .slice none 0 0, .int .i64 0, .int .i64 0])]).run Tryz.prog W = .ok (.agg (cliC (cliNew 0 id (.slice A n cap) [])).toArray) W :=
  run_build (P := Tryz.prog) W 100 _ _ (cliBd_built id A n cap)
theorem cliNew_cells (C D : Nat) (id : Int) (pv : Value) (P Q : List Pers) : cliC (cliNew C id pv P) = cliC (cliNew D id pv Q) := rfl
theorem cliNew_at {W : World} {base : Nat} {id : Int} {pv : Value} {P : List Pers} (hp : PerOwn W base pv P.length P) (hb : base ≤ W.heap.size) : CliAt (W.alloc (.cells (cliC (cliNew 0 id pv [])).toArray 100)) base (cliNew W.heap.size id pv P) :=
  ⟨by rw [cliNew_cells W.heap.size 0 id pv P []]; exact Blk.new W _ _, hb, ⟨⟨by show (-9223372036854775808 : Int) ≤ 0; omega, by show (0 : Int) ≤ 9223372036854775807; omega⟩, hd0_root⟩, own_only hp ((Only.refl NoneOf _).alloc _) (fun _ _ e => e), ⟨rfl, .inl ⟨rfl, rfl⟩⟩, fun v hv => by (cases hv), .inl ⟨rfl, rfl⟩, fun v hv => by (cases hv)⟩
set_option maxRecDepth 100000 in
set_option maxHeartbeats 4000000 in
theorem new_any (id : Int) (P : List Pers) (hlen : P.length ≤ 1000) (pv : Value) (w : World) (hp : PerSl w pv P) :
    Calls Tryz.prog 17 #[.int .i64 id, setV pv] w fun e w' => ∃ C pw, e = .returned (.pointer (some ⟨C, 0, none⟩)) ∧ CliAt w' w.heap.size (cliNew C id pw P) ∧ Only NoneOf w w' := by
  obtain ⟨A, cap, rfl, hc1, hc2, _⟩ := _root_.id hp
  have hcl : ∀ W, Only NoneOf w W → Calls Tryz.prog 43 #[.slice A P.length cap] W fun e w' => ∃ rv, e = .returned rv ∧ PerOwn w' W.heap.size rv P.length P ∧ Only NoneOf W w' := fun W ho => pclone_any P (by omega) _ W (hp.only ho)
  have hb0 : Blk (w.alloc (.cells #[.slice A P.length cap, .int .i64 0, .slice none 0 0, .slice none 0 0, .int .i64 0, .int .i64 0] 50)) w.heap.size tSu #[.slice A P.length cap, .int .i64 0, .slice none 0 0, .slice none 0 0, .int .i64 0, .int .i64 0] := Blk.new w _ _
  obtain ⟨B, eB⟩ : ∃ B, B = w.heap.size := ⟨_, rfl⟩
  rw [← eB] at hb0
  have hwB : w.heap.size ≤ B := by omega
  have HCL := Lib.hid hcl
  have HB0 := Lib.hid hb0
  have EB := Lib.hid eB
  have hbd := cliBd_run id
  clear hcl hb0 eB hp
  unfold setV
  go_enter Tryz.func17, Tryz.ntmps17
  go_upto_region 1 with (fail)
  rw [← EB.out]
  refine wp_gen (fun Z => Blk Z B tSu #[.slice A P.length cap, .int .i64 0, .slice none 0 0, .slice none 0 0, .int .i64 0, .int .i64 0] ∧ Only NoneOf w Z) ⟨HB0.out, (Only.refl _ _).alloc _⟩ ?_
  clear HB0
  rintro Z ⟨hB, hO⟩
  have c0 : Z.cell? ⟨B, 0, none⟩ = some (.slice A P.length cap) := hB.cell 0
  have HZ := Lib.hid (And.intro hB hO)
  clear hB hO
  go_wp2_with fail
  refine (HCL.out _ HZ.out.2).mono ?_
  rintro e5 w5 ⟨rv, rfl, hrv, ho5⟩
  obtain ⟨rA, rcap, rfl, _, _⟩ := own_form' hrv
  have hB5 := HZ.out.1.only ho5 (fun e => e)
  have d0 : w5.cell? ⟨B, 0, none⟩ = some (.slice A P.length cap) := hB5.cell 0
  have f0 := hB5.frozen 0
  have hB6 := Blk.set_ hB5 0 (.slice rA P.length rcap)
  have hne : (Value.slice rA P.length rcap).ownBlock ≠ some B := own_blk_ne hrv hB5 (by decide)
  have hown6 : PerOwn (w5.setCell ⟨B, 0, none⟩ (.slice rA P.length rcap)) w.heap.size (.slice rA P.length rcap) P.length P := own_lower (own_far hrv (p := ⟨B, 0, none⟩) hne _) HZ.out.2.size
  have ho6 : Only NoneOf w (w5.setCell ⟨B, 0, none⟩ (.slice rA P.length rcap)) := (HZ.out.2.trans ho5).setCell (p := ⟨B, 0, none⟩) (.inr hwB) _
  have H6 := Lib.hid (And.intro hB6 (And.intro hown6 ho6))
  clear hB5 hB6 hne hown6 ho6 hrv ho5 c0 HZ
  go_upto_region 2 with (fail)
  refine wp_gen (fun W => Blk W B tSu #[.slice rA P.length rcap, .int .i64 0, .slice none 0 0, .slice none 0 0, .int .i64 0, .int .i64 0] ∧ PerOwn W w.heap.size (.slice rA P.length rcap) P.length P ∧ Only NoneOf w W) H6.out ?_
  clear H6 d0 f0
  rintro Y ⟨hY, hYO, hO⟩
  have hl := su_load (g := B) (o := 0) (pv := .slice rA P.length rcap) (blk_range hY)
  unfold setV at hl
  have hfin := cliNew_at (id := id) hYO hO.size
  have HF := Lib.hid (And.intro hfin (hO.alloc (.cells (cliC (cliNew 0 id (.slice rA P.length rcap) [])).toArray 100)))
  clear hY hYO hO hfin
  go_wp2_with fail
  go_ret
  exact ⟨_, _, rfl, HF.out.1, HF.out.2⟩
end Go.Proofs.YtgalfohobgjelaaGreatDoor
namespace Go.Proofs.YtgalfohobgjelaaGreatDoor
open Go.RowKit Go.Shelf
attribute [local go_sem ↓ high] suStore_eq
set_option maxRecDepth 100000 in
set_option maxHeartbeats 4000000 in
theorem setup_own (n : Int) (hn : In n) (w : World) : Calls Tryz.prog 44 #[.int .i64 n, .bool false] w fun e' w' => ∃ pv, e' = .returned (setV pv) ∧ PerOwn w' w.heap.size pv (nOff n + 1) (setB (nOff n)) ∧ Only NoneOf w w' := by
  obtain ⟨ie, z, hie, hsz, hz, hzc, hby⟩ := pers_info3
  obtain ⟨n0, n1⟩ := hn
  obtain ⟨R, eR⟩ : ∃ R, R = w.heap.size := ⟨_, rfl⟩
  obtain ⟨G, eG⟩ : ∃ G, G = R + 1 := ⟨_, rfl⟩
  obtain ⟨V, eV⟩ : ∃ V, V = G + 1 := ⟨_, rfl⟩
  obtain ⟨pc, epc⟩ : ∃ x : Int, x = (pub (secI 50) : Int) := ⟨_, rfl⟩
  obtain ⟨X, eX⟩ : ∃ X, X = (((w.alloc (.cells #[.slice none 0 0, .int .i64 0, .slice none 0 0, .slice none 0 0, .int .i64 0, .int .i64 0] 50)).alloc (.cells #[.int .i64 50, .int .i64 1, .int .i64 pc] 67)).alloc (.cells #[.slice none 0 0, .int .i64 0, .slice none 0 0, .slice none 0 0, .int .i64 0, .int .i64 0] 50)).setCells V 0 [.slice (some ⟨G, 0, none⟩) 1 1, .int .i64 0, .slice none 0 0, .slice none 0 0, .int .i64 0, .int .i64 0] := ⟨_, rfl⟩
  have h3 : Blk (((w.alloc (.cells #[.slice none 0 0, .int .i64 0, .slice none 0 0, .slice none 0 0, .int .i64 0, .int .i64 0] 50)).alloc (.cells #[.int .i64 50, .int .i64 1, .int .i64 pc] 67)).alloc (.cells #[.slice none 0 0, .int .i64 0, .slice none 0 0, .slice none 0 0, .int .i64 0, .int .i64 0] 50)) V tSu #[.slice none 0 0, .int .i64 0, .slice none 0 0, .slice none 0 0, .int .i64 0, .int .i64 0] := by
    have h3 := Blk.new ((w.alloc (.cells #[.slice none 0 0, .int .i64 0, .slice none 0 0, .slice none 0 0, .int .i64 0, .int .i64 0] 50)).alloc (.cells #[.int .i64 50, .int .i64 1, .int .i64 pc] 67)) tSu #[.slice none 0 0, .int .i64 0, .slice none 0 0, .slice none 0 0, .int .i64 0, .int .i64 0]
    rw [World.size_alloc, World.size_alloc, ← eR, ← eG, ← eV] at h3
    exact h3
  have hst0 := su_store (n := 1) (c := 1) (A := some ⟨G, 0, none⟩) h3 rfl
  have hs0 : StS w R V 0 (.slice (some ⟨G, 0, none⟩) 1 1) X := by
    have h2 := Blk.new (w.alloc (.cells #[.slice none 0 0, .int .i64 0, .slice none 0 0, .slice none 0 0, .int .i64 0, .int .i64 0] 50)) 67 #[.int .i64 50, .int .i64 1, .int .i64 pc]
    rw [World.size_alloc, ← eR, ← eG] at h2
    refine ⟨by rw [eX]; exact Blk.farCells (by omega) _ 0 (by rw [eR]; exact ((Blk.new w _ _).alloc _).alloc _), by rw [eX]; exact filled_whole h3 rfl, ⟨rfl, .inr ⟨G, 1, #[.int .i64 50, .int .i64 1, .int .i64 pc], rfl, by omega, by rw [eX]; exact Blk.farCells (by omega) _ 0 (h2.alloc _), Nat.le_refl _, by rw [maxLen_val]; omega, rfl, ?_⟩⟩, by rw [eX]; exact only_setCells ((((Only.refl _ _).alloc _).alloc _).alloc _) V 0 (.inr (by omega)) _⟩
    rw [epc]
    rfl
  have hsec := fun W => secret_any 50 (by omega) (by omega) W
  have hpub : ∀ W, Calls Tryz.prog 45 #[.int .i64 (secI 50)] W fun e' w' => e' = .returned (.int .i64 pc) ∧ w' = W := fun W => by rw [epc]; exact rpub_any _ W
  have HS0 := Lib.hid hs0
  have HSEC := Lib.hid hsec
  have HPUB := Lib.hid hpub
  have HIE := Lib.hid hie
  have HSZ := Lib.hid hsz
  have HZ := Lib.hid hz
  have HZC := Lib.hid hzc
  have HBY := Lib.hid hby
  have EX := Lib.hid eX
  have ER := Lib.hid eR
  have EG := Lib.hid eG
  have EV := Lib.hid eV
  have hwR : w.heap.size ≤ R ∧ R ≠ V ∧ w.heap.size ≤ V := by omega
  obtain ⟨hwR1, hRV, hwV⟩ := hwR
  rw [eG, eV, eG, eR] at hst0
  clear hs0 hsec hpub hie hsz hz hzc hby eX eR eG eV epc h3
  unfold setV
  go_enter Tryz.func44, Tryz.ntmps44
  go_wp2_with fail
  refine (HSEC.out _).mono ?_
  rintro e1 w1 ⟨rfl, rfl⟩
  go_wp2_with fail
  refine (HPUB.out _).mono ?_
  rintro e2 w2 ⟨rfl, rfl⟩
  go_upto_region 2 with (fail)
  clear hst0
  rw [← ER.out, ← EG.out, ← EV.out, ← EX.out]
  clear HSEC HPUB
  refine wp_gen (StS w R V 0 (.slice (some ⟨G, 0, none⟩) 1 1)) HS0.out ?_
  intro Y hY
  have HY := Lib.hid hY
  clear hY HS0
  go_wp2_with fail
  go_loopw [6] (fun i wr => ∃ (q : Nat) (pv : Value), i = .int .i64 (q : Int) ∧ 1 ≤ q ∧ q ≤ nOff n + 1 ∧ StS w R V (q - 1) pv wr) (fun i _ => 14 - (intOf i).toNat)
  case atStart => exact ⟨1, _, rfl, by omega, by omega, HY.out⟩
  case round =>
    obtain ⟨q, pv, rfl, hq1, hq2, hS⟩ := hrel
    have hno := nOff_le n
    by_cases hlt : q ≤ nOff n
    · have hle : (q : Int) ≤ min n 13 := by unfold nOff at hlt; omega
      obtain ⟨m, rfl⟩ : ∃ m, q = m + 1 := ⟨q - 1, by omega⟩
      rw [Nat.add_sub_cancel] at hS
      obtain ⟨k, ek⟩ : ∃ k : Nat, k = m + 1 := ⟨_, rfl⟩
      rw [← ek] at hle ⊢
      obtain ⟨pk, epk⟩ : ∃ x : Int, x = (pub (secI k) : Int) := ⟨_, rfl⟩
      have hpc : persC (offAt k) = [.int .i64 (k : Int), .int .i64 2, .int .i64 pk] := by rw [epk]; rfl
      have hsec : ∀ W, Calls Tryz.prog 39 #[.int .i64 (k : Int)] W fun e' w' => e' = .returned (.int .i64 (secI (k : Int))) ∧ w' = W := fun W => secret_any (k : Int) (by omega) (by omega) W
      have hpub : ∀ W, Calls Tryz.prog 45 #[.int .i64 (secI (k : Int))] W fun e' w' => e' = .returned (.int .i64 pk) ∧ w' = W := fun W => by rw [epk]; exact rpub_any _ W
      have hcells : (setB (m + 1)).flatMap persC = (setB m).flatMap persC ++ [.int .i64 (k : Int), .int .i64 2, .int .i64 pk] := by
        rw [setB_snoc, List.flatMap_append, List.flatMap_cons, List.flatMap_nil, List.append_nil, ← ek, hpc]
      have c0 : wr.cell? ⟨V, 0, none⟩ = some pv := hS.st.cell 0
      have HS := Lib.hid hS
      have HSEC := Lib.hid hsec
      have HPUB := Lib.hid hpub
      have HCELLS := Lib.hid hcells
      have hall : ∀ o, ((wr.alloc o).drew).ownsRow w.heap.size 67 3 pv (m + 1) ((setB m).flatMap persC) := fun o => World.ownsRow.alloc HS.out.own o
      have hne : pv.ownBlock ≠ some V := own_blk_ne HS.out.own HS.out.st (by decide)
      have hneR : pv.ownBlock ≠ some R := own_blk_ne HS.out.own HS.out.res (by decide)
      have hgr : ∀ o w1, (((wr.alloc o).drew).grownBy w1 pv.ownBlock) → Blk w1 V tSu #[pv, .int .i64 0, .slice none 0 0, .slice none 0 0, .int .i64 0, .int .i64 0] ∧ Blk w1 R tSu #[.slice none 0 0, .int .i64 0, .slice none 0 0, .slice none 0 0, .int .i64 0, .int .i64 0] ∧ Only NoneOf w w1 := fun o w1 hg =>
        ⟨((HS.out.st.alloc o).drew).grown hg (Ne.symm hne), ((HS.out.res.alloc o).drew).grown hg (Ne.symm hneR), ((HS.out.only.alloc o).drew).grown hg (fun j e => .inr (own_ge HS.out.own e).1)⟩
      have HALL := Lib.hid hall
      have HGR := Lib.hid hgr
      have HSZZ := Lib.hid HS.out.only.size
      have ca : ∀ o, (wr.alloc o).cell? ⟨V, 0, none⟩ = some pv := fun o => (HS.out.st.alloc o).cell 0
      have HEK := Lib.hid ek
      have hkm : k ≤ 13 ∧ m ≤ 12 := by omega
      obtain ⟨hk13, hm12⟩ := hkm
      clear hS hsec hpub hcells hpc hall hne hneR hgr epk ek hq1 hq2 hlt
      go_upto_region 5 with (fail)
      go_region_law (first
        | (refine step_append_lies _ (by rfl) _ _ _ (by rfl) w.heap.size 67 ie z 3 24 Tryz.underlying46 HIE.out HZ.out HSZ.out HBY.out HZC.out (by omega) pv (m + 1) ((setB m).flatMap persC) (by rfl) (HALL.out _) ⟨wr.heap.size, 0, none⟩ 1 1 [.int .i64 (k : Int), .int .i64 2, .int .i64 pk] (by rfl) (by rfl) (World.news_of_block (cs := #[.int .i64 (k : Int), .int .i64 2, .int .i64 pk]) (t := 67) (fr := (0, 0)) (heap_alloc_new wr _)) (by simp [Value.oneCell']) (by omega) (by rw [maxLen_val]; omega) (by omega) (by have := HSZZ.out; simp; omega) (wr.heap.size + 1) (by simp) ?_; intro g cap w1 hown1 hgrow hat hlt1; have hb1 := HGR.out _ w1 hgrow; have hf1 := hb1.1.frozen 0; have hc1 := hb1.1.cell 0; simp only [List.getElem?_toArray, List.getElem?_cons_zero] at hc1)
        | (go_simp; go_at_call 39; refine (HSEC.out _).mono ?_; rintro e1 w3 ⟨rfl, rfl⟩)
        | (go_simp; go_at_call 45; refine (HPUB.out _).mono ?_; rintro e2 w2 ⟨rfl, rfl⟩))
      all_goals
        have hgne : (Value.slice (some ⟨g, 0, none⟩) (m + 1 + 1) cap).ownBlock ≠ some V := own_blk_ne hown1 hb1.1 (by decide)
        have hnew : StS w R V (m + 1) (.slice (some ⟨g, 0, none⟩) (m + 1 + 1) cap) (w1.setCell ⟨V, 0, none⟩ (.slice (some ⟨g, 0, none⟩) (m + 1 + 1) cap)) := by
          refine ⟨Blk.far (p := ⟨V, 0, none⟩) hb1.2.1 hRV _, Blk.set_ hb1.1 0 _, ?_, hb1.2.2.setCell (p := ⟨V, 0, none⟩) (.inr hwV) _⟩
          unfold PerOwn
          rw [HCELLS.out]
          exact own_far hown1 (p := ⟨V, 0, none⟩) hgne _
        have HNEW := Lib.hid hnew
        clear hb1 hgne hnew hown1 hgrow hat hlt1 hf1 hc1 ca c0
        go_wp2_with fail
        go_roundw
        case rel => exact ⟨k + 1, _, by go_num, by omega, by have := HEK.out; unfold nOff; omega, by rw [Nat.add_sub_cancel, HEK.out]; exact HNEW.out⟩
        case measure => simp [intOf]; omega
    · have hqe : q = nOff n + 1 := by omega
      have hle : ¬ (q : Int) ≤ min n 13 := by rw [hqe]; unfold nOff; omega
      rw [hqe, Nat.add_sub_cancel] at hS
      have hsl : PerSl wr pv (setB (nOff n)) := PerOwn.sl (by rw [setB_len]; exact hS.own)
      obtain ⟨N, eN⟩ : ∃ N, N = nOff n + 1 := ⟨_, rfl⟩
      have hown := hS.own
      rw [← eN] at hown
      obtain ⟨pA, pcap, rfl, _, _⟩ := own_form' hown
      have r0 := hS.res.cell 0
      have r1 := hS.res.cell 1
      have r2 := hS.res.cell 2
      have r3 := hS.res.cell 3
      have r4 := hS.res.cell 4
      have r5 := hS.res.cell 5
      have c0 := hS.st.cell 0
      have c1 := hS.st.cell 1
      have c2 := hS.st.cell 2
      have c3 := hS.st.cell 3
      have c4 := hS.st.cell 4
      have c5 := hS.st.cell 5
      simp only [List.getElem?_toArray, List.getElem?_cons_zero, List.getElem?_cons_succ] at c0 c1 c2 c3 c4 c5 r0 r1 r2 r3 r4 r5
      have hinf : (Tryz.prog.info? tSu).map (·.size) = some 6 := by kernel_rfl
      have hb2 : Blk (wr.setCells R 0 [.slice pA N pcap, .int .i64 0, .slice none 0 0, .slice none 0 0, .int .i64 0, .int .i64 0]) R tSu #[.slice pA N pcap, .int .i64 0, .slice none 0 0, .slice none 0 0, .int .i64 0, .int .i64 0] := filled_whole hS.res rfl
      have hst := su_store (n := N) (c := pcap) (A := pA) hS.res rfl
      have ho2 : Only NoneOf w (wr.setCells R 0 [.slice pA N pcap, .int .i64 0, .slice none 0 0, .slice none 0 0, .int .i64 0, .int .i64 0]) := only_setCells hS.only R 0 (.inr hwR1) _
      have hsl2 : PerOwn (wr.setCells R 0 [.slice pA N pcap, .int .i64 0, .slice none 0 0, .slice none 0 0, .int .i64 0, .int .i64 0]) w.heap.size (.slice pA N pcap) (nOff n + 1) (setB (nOff n)) := by
        have h1 := own_blk_ne hown hS.res (by decide)
        have h2 : PerOwn (wr.setCells R 0 [.slice pA N pcap, .int .i64 0, .slice none 0 0, .slice none 0 0, .int .i64 0, .int .i64 0]) w.heap.size (.slice pA N pcap) N (setB (nOff n)) :=
          own_only hown (only_setCells (S := fun k => k = R) (Only.refl _ _) R 0 (.inl rfl) _) (fun k hk e => h1 (by rw [hk, e]))
        rw [← eN]; exact h2
      have HB2 := Lib.hid hb2
      have HO2 := Lib.hid ho2
      have HSL := Lib.hid hsl2
      have HI := Lib.hid hinf
      clear hS hsl hsl2 hb2 ho2 hinf hown eN hqe hq1 hq2 hlt
      go_wp2_with fail
      refine bodyPost_ret (v := .agg #[.slice pA N pcap, .int .i64 0, .slice none 0 0, .slice none 0 0, .int .i64 0, .int .i64 0]) (results_blk rfl rfl HB2.out Tryz.underlying50 rfl (by simpa using HI.out)) rfl ⟨_, rfl, HSL.out, HO2.out⟩
end Go.Proofs.YtgalfohobgjelaaGreatDoor
