/- What is proved here: several parts. a client is made; setups are cloned. Conditions: there are few persons. · the setup that the laws on quorums use, with the persons in a block of its own. Condition: the number is an int. · several parts. events are signed, by the program and by the reference. Conditions: names and texts are short; the table of powers of ten reads as its initialiser lays it. · signatures of events are verified, by the program and by the reference. Conditions: name and text are short; the table of powers of ten reads as its initialiser lays it. · the worlds, bids and lists of events that the client's laws make from numbers, in plain Lean; no program in sight. No conditions. · the writer of bids, a struct about a builder of strings: it takes strings and bytes, and tells what it holds. Condition: what it holds is shorter than 2^47 bytes. -/
import Derived.Test.YtgalfohobgjelaaGreatDoorNi04
import Derived.Test.YtgalfohobgjelaaGreatDoorNi08
import Derived.Test.YtgalfohobgjelaaGreatDoorNi09
import Derived.Test.YtgalfohobgjelaaGreatDoorNi11
import Derived.Test.YtgalfohobgjelaaGreatDoorNi12
import Derived.Test.YtgalfohobgjelaaGreatDoorNi18
import Derived.Test.YtgalfohobgjelaaGreatDoorNi21
import Derived.Test.YtgalfohobgjelaaGreatDoorNi23
import Derived.Test.YtgalfohobgjelaaGreatDoorNi24
import Derived.Test.YtgalfohobgjelaaGreatDoorNi27
import Derived.Maps.AppendAt
import Derived.BigQuiet
import Derived.BigRegion
import Derived.Lib.UnsafeStr
namespace Go.Proofs.YtgalfohobgjelaaGreatDoor
open Go.RowKit Go.Shelf
theorem pers_cells {w : World} {g o : Nat} {L : List Pers} (h : ∀ (i : Nat) (e : Pers), L[i]? = some e → w.rangeAt g (o + i * 3) (persC e)) : ∀ j u, (L.flatMap persC)[j]? = some u → w.cell? ((⟨g, o, none⟩ : Addr).add j) = some u := fun j u hj => by
  have hlt := (List.getElem?_eq_some_iff.1 hj).1
  rw [flat_len persC_len] at hlt
  obtain ⟨e, he⟩ : ∃ e, L[j / 3]? = some e := ⟨_, List.getElem?_eq_getElem (by omega)⟩
  have h1 := flat_get persC_len L (j / 3) (j % 3) (Nat.mod_lt _ (by omega)) e he
  rw [show j / 3 * 3 + j % 3 = j by omega] at h1
  rw [h1] at hj
  have h2 := h (j / 3) e he (j % 3) u hj
  rw [show o + j / 3 * 3 + j % 3 = o + j by omega] at h2
  rw [Addr.add_mid]
  exact h2
theorem pers_one (L : List Pers) : ∀ u ∈ L.flatMap persC, u.oneCell' = true := fun u hu => by
  obtain ⟨v, _, hv⟩ := List.mem_flatMap.1 hu
  simp only [persC, List.mem_cons, List.not_mem_nil, or_false] at hv
  rcases hv with rfl | rfl | rfl <;> rfl
set_option maxRecDepth 100000 in
set_option maxHeartbeats 2000000 in
theorem pclone_any (L : List Pers) (hlen : L.length ≤ 100000) (sv : Value) (w : World) (hs : PerSl w sv L) :
    Calls Tryz.prog 43 #[sv] w fun e w' => ∃ rv, e = .returned rv ∧ PerOwn w' w.heap.size rv L.length L ∧ Only NoneOf w w' := by
  obtain ⟨ie, z, hie, hsz, hz, hzc, hby⟩ := pers_info3
  obtain ⟨A, cap, rfl, hlc, hcm, hA⟩ := hs
  cases A with
  | none =>
    have h0 : L = [] := by
      cases L with
      | nil => rfl
      | cons x l =>
        obtain ⟨g, o, hA', _⟩ := hA 0 x rfl
        cases hA'
    subst h0
    have heq := fun W => Lib.run_eql_slice_nil (P := Tryz.prog) W 46 67 none 0 cap 0 0 Tryz.underlying46
    clear hA hlc
    go_enter Tryz.func43, Tryz.ntmps43
    go_wp2_with fail
    go_ret
    exact ⟨_, rfl, ⟨rfl, .inl ⟨rfl, rfl⟩⟩, Only.refl _ _⟩
  | some a =>
    obtain ⟨g, o, q⟩ := a
    have heq := fun W => Lib.run_eql_slice_nil (P := Tryz.prog) W 46 67 (some ⟨g, o, q⟩) L.length cap 0 0 Tryz.underlying46
    have hnews : ∀ j u, (L.flatMap persC)[j]? = some u → (w.alloc (.cells #[] 67)).cell? ((⟨g, o, q⟩ : Addr).add j) = some u := fun j u hj => by
      cases L with
      | nil => simp at hj
      | cons x l =>
        obtain ⟨g', o', hA', _⟩ := hA 0 x rfl
        cases hA'
        have h1 := pers_cells (w := w) (g := g) (o := o) (fun i e he => by
          obtain ⟨g2, o2, hA2, _, hr⟩ := hA i e he
          cases hA2
          exact hr) j u hj
        exact ((Only.refl NoneOf w).alloc _).cell_some h1 (fun e => e)
    have hown0 : (w.alloc (.cells #[] 67)).ownsRow w.heap.size 67 3 (.slice (some ⟨w.heap.size, 0, none⟩) 0 0) 0 [] :=
      ⟨rfl, .inr ⟨w.heap.size, 0, #[], rfl, Nat.le_refl _, Blk.new w _ _, Nat.le_refl _, by rw [maxLen_val]; omega, rfl, rfl⟩⟩
    have hll := flat_len persC_len L
    have HN := Lib.hid hnews
    have HOWN := Lib.hid hown0
    have HLL := Lib.hid hll
    clear hA hnews hown0 hll
    go_enter Tryz.func43, Tryz.ntmps43
    go_upto_region 3 with (fail)
    clear heq
    go_wp2_with (first
      | (at_builtin; refine wpList_append_own_at _ rfl _ _ 46 rfl w.heap.size 67 ie z 3 24 Tryz.underlying46 hie hz hsz hby hzc (by omega) _ 0 [] rfl HOWN.out ⟨g, o, q⟩ L.length cap (L.flatMap persC) rfl HLL.out HN.out (pers_one L) (by rw [maxLen_val]; omega) (by rw [Nat.zero_add]; omega) (by simp) ?_; intro v' w1 hown1 hgrow1 hnil1 hloc1))
    have hO : Only NoneOf w w1 := ((Only.refl NoneOf w).alloc _).grown hgrow1 (fun j e => by cases e; exact .inr (Nat.le_refl _))
    rw [Nat.zero_add, List.nil_append] at hown1
    have HW := Lib.hid hown1
    have HO := Lib.hid hO
    clear hown1 hgrow1 hnil1 hloc1 hO
    go_wp2_with fail
    go_ret
    exact ⟨_, rfl, HW.out, HO.out⟩
attribute [local go_sem ↓ high] suLoad_eq
def cliBd (parts : Array (Nat × Value)) : Sem Value := Instr.build 100 parts
theorem cliBd_eq (parts : Array (Nat × Value)) : Instr.build 100 parts = cliBd parts := rfl
attribute [local go_sem ↓ high] cliBd_eq
/-- A new client. -/
def cliNew (C : Nat) (id : Int) (pv : Value) (P : List Pers) : Cli := ⟨C, id, pv, P, false, ⟨#[]⟩, hd0, .slice none 0 0, [], .map none, [], false⟩
set_option maxRecDepth 100000 in
theorem cliBd_built (id : Int) (A : Option Addr) (n cap : Nat) : Tryz.prog.built 100 [(0, .int .i64 id), (1, .agg #[.slice A n cap, .int .i64 0, .slice none 0 0, .slice none 0 0, .int .i64 0, .int .i64 0])] = some (cliC (cliNew 0 id (.slice A n cap) [])).toArray := by kernel_rfl
theorem cliBd_run (id : Int) (A : Option Addr) (n cap : Nat) (W : World) : (cliBd #[(0, .int .i64 id), (1, .agg #[.slice A n cap, .int .i64 0, .slice none 0 0, .slice none 0 0, .int .i64 0, .int .i64 0])]).run Tryz.prog W = .ok (.agg (cliC (cliNew 0 id (.slice A n cap) [])).toArray) W :=
  run_build (P := Tryz.prog) W 100 _ _ (cliBd_built id A n cap)
theorem cliNew_cells (C D : Nat) (id : Int) (pv : Value) (P Q : List Pers) : cliC (cliNew C id pv P) = cliC (cliNew D id pv Q) := rfl
theorem cliNew_at {W : World} {base : Nat} {id : Int} {pv : Value} {P : List Pers} (hp : PerOwn W base pv P.length P) (hb : base ≤ W.heap.size) : CliAt (W.alloc (.cells (cliC (cliNew 0 id pv [])).toArray 100)) base (cliNew W.heap.size id pv P) :=
  ⟨by rw [cliNew_cells W.heap.size 0 id pv P []]; exact Blk.new W _ _, hb, ⟨⟨by show (-9223372036854775808 : Int) ≤ 0; omega, by show (0 : Int) ≤ 9223372036854775807; omega⟩, hd0_root⟩, own_only hp ((Only.refl NoneOf _).alloc _) (fun _ _ e => e), ⟨rfl, .inl ⟨rfl, rfl⟩⟩, fun v hv => by (cases hv), .inl ⟨rfl, rfl⟩, fun v hv => by (cases hv)⟩
set_option maxRecDepth 100000 in
set_option maxHeartbeats 4000000 in
theorem new_any (id : Int) (P : List Pers) (hlen : P.length ≤ 1000) (pv : Value) (w : World) (hp : PerSl w pv P) :
    Calls Tryz.prog 17 #[.int .i64 id, setV pv] w fun e w' => ∃ C pw, e = .returned (.pointer (some ⟨C, 0, none⟩)) ∧ CliAt w' w.heap.size (cliNew C id pw P) ∧ Only NoneOf w w' := by
  obtain ⟨A, cap, rfl, hc1, hc2, _⟩ := _root_.id hp
  have hcl : ∀ W, Only NoneOf w W → Calls Tryz.prog 43 #[.slice A P.length cap] W fun e w' => ∃ rv, e = .returned rv ∧ PerOwn w' W.heap.size rv P.length P ∧ Only NoneOf W w' := fun W ho => pclone_any P (by omega) _ W (hp.only ho)
  have hb0 : Blk (w.alloc (.cells #[.slice A P.length cap, .int .i64 0, .slice none 0 0, .slice none 0 0, .int .i64 0, .int .i64 0] 50)) w.heap.size tSu #[.slice A P.length cap, .int .i64 0, .slice none 0 0, .slice none 0 0, .int .i64 0, .int .i64 0] := Blk.new w _ _
  obtain ⟨B, eB⟩ : ∃ B, B = w.heap.size := ⟨_, rfl⟩
  rw [← eB] at hb0
  have hwB : w.heap.size ≤ B := by omega
  have HCL := Lib.hid hcl
  have HB0 := Lib.hid hb0
  have EB := Lib.hid eB
  have hbd := cliBd_run id
  clear hcl hb0 eB hp
  unfold setV
  go_enter Tryz.func17, Tryz.ntmps17
  go_upto_region 1 with (fail)
  rw [← EB.out]
  refine wp_gen (fun Z => Blk Z B tSu #[.slice A P.length cap, .int .i64 0, .slice none 0 0, .slice none 0 0, .int .i64 0, .int .i64 0] ∧ Only NoneOf w Z) ⟨HB0.out, (Only.refl _ _).alloc _⟩ ?_
  clear HB0
  rintro Z ⟨hB, hO⟩
  have c0 : Z.cell? ⟨B, 0, none⟩ = some (.slice A P.length cap) := hB.cell 0
  have HZ := Lib.hid (And.intro hB hO)
  clear hB hO
  go_wp2_with fail
  refine (HCL.out _ HZ.out.2).mono ?_
  rintro e5 w5 ⟨rv, rfl, hrv, ho5⟩
  obtain ⟨rA, rcap, rfl, _, _⟩ := own_form' hrv
  have hB5 := HZ.out.1.only ho5 (fun e => e)
  have d0 : w5.cell? ⟨B, 0, none⟩ = some (.slice A P.length cap) := hB5.cell 0
  have f0 := hB5.frozen 0
  have hB6 := Blk.set_ hB5 0 (.slice rA P.length rcap)
  have hne : (Value.slice rA P.length rcap).ownBlock ≠ some B := own_blk_ne hrv hB5 (by decide)
  have hown6 : PerOwn (w5.setCell ⟨B, 0, none⟩ (.slice rA P.length rcap)) w.heap.size (.slice rA P.length rcap) P.length P := own_lower (own_far hrv (p := ⟨B, 0, none⟩) hne _) HZ.out.2.size
  have ho6 : Only NoneOf w (w5.setCell ⟨B, 0, none⟩ (.slice rA P.length rcap)) := (HZ.out.2.trans ho5).setCell (p := ⟨B, 0, none⟩) (.inr hwB) _
  have H6 := Lib.hid (And.intro hB6 (And.intro hown6 ho6))
  clear hB5 hB6 hne hown6 ho6 hrv ho5 c0 HZ
  go_upto_region 2 with (fail)
  refine wp_gen (fun W => Blk W B tSu #[.slice rA P.length rcap, .int .i64 0, .slice none 0 0, .slice none 0 0, .int .i64 0, .int .i64 0] ∧ PerOwn W w.heap.size (.slice rA P.length rcap) P.length P ∧ Only NoneOf w W) H6.out ?_
  clear H6 d0 f0
  rintro Y ⟨hY, hYO, hO⟩
  have hl := su_load (g := B) (o := 0) (pv := .slice rA P.length rcap) (blk_range hY)
  unfold setV at hl
  have hfin := cliNew_at (id := id) hYO hO.size
  have HF := Lib.hid (And.intro hfin (hO.alloc (.cells (cliC (cliNew 0 id (.slice rA P.length rcap) [])).toArray 100)))
  clear hY hYO hO hfin
  go_wp2_with fail
  go_ret
  exact ⟨_, _, rfl, HF.out.1, HF.out.2⟩
end Go.Proofs.YtgalfohobgjelaaGreatDoor
namespace Go.Proofs.YtgalfohobgjelaaGreatDoor
open Go.RowKit Go.Shelf
attribute [local go_sem ↓ high] suStore_eq
set_option maxRecDepth 100000 in
set_option maxHeartbeats 4000000 in
theorem setup_own (n : Int) (hn : In n) (w : World) : Calls Tryz.prog 44 #[.int .i64 n, .bool false] w fun e' w' => ∃ pv, e' = .returned (setV pv) ∧ PerOwn w' w.heap.size pv (nOff n + 1) (setB (nOff n)) ∧ Only NoneOf w w' := by
  obtain ⟨ie, z, hie, hsz, hz, hzc, hby⟩ := pers_info3
  obtain ⟨n0, n1⟩ := hn
  obtain ⟨R, eR⟩ : ∃ R, R = w.heap.size := ⟨_, rfl⟩
  obtain ⟨G, eG⟩ : ∃ G, G = R + 1 := ⟨_, rfl⟩
  obtain ⟨V, eV⟩ : ∃ V, V = G + 1 := ⟨_, rfl⟩
  obtain ⟨pc, epc⟩ : ∃ x : Int, x = (pub (secI 50) : Int) := ⟨_, rfl⟩
  obtain ⟨X, eX⟩ : ∃ X, X = (((w.alloc (.cells #[.slice none 0 0, .int .i64 0, .slice none 0 0, .slice none 0 0, .int .i64 0, .int .i64 0] 50)).alloc (.cells #[.int .i64 50, .int .i64 1, .int .i64 pc] 67)).alloc (.cells #[.slice none 0 0, .int .i64 0, .slice none 0 0, .slice none 0 0, .int .i64 0, .int .i64 0] 50)).setCells V 0 [.slice (some ⟨G, 0, none⟩) 1 1, .int .i64 0, .slice none 0 0, .slice none 0 0, .int .i64 0, .int .i64 0] := ⟨_, rfl⟩
  have h3 : Blk (((w.alloc (.cells #[.slice none 0 0, .int .i64 0, .slice none 0 0, .slice none 0 0, .int .i64 0, .int .i64 0] 50)).alloc (.cells #[.int .i64 50, .int .i64 1, .int .i64 pc] 67)).alloc (.cells #[.slice none 0 0, .int .i64 0, .slice none 0 0, .slice none 0 0, .int .i64 0, .int .i64 0] 50)) V tSu #[.slice none 0 0, .int .i64 0, .slice none 0 0, .slice none 0 0, .int .i64 0, .int .i64 0] := by
    have h3 := Blk.new ((w.alloc (.cells #[.slice none 0 0, .int .i64 0, .slice none 0 0, .slice none 0 0, .int .i64 0, .int .i64 0] 50)).alloc (.cells #[.int .i64 50, .int .i64 1, .int .i64 pc] 67)) tSu #[.slice none 0 0, .int .i64 0, .slice none 0 0, .slice none 0 0, .int .i64 0, .int .i64 0]
    rw [World.size_alloc, World.size_alloc, ← eR, ← eG, ← eV] at h3
    exact h3
  have hst0 := su_store (n := 1) (c := 1) (A := some ⟨G, 0, none⟩) h3 rfl
  have hs0 : StS w R V 0 (.slice (some ⟨G, 0, none⟩) 1 1) X := by
    have h2 := Blk.new (w.alloc (.cells #[.slice none 0 0, .int .i64 0, .slice none 0 0, .slice none 0 0, .int .i64 0, .int .i64 0] 50)) 67 #[.int .i64 50, .int .i64 1, .int .i64 pc]
    rw [World.size_alloc, ← eR, ← eG] at h2
    refine ⟨by rw [eX]; exact Blk.farCells (by omega) _ 0 (by rw [eR]; exact ((Blk.new w _ _).alloc _).alloc _), by rw [eX]; exact filled_whole h3 rfl, ⟨rfl, .inr ⟨G, 1, #[.int .i64 50, .int .i64 1, .int .i64 pc], rfl, by omega, by rw [eX]; exact Blk.farCells (by omega) _ 0 (h2.alloc _), Nat.le_refl _, by rw [maxLen_val]; omega, rfl, ?_⟩⟩, by rw [eX]; exact only_setCells ((((Only.refl _ _).alloc _).alloc _).alloc _) V 0 (.inr (by omega)) _⟩
    rw [epc]
    rfl
  have hsec := fun W => secret_any 50 (by omega) (by omega) W
  have hpub : ∀ W, Calls Tryz.prog 45 #[.int .i64 (secI 50)] W fun e' w' => e' = .returned (.int .i64 pc) ∧ w' = W := fun W => by rw [epc]; exact rpub_any _ W
  have HS0 := Lib.hid hs0
  have HSEC := Lib.hid hsec
  have HPUB := Lib.hid hpub
  have HIE := Lib.hid hie
  have HSZ := Lib.hid hsz
  have HZ := Lib.hid hz
  have HZC := Lib.hid hzc
  have HBY := Lib.hid hby
  have EX := Lib.hid eX
  have ER := Lib.hid eR
  have EG := Lib.hid eG
  have EV := Lib.hid eV
  have hwR : w.heap.size ≤ R ∧ R ≠ V ∧ w.heap.size ≤ V := by omega
  obtain ⟨hwR1, hRV, hwV⟩ := hwR
  rw [eG, eV, eG, eR] at hst0
  clear hs0 hsec hpub hie hsz hz hzc hby eX eR eG eV epc h3
  unfold setV
  go_enter Tryz.func44, Tryz.ntmps44
  go_wp2_with fail
  refine (HSEC.out _).mono ?_
  rintro e1 w1 ⟨rfl, rfl⟩
  go_wp2_with fail
  refine (HPUB.out _).mono ?_
  rintro e2 w2 ⟨rfl, rfl⟩
  go_upto_region 2 with (fail)
  clear hst0
  rw [← ER.out, ← EG.out, ← EV.out, ← EX.out]
  clear HSEC HPUB
  refine wp_gen (StS w R V 0 (.slice (some ⟨G, 0, none⟩) 1 1)) HS0.out ?_
  intro Y hY
  have HY := Lib.hid hY
  clear hY HS0
  go_wp2_with fail
  go_loopw [6] (fun i wr => ∃ (q : Nat) (pv : Value), i = .int .i64 (q : Int) ∧ 1 ≤ q ∧ q ≤ nOff n + 1 ∧ StS w R V (q - 1) pv wr) (fun i _ => 14 - (intOf i).toNat)
  case atStart => exact ⟨1, _, rfl, by omega, by omega, HY.out⟩
  case round =>
    obtain ⟨q, pv, rfl, hq1, hq2, hS⟩ := hrel
    have hno := nOff_le n
    by_cases hlt : q ≤ nOff n
    · have hle : (q : Int) ≤ min n 13 := by unfold nOff at hlt; omega
      obtain ⟨m, rfl⟩ : ∃ m, q = m + 1 := ⟨q - 1, by omega⟩
      rw [Nat.add_sub_cancel] at hS
      obtain ⟨k, ek⟩ : ∃ k : Nat, k = m + 1 := ⟨_, rfl⟩
      rw [← ek] at hle ⊢
      obtain ⟨pk, epk⟩ : ∃ x : Int, x = (pub (secI k) : Int) := ⟨_, rfl⟩
      have hpc : persC (offAt k) = [.int .i64 (k : Int), .int .i64 2, .int .i64 pk] := by rw [epk]; rfl
      have hsec : ∀ W, Calls Tryz.prog 39 #[.int .i64 (k : Int)] W fun e' w' => e' = .returned (.int .i64 (secI (k : Int))) ∧ w' = W := fun W => secret_any (k : Int) (by omega) (by omega) W
      have hpub : ∀ W, Calls Tryz.prog 45 #[.int .i64 (secI (k : Int))] W fun e' w' => e' = .returned (.int .i64 pk) ∧ w' = W := fun W => by rw [epk]; exact rpub_any _ W
      have hcells : (setB (m + 1)).flatMap persC = (setB m).flatMap persC ++ [.int .i64 (k : Int), .int .i64 2, .int .i64 pk] := by
        rw [setB_snoc, List.flatMap_append, List.flatMap_cons, List.flatMap_nil, List.append_nil, ← ek, hpc]
      have c0 : wr.cell? ⟨V, 0, none⟩ = some pv := hS.st.cell 0
      have HS := Lib.hid hS
      have HSEC := Lib.hid hsec
      have HPUB := Lib.hid hpub
      have HCELLS := Lib.hid hcells
      have hall : ∀ o, ((wr.alloc o).drew).ownsRow w.heap.size 67 3 pv (m + 1) ((setB m).flatMap persC) := fun o => World.ownsRow.alloc HS.out.own o
      have hne : pv.ownBlock ≠ some V := own_blk_ne HS.out.own HS.out.st (by decide)
      have hneR : pv.ownBlock ≠ some R := own_blk_ne HS.out.own HS.out.res (by decide)
      have hgr : ∀ o w1, (((wr.alloc o).drew).grownBy w1 pv.ownBlock) → Blk w1 V tSu #[pv, .int .i64 0, .slice none 0 0, .slice none 0 0, .int .i64 0, .int .i64 0] ∧ Blk w1 R tSu #[.slice none 0 0, .int .i64 0, .slice none 0 0, .slice none 0 0, .int .i64 0, .int .i64 0] ∧ Only NoneOf w w1 := fun o w1 hg =>
        ⟨((HS.out.st.alloc o).drew).grown hg (Ne.symm hne), ((HS.out.res.alloc o).drew).grown hg (Ne.symm hneR), ((HS.out.only.alloc o).drew).grown hg (fun j e => .inr (own_ge HS.out.own e).1)⟩
      have HALL := Lib.hid hall
      have HGR := Lib.hid hgr
      have HSZZ := Lib.hid HS.out.only.size
      have ca : ∀ o, (wr.alloc o).cell? ⟨V, 0, none⟩ = some pv := fun o => (HS.out.st.alloc o).cell 0
      have HEK := Lib.hid ek
      have hkm : k ≤ 13 ∧ m ≤ 12 := by omega
      obtain ⟨hk13, hm12⟩ := hkm
      clear hS hsec hpub hcells hpc hall hne hneR hgr epk ek hq1 hq2 hlt
      go_upto_region 5 with (fail)
      go_region_law (first
        | (refine step_append_lies _ (by rfl) _ _ _ (by rfl) w.heap.size 67 ie z 3 24 Tryz.underlying46 HIE.out HZ.out HSZ.out HBY.out HZC.out (by omega) pv (m + 1) ((setB m).flatMap persC) (by rfl) (HALL.out _) ⟨wr.heap.size, 0, none⟩ 1 1 [.int .i64 (k : Int), .int .i64 2, .int .i64 pk] (by rfl) (by rfl) (World.news_of_block (cs := #[.int .i64 (k : Int), .int .i64 2, .int .i64 pk]) (t := 67) (fr := (0, 0)) (heap_alloc_new wr _)) (by simp [Value.oneCell']) (by omega) (by rw [maxLen_val]; omega) (by omega) (by have := HSZZ.out; simp; omega) (wr.heap.size + 1) (by simp) ?_; intro g cap w1 hown1 hgrow hat hlt1; have hb1 := HGR.out _ w1 hgrow; have hf1 := hb1.1.frozen 0; have hc1 := hb1.1.cell 0; simp only [List.getElem?_toArray, List.getElem?_cons_zero] at hc1)
        | (go_simp; go_at_call 39; refine (HSEC.out _).mono ?_; rintro e1 w3 ⟨rfl, rfl⟩)
        | (go_simp; go_at_call 45; refine (HPUB.out _).mono ?_; rintro e2 w2 ⟨rfl, rfl⟩))
      all_goals
        have hgne : (Value.slice (some ⟨g, 0, none⟩) (m + 1 + 1) cap).ownBlock ≠ some V := own_blk_ne hown1 hb1.1 (by decide)
        have hnew : StS w R V (m + 1) (.slice (some ⟨g, 0, none⟩) (m + 1 + 1) cap) (w1.setCell ⟨V, 0, none⟩ (.slice (some ⟨g, 0, none⟩) (m + 1 + 1) cap)) := by
          refine ⟨Blk.far (p := ⟨V, 0, none⟩) hb1.2.1 hRV _, Blk.set_ hb1.1 0 _, ?_, hb1.2.2.setCell (p := ⟨V, 0, none⟩) (.inr hwV) _⟩
          unfold PerOwn
          rw [HCELLS.out]
          exact own_far hown1 (p := ⟨V, 0, none⟩) hgne _
        have HNEW := Lib.hid hnew
        clear hb1 hgne hnew hown1 hgrow hat hlt1 hf1 hc1 ca c0
        go_wp2_with fail
        go_roundw
        case rel => exact ⟨k + 1, _, by go_num, by omega, by have := HEK.out; unfold nOff; omega, by rw [Nat.add_sub_cancel, HEK.out]; exact HNEW.out⟩
        case measure => simp [intOf]; omega
    · have hqe : q = nOff n + 1 := by omega
      have hle : ¬ (q : Int) ≤ min n 13 := by rw [hqe]; unfold nOff; omega
      rw [hqe, Nat.add_sub_cancel] at hS
      have hsl : PerSl wr pv (setB (nOff n)) := PerOwn.sl (by rw [setB_len]; exact hS.own)
      obtain ⟨N, eN⟩ : ∃ N, N = nOff n + 1 := ⟨_, rfl⟩
      have hown := hS.own
      rw [← eN] at hown
      obtain ⟨pA, pcap, rfl, _, _⟩ := own_form' hown
      have r0 := hS.res.cell 0
      have r1 := hS.res.cell 1
      have r2 := hS.res.cell 2
      have r3 := hS.res.cell 3
      have r4 := hS.res.cell 4
      have r5 := hS.res.cell 5
      have c0 := hS.st.cell 0
      have c1 := hS.st.cell 1
      have c2 := hS.st.cell 2
      have c3 := hS.st.cell 3
      have c4 := hS.st.cell 4
      have c5 := hS.st.cell 5
      simp only [List.getElem?_toArray, List.getElem?_cons_zero, List.getElem?_cons_succ] at c0 c1 c2 c3 c4 c5 r0 r1 r2 r3 r4 r5
      have hinf : (Tryz.prog.info? tSu).map (·.size) = some 6 := by kernel_rfl
      have hb2 : Blk (wr.setCells R 0 [.slice pA N pcap, .int .i64 0, .slice none 0 0, .slice none 0 0, .int .i64 0, .int .i64 0]) R tSu #[.slice pA N pcap, .int .i64 0, .slice none 0 0, .slice none 0 0, .int .i64 0, .int .i64 0] := filled_whole hS.res rfl
      have hst := su_store (n := N) (c := pcap) (A := pA) hS.res rfl
      have ho2 : Only NoneOf w (wr.setCells R 0 [.slice pA N pcap, .int .i64 0, .slice none 0 0, .slice none 0 0, .int .i64 0, .int .i64 0]) := only_setCells hS.only R 0 (.inr hwR1) _
      have hsl2 : PerOwn (wr.setCells R 0 [.slice pA N pcap, .int .i64 0, .slice none 0 0, .slice none 0 0, .int .i64 0, .int .i64 0]) w.heap.size (.slice pA N pcap) (nOff n + 1) (setB (nOff n)) := by
        have h1 := own_blk_ne hown hS.res (by decide)
        have h2 : PerOwn (wr.setCells R 0 [.slice pA N pcap, .int .i64 0, .slice none 0 0, .slice none 0 0, .int .i64 0, .int .i64 0]) w.heap.size (.slice pA N pcap) N (setB (nOff n)) :=
          own_only hown (only_setCells (S := fun k => k = R) (Only.refl _ _) R 0 (.inl rfl) _) (fun k hk e => h1 (by rw [hk, e]))
        rw [← eN]; exact h2
      have HB2 := Lib.hid hb2
      have HO2 := Lib.hid ho2
      have HSL := Lib.hid hsl2
      have HI := Lib.hid hinf
      clear hS hsl hsl2 hb2 ho2 hinf hown eN hqe hq1 hq2 hlt
      go_wp2_with fail
      refine bodyPost_ret (v := .agg #[.slice pA N pcap, .int .i64 0, .slice none 0 0, .slice none 0 0, .int .i64 0, .int .i64 0]) (results_blk rfl rfl HB2.out Tryz.underlying50 rfl (by simpa using HI.out)) rfl ⟨_, rfl, HSL.out, HO2.out⟩
end Go.Proofs.YtgalfohobgjelaaGreatDoor
namespace Go.Proofs.YtgalfohobgjelaaGreatDoor
open Go.RowKit Go.Shelf
attribute [local go_sem ↓ high] evStore_eq evLoad_eq
end Go.Proofs.YtgalfohobgjelaaGreatDoor
namespace Go.Proofs.YtgalfohobgjelaaGreatDoor
open Go.RowKit Go.Shelf
attribute [local go_sem ↓ high] evStore_eq evLoad_eq
/-- Where the first person with an Id stands. -/
def idxN (who : Int) : Nat → List Pers → Option Nat
  | _, [] => none
  | k, p :: l => if p.id = who then some k else idxN who (k + 1) l
def idxV : Option Nat → Int
  | some k => (k : Int)
  | none => -1
/-- What is found of an event's signature. -/
noncomputable def verL (P : List Pers) (e : Ev) : Int :=
  match P with
  | [] => 35
  | p :: l => if p.id = e.who then (if goodB p.pub (evText e) e.r e.s = true then 0 else 21) else verL l e
theorem verL_none (e : Ev) : ∀ (P : List Pers) (k : Nat), idxN e.who k P = none → verL P e = 35
  | [], _, _ => rfl
  | p :: l, k, h => by
    unfold idxN at h
    by_cases hp : p.id = e.who
    · rw [if_pos hp] at h; cases h
    · rw [if_neg hp] at h
      rw [verL, if_neg hp]
      exact verL_none e l (k + 1) h
theorem verL_some (e : Ev) : ∀ (P : List Pers) (k j : Nat), idxN e.who k P = some j → k ≤ j ∧ ∃ p, P[j - k]? = some p ∧ p.id = e.who ∧ verL P e = if goodB p.pub (evText e) e.r e.s = true then 0 else 21
  | [], _, _, h => by cases h
  | p :: l, k, j, h => by
    unfold idxN at h
    by_cases hp : p.id = e.who
    · rw [if_pos hp, Option.some.injEq] at h
      subst h
      exact ⟨Nat.le_refl _, p, by rw [Nat.sub_self]; rfl, hp, by rw [verL, if_pos hp]⟩
    · rw [if_neg hp] at h
      obtain ⟨h1, q, h2, h3, h4⟩ := verL_some e l (k + 1) j h
      refine ⟨by omega, q, ?_, h3, ?_⟩
      · rw [show j - k = (j - (k + 1)) + 1 by omega]; exact h2
      · rw [verL, if_neg hp]; exact h4
set_option maxRecDepth 100000 in
theorem same_who (p : Pers) (B : Nat) (e : Ev) (w : World) (hE : EvAt w B e) : Calls Tryz.prog 102 #[.agg #[.int .i64 p.id, .int .i64 p.role, .int .i64 p.pub], .pointer (some ⟨B, 0, none⟩)] w fun e' w' => e' = .returned (.bool (p.id == e.who)) ∧ Only NoneOf w w' := by
  have hlt := hE.lt
  have h2 : (w.alloc (.cells #[.int .i64 p.id, .int .i64 p.role, .int .i64 p.pub] 67)).cell? ⟨B, 2, none⟩ = some (.int .i64 e.who) := ev_cell (Blk.alloc hE _) 2
  have HLT := Lib.hid hlt
  clear hE hlt
  go_enter Tryz.func102, Tryz.ntmps102
  go_wp2_with fail
  go_ret
  exact ⟨rfl, (Only.refl _ _).alloc _⟩
set_option maxRecDepth 100000 in
set_option maxHeartbeats 1000000 in
theorem index_any (P : List Pers) (e : Ev) (B : Nat) (pv : Value) (w : World) (hp : PerSl w pv P) (he : EvAt w B e) : Calls Tryz.prog 101 #[pv, .func (.func 102) #[] #[.pointer (some ⟨B, 0, none⟩)]] w fun e' w' => e' = .returned (.int .i64 (idxV (idxN e.who 0 P))) ∧ Only NoneOf w w' := by
  obtain ⟨A, cap, rfl, hlc, hcm, hA⟩ := hp
  have HA := Lib.hid hA
  have HE := Lib.hid he
  clear hA he
  go_enter Tryz.func101, Tryz.ntmps101
  go_wp2_with fail
  go_loopw [8] (fun i wr => ∃ k : Nat, i = .int .i64 k ∧ k ≤ P.length ∧ idxN e.who 0 P = idxN e.who k (P.drop k) ∧ Only NoneOf w wr) (fun i _ => P.length - (intOf i).toNat)
  case atStart => exact ⟨0, rfl, by omega, rfl, Only.refl _ _⟩
  case round =>
    obtain ⟨k, rfl, hk, hst, ho⟩ := hrel
    by_cases hlt : k < P.length
    · obtain ⟨p, hp⟩ : ∃ p, P[k]? = some p := ⟨_, List.getElem?_eq_getElem hlt⟩
      obtain ⟨g, o, rfl, hg, hr⟩ := HA.out k p hp
      have hr2 := range_only hr ho
      have c0 : wr.cell? ⟨g, o + k * 3, none⟩ = some (.int .i64 p.id) := hr2 0 _ rfl
      have c1 : wr.cell? ⟨g, o + k * 3 + 1, none⟩ = some (.int .i64 p.role) := hr2 1 _ rfl
      have c2 : wr.cell? ⟨g, o + k * 3 + 2, none⟩ = some (.int .i64 p.pub) := hr2 2 _ rfl
      have hd : P.drop k = p :: P.drop (k + 1) := by rw [List.drop_eq_getElem_cons hlt]; rw [List.getElem?_eq_getElem hlt] at hp; rw [Option.some.inj hp]
      rw [hd] at hst
      have ik : (k : Int) < (P.length : Int) := by omega
      have ik0 : (0 : Int) ≤ (k : Int) := by omega
      have HST := Lib.hid hst
      have HO := Lib.hid ho
      clear hst ho hp hr hr2 hd
      go_wp2_with fail
      refine (same_who p B e wr (HE.out.only HO.out (fun e => e))).mono ?_
      rintro e1 w1 ⟨rfl, ho1⟩
      have HO1 := Lib.hid (HO.out.trans ho1)
      clear ho1 c0 c1 c2
      by_cases hw : p.id = e.who
      · have hb : (p.id == e.who) = true := beq_iff_eq.2 hw
        rw [hb]
        have hres : idxN e.who 0 P = some k := by rw [HST.out, idxN, if_pos hw]
        have HRES := Lib.hid hres
        clear hb hres hw
        go_wp2_with fail
        go_ret
        exact ⟨by rw [HRES.out]; rfl, HO1.out⟩
      · have hb : (p.id == e.who) = false := beq_eq_false_iff_ne.2 hw
        rw [hb]
        have hres : idxN e.who 0 P = idxN e.who (k + 1) (P.drop (k + 1)) := by rw [HST.out, idxN, if_neg hw]
        have HRES := Lib.hid hres
        clear hb hres hw
        go_wp2_with fail
        go_roundw
        case rel => exact ⟨k + 1, by go_num, by omega, HRES.out, HO1.out⟩
        case measure => simp [intOf]; omega
    · obtain rfl : k = P.length := by omega
      have hres : idxN e.who 0 P = none := by rw [hst, List.drop_length, idxN]
      have HRES := Lib.hid hres
      have HO := Lib.hid ho
      clear hst ho hres
      go_wp2_with fail
      go_ret
      exact ⟨by rw [HRES.out]; rfl, HO.out⟩
/-- What holds while a signature is verified: the setup in block B, the event in the next. -/
structure VeS (w : World) (B : Nat) (pv : Value) (P : List Pers) (e : Ev) (Z : World) : Prop where
  pers : Z.cell? ⟨B, 0, none⟩ = some pv
  sl : PerSl Z pv P
  ev : EvAt Z (B + 1) e
  only : Only NoneOf w Z
theorem VeS.keep {w Z Z' : World} {B : Nat} {pv : Value} {P : List Pers} {e : Ev} (h : VeS w B pv P e Z) (ho : Only NoneOf Z Z') : VeS w B pv P e Z' :=
  ⟨ho.cell_some h.pers (fun e => e), h.sl.only ho, h.ev.only ho (fun e => e), h.only.trans ho⟩
theorem VeS.new (w : World) (pv v1 v2 v3 v4 v5 : Value) (P : List Pers) (e : Ev) (hp : PerSl w pv P) (B : Nat) (hB : B = w.heap.size) : VeS w B pv P e ((w.alloc (.cells #[pv, v1, v2, v3, v4, v5] 50)).alloc (.cells (evC e).toArray 79)) := by
  have h1 := Blk.new (w.alloc (.cells #[pv, v1, v2, v3, v4, v5] 50)) tEv (evC e).toArray
  rw [World.size_alloc, ← hB] at h1
  have h2 := (Blk.new w 50 #[pv, v1, v2, v3, v4, v5]).alloc (.cells (evC e).toArray 79)
  rw [← hB] at h2
  exact ⟨h2.cell 0, hp.only (((Only.refl _ _).alloc _).alloc _), h1, ((Only.refl _ _).alloc _).alloc _⟩
set_option maxRecDepth 100000 in
set_option maxHeartbeats 4000000 in
theorem everify_any (P : List Pers) (pv v1 v2 v3 v4 v5 : Value) (e : Ev) (he : e.Ok) (hn : e.name.size ≤ 4398046511104) (hx : e.text.size ≤ 4398046511104) (w : World) (hp : PerSl w pv P) (hpub : ∀ p ∈ P, In p.pub) (ht : Tab w) :
    Calls Tryz.prog 61 #[.agg #[pv, v1, v2, v3, v4, v5], .agg (evC e).toArray] w fun e' w' => e' = .returned (.int .i64 (verL P e)) ∧ Only NoneOf w w' := by
  obtain ⟨B, eB⟩ : ∃ B, B = w.heap.size := ⟨_, rfl⟩
  have hV := VeS.new w pv v1 v2 v3 v4 v5 P e hp B eB
  have hmf : ∀ (fn : Fn) (first cap : Array Value) (w : World), (Instr.makeFunc fn first cap).run Tryz.prog w = .ok (.func fn first cap) w := fun _ _ _ _ => rfl
  have HV := Lib.hid hV
  have HT := Lib.hid ht
  have HE := Lib.hid he
  have HN := Lib.hid hn
  have HX := Lib.hid hx
  have HEB := Lib.hid eB
  have HPUB := Lib.hid hpub
  clear hV hp ht he hn hx eB hpub
  go_enter Tryz.func61, Tryz.ntmps61
  go_upto_region 1 with (fail)
  rw [← HEB.out]
  refine wp_gen (VeS w B pv P e) HV.out ?_
  intro Z hZ
  have c0 := hZ.pers
  have HZ := Lib.hid hZ
  clear hZ HV
  go_wp2_with fail
  refine (index_any P e (B + 1) pv Z HZ.out.sl HZ.out.ev).mono ?_
  rintro e1 w1 ⟨rfl, ho1⟩
  have HZ1 := Lib.hid (HZ.out.keep ho1)
  clear ho1 HZ c0
  cases hi : idxN e.who 0 P with
  | none =>
    have hres := verL_none e P 0 hi
    have HRES := Lib.hid hres
    have e0 : idxV none = -1 := rfl
    rw [e0]
    clear hres hi
    go_wp2_with fail
    go_ret
    exact ⟨by rw [HRES.out]; rfl, HZ1.out.only⟩
  | some k =>
    obtain ⟨_, p, hpk, hid, hres⟩ := verL_some e P 0 k hi
    rw [Nat.sub_zero] at hpk
    obtain ⟨A, cap, rfl, hlc, hcm, hA⟩ := HZ1.out.sl
    obtain ⟨g, o, rfl, hg, hr⟩ := hA k p hpk
    have hk : k < P.length := (List.getElem?_eq_some_iff.1 hpk).1
    have e0 : idxV (some k) = (k : Int) := rfl
    rw [e0]
    have k0 : ¬ (k : Int) < 0 := by omega
    have k1 : (0 : Int) ≤ (k : Int) := by omega
    have k2 : (k : Int) < (P.length : Int) := by omega
    have kd : decide ((k : Int) < 0) = false := decide_eq_false k0
    obtain ⟨T, hT⟩ : ∃ T : ByteArray, T.data.toList = evText e := ⟨⟨(evText e).toArray⟩, by simp⟩
    have hts : T.size ≤ 17592186044416 := by
      have l1 := numsL_len e.nums HE.out.nums_in
      have l2 := hexL_len e.prev
      have hn := HN.out
      have hx := HX.out
      have l3 := quoL_len e.name.data.toList (by rw [← size_list]; omega)
      have l4 := quoL_len e.text.data.toList (by rw [← size_list]; omega)
      rw [← size_list] at l3 l4
      rw [HE.out.prev] at l2
      have l5 : e.nums.length = 10 := rfl
      rw [size_list, hT]
      unfold evText
      simp only [List.length_append, List.length_cons, List.length_nil]
      omega
    have hpp := HPUB.out p (List.mem_of_getElem? hpk)
    have f1 : ∀ W, VeS w B (.slice (some ⟨g, o, none⟩) P.length cap) P e W → Calls Tryz.prog 104 #[.agg (evC e).toArray] W (fun e' w' => e' = .returned (.string T) ∧ Only NoneOf W w') := fun W h => (etext_any e HE.out (by have := HN.out; omega) (by have := HX.out; omega) W (HT.out.none h.only)).mono (by rintro e' w' ⟨t, rfl, ht, ho⟩; exact ⟨by rw [bytes_ext (ht.trans hT.symm)], ho⟩)
    obtain ⟨gb, egb⟩ : ∃ b, b = goodB p.pub (evText e) e.r e.s := ⟨_, rfl⟩
    have f2 : ∀ W, Calls Tryz.prog 103 #[.int .i64 p.pub, .string T, .agg #[.int .i64 e.r, .int .i64 e.s]] W (fun e' w' => e' = .returned (.bool gb) ∧ Only NoneOf W w') := fun W => by
      rw [egb, ← hT]
      exact sverify_any p.pub e.r e.s T W hts hpp.1 hpp.2 HE.out.r.1 HE.out.r.2
    have cp : ∀ W, VeS w B (.slice (some ⟨g, o, none⟩) P.length cap) P e W → W.cell? ⟨g, o + k * 3 + 2, none⟩ = some (.int .i64 p.pub) := fun W h => by
      obtain ⟨A', cap', hv, _, _, h3⟩ := h.sl
      obtain ⟨g', o', hA', _, hr'⟩ := h3 k p hpk
      simp only [Value.slice.injEq] at hv
      rw [← hv.1] at hA'
      simp only [Option.some.injEq, Addr.mk.injEq, and_true] at hA'
      obtain ⟨rfl, rfl⟩ := hA'
      exact hr' 2 _ rfl
    have cb : ∀ W, VeS w B (.slice (some ⟨g, o, none⟩) P.length cap) P e W → W.cell? ⟨B, 0, none⟩ = some (.slice (some ⟨g, o, none⟩) P.length cap) := fun W h => h.pers
    have cl : ∀ W, VeS w B (.slice (some ⟨g, o, none⟩) P.length cap) P e W → (evLoad (.pointer (some ⟨B + 1, 0, none⟩))).run Tryz.prog W = .ok (.agg (evC e).toArray) W := fun W h => ev_load h.ev HE.out.prev
    have c44 : ∀ W, VeS w B (.slice (some ⟨g, o, none⟩) P.length cap) P e W → W.cell? ⟨B + 1, 44, none⟩ = some (.int .i64 e.r) := fun W h => (ev_sig h.ev HE.out.prev).1
    have c45 : ∀ W, VeS w B (.slice (some ⟨g, o, none⟩) P.length cap) P e W → W.cell? ⟨B + 1, 45, none⟩ = some (.int .i64 e.s) := fun W h => (ev_sig h.ev HE.out.prev).2
    have hS := HZ1.out.keep (Only.refl _ _).drew
    have HKP : Hid (∀ W W', VeS w B (.slice (some ⟨g, o, none⟩) P.length cap) P e W → Only NoneOf W W' → VeS w B (.slice (some ⟨g, o, none⟩) P.length cap) P e W') := Lib.hid (fun W W' h ho => h.keep ho)
    have F1 := Lib.hid f1
    have F2 := Lib.hid f2
    have HRES := Lib.hid hres
    have HGB := Lib.hid egb
    clear f1 f2 hres egb hpp hts hT hpk hid hi hA hr hk HZ1 e0
    go_upto_region 4 with (fail)
    go_region_held3 (fun w' => VeS w B (.slice (some ⟨g, o, none⟩) P.length cap) P e w') (first | assumption)
      (first
        | (go_at_call 104; refine (F1.out _ (by assumption)).mono ?_; rintro e2 w2 ⟨rfl, ho2⟩; have hS2 := HKP.out _ _ (by assumption) ho2; clear ho2)
        | (go_at_call 103; refine (F2.out _).mono ?_; rintro e3 w3 ⟨rfl, ho3⟩; have hS3 := HKP.out _ _ (by assumption) ho3; clear ho3))
    all_goals
      have hr := HRES.out
      rw [← HGB.out] at hr
      cases gb with
      | true =>
        rw [if_pos rfl] at hr
        have HR := Lib.hid hr
        clear hr
        go_wp2_with fail
        go_ret
        exact ⟨by rw [HR.out]; rfl, hS3.only⟩
      | false =>
        rw [if_neg (by simp)] at hr
        have HR := Lib.hid hr
        clear hr
        go_wp2_with fail
        go_ret
        exact ⟨by rw [HR.out]; rfl, hS3.only⟩
end Go.Proofs.YtgalfohobgjelaaGreatDoor
namespace Go.Proofs.YtgalfohobgjelaaGreatDoor
def wordsN (l : List Int) : List UInt8 := l.flatMap (fun n => 32 :: Lib.itoa n)
def lineL (word : List UInt8) (l : List Int) : List UInt8 := word ++ wordsN l ++ [10]
/-- A bid. -/
structure Bd where
  bidder : Int
  qt : ByteArray
  qc : List Int
  pt : ByteArray
  pc : List Int
def wBid : List UInt8 := [98, 105, 100]
def wQuality : List UInt8 := [113, 117, 97, 108, 105, 116, 121]
def wPrice : List UInt8 := [112, 114, 105, 99, 101]
def encB (b : Bd) : List UInt8 := lineL wBid [b.bidder] ++ lineL wQuality b.qc ++ lineL (hexL b.qt.data.toList) [] ++ lineL wPrice b.pc ++ lineL (hexL b.pt.data.toList) []
/-- The world by numbers. -/
structure Wd where
  off : Nat
  kinds : List UInt8
  fork : Nat
structure Wd.Ok (d : Wd) : Prop where
  off : d.off < 256
  fork : d.fork < 256
def Wd.n (d : Wd) : Nat := 1 + d.off % 7
noncomputable def bidder (k : Nat) : Pers := ⟨(k : Int), 4, (pub (secI k) : Int)⟩
/-- The persons of the setup. -/
noncomputable def setW (d : Wd) : List Pers := setB d.n ++ [bidder 60, bidder 61]
end Go.Proofs.YtgalfohobgjelaaGreatDoor
namespace Go.Proofs.YtgalfohobgjelaaGreatDoor
open Go.RowKit Go.Shelf
theorem lies_writer : liesAt Tryz.prog Tryz.prog.depth 163 (2 / Tryz.prog.cellsOf 163) 0 161 1 = true := by kernel_rfl
set_option maxRecDepth 100000 in
set_option maxHeartbeats 400000 in
theorem wcheck_any {B b : Nat} {bs : List Value} {w : World} (h : Lib.IsBuilder 163 5 B b bs w) :
    Calls Tryz.prog 179 #[.pointer (some ⟨b, 0, none⟩)] w fun e w' => e = .returned (.tuple #[]) ∧ Lib.BuilderAt 163 5 B b (.pointer (some ⟨b, 0, none⟩)) bs w' ∧ Below B w w' := by
  obtain ⟨j, hj, hjs⟩ := Option.map_eq_some_iff.1 size_builder
  rcases h with h | h
  · have c0 := h.cell0
    have f0 := h.frozen0
    have hsh := h.shape
    have hto := fun W (hW : World.shape? W b = some (163, 2)) => Lib.run_to_unsafe (P := Tryz.prog) W ⟨b, 0, none⟩ Tryz.underlying159 Tryz.underlying239 hj (by rw [hjs]; decide) hW (Nat.zero_lt_succ 1)
    have hfr := Lib.run_from_unsafe (P := Tryz.prog) w ⟨b, 0, none⟩ Tryz.underlying239 Tryz.underlying159 hj hsh lies_writer
    have h1 := hto w hsh
    have HH := Lib.hid h
    clear h hto hsh
    go_enter Tryz.func179, Tryz.ntmps179
    go_wp2_with fail
    rw [run_callFunc_extern Tryz.func195 (by kernel_rfl) (by kernel_rfl) (by kernel_rfl) (e := Extern.AbiNoEscape.same) (by kernel_rfl)]
    rw [Lib.run_noEscape]
    simp only [Result.andThen]
    rw [Oper.upon_value]
    go_wp2_with fail
    go_end0
    have hu := HH.out.used (.pointer (some ⟨b, 0, none⟩))
    exact ⟨rfl, hu, (Below.refl _ _).setCell (p := ⟨b, 0, none⟩) HH.out.1 _⟩
  · have c0 := h.cell0
    have hne := Lib.run_neq_ptr_same (P := Tryz.prog) w ⟨b, 0, none⟩ Tryz.underlying159 hj
    have HH := Lib.hid h
    clear h
    go_enter Tryz.func179, Tryz.ntmps179
    go_wp2_with fail
    go_end0
    exact ⟨rfl, HH.out, Below.refl _ _⟩
set_option maxRecDepth 100000 in
set_option maxHeartbeats 1000000 in
theorem wwb_any {B b : Nat} {l : List UInt8} {c : UInt8} {w : World} (h : Lib.IsBuilder 163 5 B b (Lib.byteCells l) w) (hlen : l.length + 1 ≤ 140737488355328) (hBw : B ≤ w.heap.size) :
    Calls Tryz.prog 156 #[.pointer (some ⟨b, 0, none⟩), .int .u8 (c.toNat : Int)] w fun e w' => e = .returned .nilIface ∧ Lib.IsBuilder 163 5 B b (Lib.byteCells (l ++ [c])) w' ∧ Below B w w' := by
  obtain ⟨i0, hi, hz0, hz1, hz2⟩ := info_parts Tryz.info5
  have H := Lib.hid h
  clear h
  go_enter Tryz.func156, Tryz.ntmps156
  go_wp2_with fail
  refine (wcheck_any H.out).mono ?_
  rintro e w1 ⟨rfl, h1, hb1⟩
  obtain ⟨hB, v, hbk, hown, hne⟩ := h1
  have c0 : w1.cell? ⟨b, 0, none⟩ = some (.pointer (some ⟨b, 0, none⟩)) := by rw [Lib.cell_of_heap hbk]; rfl
  have c1 : w1.cell? ⟨b, 1, none⟩ = some v := by rw [Lib.cell_of_heap hbk]; rfl
  have hlt : b < w1.heap.size := (Array.getElem?_eq_some_iff.1 hbk).1
  have hsz := hb1.size
  have HBK := Lib.hid hbk
  have HOWN := Lib.hid hown
  have HNE := Lib.hid hne
  have HB1 := Lib.hid hb1
  rw [Lib.byteCells_length] at HOWN
  clear hbk hown hne hb1
  go_wp2_with (at_builtin; refine wpList_append_own _ rfl _ _ 22 rfl B 5 i0 (.int .u8 0) 1 1 Tryz.underlying22 hi hz0 hz1 hz2 rfl (by decide) _ _ _ rfl (HOWN.out.alloc _) ⟨w1.heap.size, 0, none⟩ 1 1 [.int .u8 (c.toNat : Int)] rfl rfl (fun j u hj => by match j, hj with | 0, hj => simp at hj; subst hj; simp [Addr.add]) (fun u hu => by simp at hu; subst hu; rfl) (by unfold maxLen; omega) (by omega) (by simp; omega) ?_; intro v' w2 hown' hgrow _; have hb2 : w2.heap[b]? = some (.cells #[.pointer (some ⟨b, 0, none⟩), v] 163 (0, 0)) := (by rw [hgrow.block b (by simp; omega) (fun e => HNE.out e.symm), Lib.alloc_old w1 _ b hlt]; exact HBK.out); obtain ⟨ao, cap, hv', hcc, hcm⟩ := own_form' hown'; subst hv'; have d0 : w2.cell? ⟨b, 0, none⟩ = some (.pointer (some ⟨b, 0, none⟩)) := (by rw [Lib.cell_of_heap hb2]; rfl); have d1 : w2.cell? ⟨b, 1, none⟩ = some v := (by rw [Lib.cell_of_heap hb2]; rfl); have f1 : w2.frozen? ⟨b, 1, none⟩ = false := Lib.frozen_of_heap hb2 1; have HB2 := Lib.hid hb2; have HOW2 := Lib.hid hown'; have HGR := Lib.hid hgrow; clear hb2 hown' hgrow)
  go_ret
  refine ⟨rfl, .inr ?_, ?_⟩
  · refine Lib.BuilderAt.put (T := 163) (e := 5) hB HB2.out (bs' := Lib.byteCells (l ++ [c])) ?_ (by decide)
    have h := HOW2.out
    have e : Lib.byteCells (l ++ [c]) = Lib.byteCells l ++ [.int .u8 (c.toNat : Int)] := by simp [Lib.byteCells]
    rw [Lib.byteCells_length, List.length_append, e]
    exact h
  · exact ((HB1.out.alloc (by have := HB1.out.size; omega) _).grown HGR.out (by have := HB1.out.size; simp; omega) (fun k hk => (HOWN.out.lt k hk).1)).setCell (p := ⟨b, 1, none⟩) hB _
theorem cellsByte : Tryz.prog.cellsOf 5 = 1 := by kernel_rfl
set_option maxRecDepth 100000 in
set_option maxHeartbeats 1000000 in
theorem wstring_any {B b : Nat} {l : List UInt8} {w : World} (h : Lib.IsBuilder 163 5 B b (Lib.byteCells l) w) (h0 : l ≠ []) :
    Calls Tryz.prog 111 #[.pointer (some ⟨b, 0, none⟩)] w fun e w' => e = .returned (.string ⟨l.toArray⟩) ∧ Below B w w' := by
  obtain ⟨p, hB, v, hbk, hown, hne⟩ : ∃ p, Lib.BuilderAt 163 5 B b p (Lib.byteCells l) w := by
    rcases h with h | h
    · exact ⟨_, h⟩
    · exact ⟨_, h⟩
  have hl0 : l.length ≠ 0 := by simpa using h0
  rw [Lib.byteCells_length] at hown
  obtain ⟨g, cap, cur, rfl, hbg, hg, hnc, hcm, hcs, htake⟩ : ∃ g cap cur, v = .slice (some ⟨g, 0, none⟩) l.length cap ∧ B ≤ g ∧ w.heap[g]? = some (.cells cur 5 (0, 0)) ∧ l.length ≤ cap ∧ cap ≤ maxLen ∧ cur.size = cap * 1 ∧ cur.toList.take (l.length * 1) = Lib.byteCells l := by
    rcases hown.2 with ⟨_, hz⟩ | ⟨g, cap, cur, hv, r⟩
    · exact absurd hz hl0
    · exact ⟨g, cap, cur, hv, r⟩
  rw [maxLen_val] at hcm
  have c1 : w.drew.cell? ⟨b, 1, none⟩ = some (.slice (some ⟨g, 0, none⟩) l.length cap) := by
    have h1 : w.drew.heap[b]? = some (.cells #[p, .slice (some ⟨g, 0, none⟩) l.length cap] 163 (0, 0)) := hbk
    rw [Lib.cell_of_heap h1]; rfl
  have hSD : (Builtin.unsafeSliceData_ #[22] 206 #[.slice (some ⟨g, 0, none⟩) l.length cap]).run Tryz.prog w.drew = .ok (.pointer (some ⟨g, 0, none⟩)) w.drew :=
    Lib.run_unsafeSliceData_row _ _ _ _ _ _ (by omega)
  have hUS : (Builtin.unsafeString_ #[206, 3] 9 #[.pointer (some ⟨g, 0, none⟩), .int .i64 l.length]).run Tryz.prog w.drew = .ok (.string ⟨l.toArray⟩) (w.drew.freeze ⟨g, 0, none⟩ l.length) := by
    refine Lib.run_unsafeString_row w.drew 206 3 9 5 Tryz.underlying206 cellsByte g cur.size (by have hg' : w.drew.heap[g]? = some (.cells cur 5 (0, 0)) := hg; simp [World.shape?, hg']) l h0 (by omega) (by omega) ?_
    intro j x hx
    exact hown.cells (g := g) rfl j (.int .u8 x.toNat) (by simp [Lib.byteCells, hx])
  clear hown hg htake hcs hbk h hne
  go_enter Tryz.func111, Tryz.ntmps111
  go_wp2_with fail
  go_region
  all_goals
    go_wp2_with fail
    go_ret
    exact ⟨rfl, Lib.below_freeze (Below.drew (Below.refl B w)) (p := ⟨g, 0, none⟩) hbg _⟩
set_option maxRecDepth 100000 in
set_option maxHeartbeats 1000000 in
theorem wstring_none {b : Nat} {w : World} (h : w.cell? ⟨b, 1, none⟩ = some (.slice none 0 0)) :
    Calls Tryz.prog 111 #[.pointer (some ⟨b, 0, none⟩)] w fun e w' => e = .returned (.string ⟨#[]⟩) ∧ Only NoneOf w w' := by
  have c1 : w.drew.cell? ⟨b, 1, none⟩ = some (.slice none 0 0) := h
  have hSD : (Builtin.unsafeSliceData_ #[22] 206 #[.slice none 0 0]).run Tryz.prog w.drew = .ok (.pointer none) w.drew := rfl
  have hUS : (Builtin.unsafeString_ #[206, 3] 9 #[.pointer none, .int .i64 0]).run Tryz.prog w.drew = .ok (.string .empty) w.drew := Lib.run_unsafeString_none _ _ _ _ _
  clear h
  go_enter Tryz.func111, Tryz.ntmps111
  go_wp2_with fail
  go_region
  all_goals
    go_wp2_with fail
    go_ret
    exact ⟨rfl, (Only.refl _ _).drew⟩
end Go.Proofs.YtgalfohobgjelaaGreatDoor
