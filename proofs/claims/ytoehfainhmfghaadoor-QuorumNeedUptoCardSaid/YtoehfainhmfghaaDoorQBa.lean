/- What is proved here: the votes are counted by heads, by the program. Conditions: the numbers are ints, roots have 32 bytes, there are few votes and persons; the table of powers of ten reads as its initialiser lays it. -/
import Derived.Test.YtoehfainhmfghaaDoorQBp
namespace Go.Proofs.YtoehfainhmfghaaDoor
open Go.RowKit Go.Shelf
open Go.Maps (Keyed)
attribute [local go_sem ↓ high] hdLoad_eq hdNew_eq hdStore_eq
theorem VtSl.onlyM {w w' : World} {S : Nat → Prop} {v : Value} {L : List Vt} (h : VtSl w v L) (ho : Only S w w') (hS : ∀ j, S j → ∀ i u, w.cell? ⟨j, i, none⟩ = some u → False) : VtSl w' v L := by
  obtain ⟨A, cap, hv, h1, h2, h3⟩ := h
  refine ⟨A, cap, hv, h1, h2, fun i p hp => ?_⟩
  obtain ⟨g, o, hA, hg, hr⟩ := h3 i p hp
  exact ⟨g, o, hA, Nat.lt_of_lt_of_le hg ho.size, fun j u hj => ho.cell_some (hr j u hj) (fun hs => hS g hs _ u (hr j u hj))⟩
theorem map_no_cell {w : World} {P : Program} {k : TypeId} {b n : Nat} {f : Value → Option Value} (hm : MapV w P k b n f) : ∀ i u, w.cell? ⟨b, i, none⟩ = some u → False := fun _ _ hc => cell_map_ne hm hc rfl
theorem cIn_le (O : List Pers) (L : List Vt) (left : Value → Bool) (p : Pers) (left2 : Value → Bool) (h : Hd) : cIn O L left p left2 h ≤ O.length + 1 := by
  unfold cIn cDone
  have := List.countP_le_length (p := fun p => !left (idV p) && hasV L p h) (l := O)
  split <;> omega
theorem World.grownBy.refl (w : World) (row : Option Nat) : w.grownBy w row := ⟨rfl, rfl, rfl, Nat.le_refl _, fun _ _ _ => rfl⟩
/-- What the outer loop keeps. -/
structure BaS (w0 w : World) (bO bG rO nG : Nat) (O : List Pers) (L : List Vt) (f : Value → Option Value) (left : Value → Bool) (cnt : Nat) (W : World) : Prop where
  out : ∃ n, MapV W Tryd.prog 35 bO n (cntF (cDone O L left) (L.map (·.head))) ∧ n + 100001 * cnt ≤ 10000300002
  grp : RangeV W Tryd.prog 3 bG rO nG f left cnt
  one : Only (fun j => j = bO) w W
  only : Only NoneOf w0 W
  sub : ∀ x, left x = true → f x ≠ none
/-- What the inner loop keeps. -/
structure BiS (w0 w : World) (bO bG rO nG bI rI nI : Nat) (O : List Pers) (L : List Vt) (f : Value → Option Value) (left : Value → Bool) (cnt : Nat) (p : Pers) (f2 : Value → Option Value) (left2 : Value → Bool) (cnt2 : Nat) (W : World) : Prop where
  out : ∃ n, MapV W Tryd.prog 35 bO n (cntF (cIn O L left p left2) (L.map (·.head))) ∧ n + cnt2 + 100001 * cnt ≤ 10000300001
  grp : RangeV W Tryd.prog 3 bG rO nG f (fun x => left x && !eqv x (idV p)) cnt
  inn : RangeV W Tryd.prog 35 bI rI nI f2 left2 cnt2
  one : Only (fun j => j = bO) w W
  only : Only NoneOf w0 W
set_option maxRecDepth 100000 in
set_option maxHeartbeats 4000000 in
theorem ballots_any (P : List Pers) (hP : PersOk P) (hlen : P.length ≤ 1000) (pv : Value) (L : List Vt) (hok : VtsOk L) (hL : L.length ≤ 100000) (sv : Value) (w : World) (hp : PerSl w pv P) (hs : VtSl w sv L) (ht : Tab w) :
    Calls Tryd.prog 16 #[setV pv, sv] w fun e w' => ∃ b n, e = .returned (.map (some b)) ∧ n < maxLen ∧ MapV w' Tryd.prog 35 b n (cntF (votesFor (offs P) L) (L.map (·.head))) ∧ Only NoneOf w w' := by
  have hgd : ∀ W, Only NoneOf w W → Calls Tryd.prog 30 #[setV pv, sv] W fun e w' => ∃ b n f, e = .returned (.map (some b)) ∧ n ≤ 100000 ∧ W.heap.size ≤ b ∧ GrpR w' 3 whoK b n (L.filter (cntO (offs P))) f ∧ Only NoneOf W w' := fun W ho => good_any P hP hlen pv L hok hL sv W (hp.only ho) (hs.only ho) (ht.none ho)
  have hap := offs_apart P
  have hol : (offs P).length ≤ 1000 := Nat.le_trans (offs_len P) hlen
  obtain ⟨O, eO⟩ : ∃ O, O = offs P := ⟨_, rfl⟩
  rw [← eO] at hgd hap hol ⊢
  unfold setV at hgd ⊢
  obtain ⟨B, eB⟩ : ∃ B, B = w.heap.size := ⟨_, rfl⟩
  obtain ⟨bO, ebO⟩ : ∃ bO, bO = B + 1 := ⟨_, rfl⟩
  obtain ⟨X, eX⟩ : ∃ X, X = (w.alloc (.cells #[pv, .int .i64 0, .slice none 0 0, .slice none 0 0, .int .i64 0, .int .i64 0] 30)).alloc (.map #[] 0) := ⟨_, rfl⟩
  have x1 : MapV X Tryd.prog 35 bO 0 (fun _ => none) := by
    have h1 := MapV.made (w.alloc (.cells #[pv, .int .i64 0, .slice none 0 0, .slice none 0 0, .int .i64 0, .int .i64 0] 30)) Tryd.prog 35
    rw [World.size_alloc, ← eB, ← ebO] at h1
    rw [eX]; exact h1
  have x3 : Only NoneOf w X := by rw [eX]; exact ((Only.refl _ _).alloc _).alloc _
  have x0 : X.cell? ⟨B, 0, none⟩ = some pv ∧ X.cell? ⟨B, 1, none⟩ = some (.int .i64 0) ∧ X.cell? ⟨B, 2, none⟩ = some (.slice none 0 0) ∧ X.cell? ⟨B, 3, none⟩ = some (.slice none 0 0) ∧ X.cell? ⟨B, 4, none⟩ = some (.int .i64 0) ∧ X.cell? ⟨B, 5, none⟩ = some (.int .i64 0) := by
    have h3 : Blk X B 30 #[pv, .int .i64 0, .slice none 0 0, .slice none 0 0, .int .i64 0, .int .i64 0] := by rw [eX, eB]; exact (Blk.new w _ _).alloc _
    exact ⟨h3.cell 0, h3.cell 1, h3.cell 2, h3.cell 3, h3.cell 4, h3.cell 5⟩
  have hXs : X.heap.size = bO + 1 := by rw [eX, World.size_alloc, World.size_alloc]; omega
  have hwb : w.heap.size ≤ bO := by omega
  have X0 := Lib.hid x0
  have X1 := Lib.hid x1
  have X3 := Lib.hid x3
  have HXS := Lib.hid hXs
  have EX := Lib.hid eX
  have EB := Lib.hid eB
  have EBO := Lib.hid ebO
  have HGD := Lib.hid hgd
  have HOK := Lib.hid hok
  have HAP := Lib.hid hap
  clear x0 x1 x3 hXs eX eB ebO hgd hok ht hap hp hs hP hlen
  have hmm := @run_makeMap Tryd.prog
  go_enter Tryd.func16, Tryd.ntmps16
  go_upto_region 2 with (fail)
  rw [← EB.out, ← EBO.out, ← EX.out]
  clear hmm
  obtain ⟨x0, xa, xb, xc, xd, xe⟩ := X0.out
  go_wp2_with fail
  refine (HGD.out _ X3.out).mono ?_
  rintro e1 w1 ⟨bG, nG, f, rfl, hnG, hbG, hgr, ho1⟩
  have HO1 := Lib.hid ho1
  have HGR := Lib.hid hgr
  have HBG := Lib.hid hbG
  clear ho1 hgr hbG x0 xa xb xc xd xe HGD
  go_wp2_with (at_range; refine wpList_rangeV _ rfl _ 64 rfl 3 36 int_law Tryd.underlying64 bG nG f rfl HGR.out.1 ?_; intro w2 cnt0 hrg0 hO2 hsz2)
  obtain ⟨rO, erO⟩ : ∃ rO, rO = w1.heap.size := ⟨_, rfl⟩
  rw [← erO] at hrg0 ⊢
  have hbOG : bO ≠ bG := by have := HXS.out; have := HBG.out; omega
  have hrOb : rO ≠ bO := by have := HXS.out; have := HO1.out.size; omega
  have hdom : ∀ x v, f x = some v → ∃ p ∈ O, x = idV p ∧ ∀ W, Only (fun j => j = bO) w1 W → VtSl W v (L.filter (cnts p)) := fun x v hx => by
    obtain ⟨_, hd, hsl⟩ := HGR.out
    have h1 : ¬ ∀ u ∈ L.filter (cntO O), whoK u ≠ x := fun h => by rw [(hd x).2 h] at hx; cases hx
    have h1' : ∃ u ∈ L.filter (cntO O), whoK u = x := by
      apply Classical.byContradiction
      intro h; exact h1 (fun u hu e => h ⟨u, hu, e⟩)
    obtain ⟨u, hu, hux⟩ := h1'
    obtain ⟨hu1, hu2⟩ := List.mem_filter.1 hu
    unfold cntO at hu2
    cases hf : O.find? (fun p => p.id == u.who) with
    | none => rw [hf] at hu2; cases hu2
    | some p =>
      have hpm := List.mem_of_find?_eq_some hf
      have hpi : p.id = u.who := by simpa using List.find?_some hf
      have hxp : x = idV p := by rw [← hux]; unfold whoK idV; rw [hpi]
      refine ⟨p, hpm, hxp, fun W ho => ?_⟩
      have h2 := hsl x v hx
      have h3 : grp whoK (L.filter (cntO O)) x = L.filter (cnts p) := by
        unfold grp
        rw [List.filter_filter]
        apply List.filter_congr
        intro y _
        rw [hxp, ← cntO_of HAP.out hpm y, Bool.and_comm]
        unfold whoK idV
        rw [eqv_int, Bool.eq_iff_iff]
        simp only [Bool.and_eq_true, beq_iff_eq]
        exact ⟨fun h => ⟨h.1, h.2.symm⟩, fun h => ⟨h.1, h.2.symm⟩⟩
      rw [h3] at h2
      exact h2.onlyM ho (fun j hj i u hc => by subst hj; exact map_no_cell (X1.out.only HO1.out (fun e => e)) i u hc)
  have hdom2 : ∀ p ∈ O, ∀ g, hasV L p g = true → f (idV p) ≠ none := fun p hpm g hv hn => by
    obtain ⟨v, hv1, _, hv2⟩ := hasV_iff.1 hv
    obtain ⟨_, hd, _⟩ := HGR.out
    have hc : cntO O v = true ∧ v.who = p.id := by
      rw [← cntO_of HAP.out hpm v] at hv2
      simpa using hv2
    exact (hd (idV p)).1 hn v (List.mem_filter.2 ⟨hv1, hc.1⟩) (by unfold whoK idV; rw [hc.2])
  have hs0 : BaS w w1 bO bG rO nG O L f (fun x => (f x).isSome) cnt0 w2 := by
    refine ⟨⟨0, ?_, by have := hrg0.cnt_le; omega⟩, hrg0, hO2.mono (fun _ _ h => h.elim), (X3.out.trans HO1.out).trans hO2, fun x hx hn => by rw [hn] at hx; cases hx⟩
    have h1 : MapV w2 Tryd.prog 35 bO 0 (fun _ => none) := X1.out.only (HO1.out.trans hO2) (fun e => e)
    refine h1.congr (fun x => ?_)
    rw [cntF_ext (d := fun _ => 0) (fun g _ => cDone_zero (fun p hp g' hv => by
      have := hdom2 p hp g' hv
      cases hf : f (idV p) with
      | none => exact (this hf).elim
      | some _ => rfl) g)]
    unfold cntF
    rw [List.find?_eq_none.2 (by simp)]
    rfl
  have HS0 := Lib.hid hs0
  have HDOM := Lib.hid hdom
  have HDOM2 := Lib.hid hdom2
  have HRO := Lib.hid erO
  clear hs0 hdom hdom2 hrg0 hO2 hsz2 erO
  go_frame
  go_loopw [7, 8] (fun _ _ wr => ∃ left cnt, BaS w w1 bO bG rO nG O L f left cnt wr) (fun _ _ wr => wr.rangeLeft bG rO)
  case atStart => exact ⟨_, _, HS0.out⟩
  case round =>
    obtain ⟨left, cnt, hS⟩ := hrel
    have HS := Lib.hid hS
    clear hS
    go_wp2_with (at_next; refine wpList_nextV _ rfl _ rfl 3 int_law bG rO nG f left cnt rfl HS.out.grp ?_ ?_)
    · intro hc0 hl0
      obtain ⟨n, hm, hn⟩ := HS.out.out
      have hfin : MapV wr Tryd.prog 35 bO n (cntF (votesFor O L) (L.map (·.head))) := hm.congr (fun x => cntF_ext (fun g _ => cDone_end (fun p hp g' hv => hl0 _ (HDOM2.out p hp g' hv)) g) x)
      have HFIN := Lib.hid hfin
      have HN : Hid (n < maxLen) := Lib.hid (by rw [maxLen_val]; omega)
      clear hfin hm hn hl0 hc0
      go_wp2_with fail
      go_ret
      exact ⟨bO, n, rfl, HN.out, HFIN.out, HS.out.only⟩
    · intro key v w3 cnt' hfk hlk hrg hlt hgr3 hsz3 hen
      obtain ⟨p, hpO, rfl, hslW⟩ := HDOM.out key v hfk
      have hrOw : w1.heap.size ≤ rO := by rw [HRO.out]; exact Nat.le_refl _
      have hone3 : Only (fun j => j = bO) w1 w3 := HS.out.one.grown hgr3 (fun j e => by cases e; exact .inr hrOw)
      have honly3 : Only NoneOf w w3 := HS.out.only.grown hgr3 (fun j e => by cases e; exact .inr (Nat.le_trans (X3.out.trans HO1.out).size hrOw))
      have hsl3 := hslW w3 hone3
      have hok3 : VtsOk (L.filter (cnts p)) := fun x hx => HOK.out x (List.mem_filter.1 hx).1
      have hl3 : (L.filter (cnts p)).length ≤ 100000 := Nat.le_trans (List.length_filter_le _ _) hL
      have hgh := ghead_any (L.filter (cnts p)) hok3 hl3 v w3 hsl3
      obtain ⟨n, hm, hn⟩ := HS.out.out
      have hm3 : MapV w3 Tryd.prog 35 bO n (cntF (cDone O L left) (L.map (·.head))) := hm.grown hgr3 (fun e => hrOb (Option.some.inj e).symm)
      have hsub := HS.out.sub
      have HM3 := Lib.hid hm3
      have HN := Lib.hid hn
      have HRG := Lib.hid hrg
      have HONE3 := Lib.hid hone3
      have HONLY3 := Lib.hid honly3
      have HGH := Lib.hid hgh
      have HPO := Lib.hid hpO
      have HLK := Lib.hid hlk
      have HFK := Lib.hid hfk
      have HSUB := Lib.hid hsub
      have HMEAS := Lib.hid (show wr.rangeLeft bG rO = cnt from HS.out.grp.left_eq)
      clear hslW hone3 honly3 hsl3 hok3 hl3 hgh hm hn hm3 hrg hgr3 hsz3 hlk hfk hsub hpO
      unfold idV at hen
      obtain ⟨wo, rfl⟩ : ∃ wo : World, wo = wr := ⟨_, rfl⟩
      go_wp2_with fail
      refine HGH.out.mono ?_
      rintro e4 w4 ⟨bI, nI, f2, rfl, hnI, hbI, hgrI, hoI⟩
      have hbOI : bO ≠ bI := by have := HXS.out; have h1 := HO1.out.size; have h2 := HONE3.out.size; omega
      have HGI := Lib.hid hgrI
      have HOI := Lib.hid hoI
      clear hgrI hoI HGH hen
      go_wp2_with (at_range; refine wpList_rangeV _ rfl _ 66 rfl 35 36 hd_law Tryd.underlying66 bI nI f2 rfl HGI.out.1 ?_; intro w5 cnt2 hrg5 hO5 hsz5)
      obtain ⟨rI, erI⟩ : ∃ rI, rI = w4.heap.size := ⟨_, rfl⟩
      rw [← erI] at hrg5 ⊢
      have hrIO : rI ≠ bO := by have := HXS.out; have h1 := HO1.out.size; have h2 := HONE3.out.size; have h3 := HOI.out.size; omega
      have hrIG : rI ≠ bG ∧ rI ≠ rO := by
        have h1 := HRG.out.lt; have h2 := HOI.out.size; have h3 := HRG.out.map.lt
        omega
      have hdomI : ∀ y u, f2 y = some u → ∃ h : Hd, y = hdV h ∧ hasV L p h = true ∧ h.Ok ∧ h ∈ L.map (·.head) := fun y u hy => by
        obtain ⟨_, hd, _⟩ := HGI.out
        have h1 : ∃ x ∈ L.filter (cnts p), headK x = y := by
          apply Classical.byContradiction
          intro h
          rw [(hd y).2 (fun x hx e => h ⟨x, hx, e⟩)] at hy; cases hy
        obtain ⟨x, hx, hxy⟩ := h1
        obtain ⟨hx1, hx2⟩ := List.mem_filter.1 hx
        exact ⟨x.head, hxy.symm, hasV_iff.2 ⟨x, hx1, rfl, hx2⟩, (HOK.out x hx1).head, List.mem_map.2 ⟨x, hx1, rfl⟩⟩
      have hdomI2 : ∀ g, hasV L p g = true → f2 (hdV g) ≠ none := fun g hv hn => by
        obtain ⟨x, hx1, hx2, hx3⟩ := hasV_iff.1 hv
        obtain ⟨_, hd, _⟩ := HGI.out
        exact (hd (hdV g)).1 hn x (List.mem_filter.2 ⟨hx1, hx3⟩) (by unfold headK hdV; rw [hx2])
      have hi0 : BiS w w1 bO bG rO nG bI rI nI O L f left cnt' p f2 (fun x => (f2 x).isSome) cnt2 w5 := by
        have ho35 := HOI.out.trans hO5
        refine ⟨⟨n, (HM3.out.only ho35 (fun e => e)).congr (fun x => (cntF_ext (fun g _ => cIn_start (fun g' hv => by
            have := hdomI2 g' hv
            cases hf : f2 (hdV g') with
            | none => exact (this hf).elim
            | some _ => rfl) g) x).symm), ?_⟩, HRG.out.only ho35 (fun e => e) (fun e => e), hrg5, HONE3.out.trans (ho35.mono (fun _ _ h => h.elim)), HONLY3.out.trans ho35⟩
        have h1 := HN.out
        have h2 := hrg5.cnt_le
        omega
      have HI0 := Lib.hid hi0
      have HDI := Lib.hid hdomI
      have HDI2 := Lib.hid hdomI2
      have HRI := Lib.hid erI
      clear hi0 hdomI hdomI2 hrg5 hO5 hsz5 erI
      go_frame
      go_loopw [8] (fun _ wi => ∃ left2 cnt2, BiS w w1 bO bG rO nG bI rI nI O L f left cnt' p f2 left2 cnt2 wi) (fun _ wi => wi.rangeLeft bI rI)
      case atStart => exact ⟨_, _, HI0.out⟩
      case round =>
        obtain ⟨left2, cnt2', hI⟩ := hrel
        have HI := Lib.hid hI
        clear hI
        go_wp2_with (at_next; refine wpList_nextV _ rfl _ rfl 35 hd_law bI rI nI f2 left2 cnt2' rfl HI.out.inn ?_ ?_)
        · intro hc0 hl0
          have hnew : BaS w w1 bO bG rO nG O L f (fun x => left x && !eqv x (idV p)) cnt' wr := by
            obtain ⟨n', hm', hn'⟩ := HI.out.out
            refine ⟨⟨n', hm'.congr (fun x => cntF_ext (fun g _ => cIn_end HAP.out HPO.out HLK.out (fun g' hv => hl0 _ (HDI2.out g' hv)) g) x), by omega⟩, HI.out.grp, HI.out.one, HI.out.only, fun x hx => HSUB.out x ?_⟩
            simp only [Bool.and_eq_true] at hx
            exact hx.1
          have HNEW := Lib.hid hnew
          clear hnew hl0 hc0
          go_wp2_with fail
          go_roundw
          case rel => exact ⟨_, _, HNEW.out⟩
          case measure => rw [HNEW.out.grp.left_eq, HMEAS.out]; omega
        · intro key u w6 cnt3 hfk hlk hrg6 hlt6 hgr6 hsz6 hen6
          obtain ⟨h, rfl, hv, hok, hmem⟩ := HDI.out key u hfk
          have hl := hok.root
          have hS6 : Only (fun j => j = rI) wr w6 := (Only.refl (fun j => j = rI) wr).grown hgr6 (fun j e => by cases e; exact .inl rfl)
          have hrIw : w.heap.size ≤ rI ∧ w1.heap.size ≤ rI := by
            have h1 := HO1.out.size; have h2 := HONE3.out.size; have h3 := HOI.out.size; have h4 := X3.out.size; have h5 := HRI.out
            omega
          obtain ⟨N, eN⟩ : ∃ N, N = w6.heap.size := ⟨_, rfl⟩
          have hb0 : Blk (w6.alloc (.cells hd0C 35)) N tHd hd0C := by rw [eN]; exact Blk.new w6 _ _
          have hst := hd_store hb0 rfl hl
          rw [eN] at hst
          have hnw := hdNew_run
          have hb1 : HdAt ((w6.alloc (.cells hd0C 35)).setCells N 0 (hdC h)) N h := filled_whole hb0 (by rw [hdC_len hl]; rfl)
          have hO7 : Only NoneOf w6 ((w6.alloc (.cells hd0C 35)).setCells N 0 (hdC h)) := only_setCells ((Only.refl _ _).alloc _) N 0 (.inr (by omega)) _
          obtain ⟨n', hm', hn'⟩ := HI.out.out
          have hm6 := (hm'.only hS6 (fun e => hrIO e.symm)).only hO7 (fun e => e)
          have hg6 := (HI.out.grp.only hS6 (fun e => hrIG.1 e.symm) (fun e => hrIG.2 e.symm)).only hO7 (fun e => e) (fun e => e)
          have hi6 := hrg6.only hO7 (fun e => e) (fun e => e)
          have ho6 : Only (fun j => j = bO) w1 ((w6.alloc (.cells hd0C 35)).setCells N 0 (hdC h)) := (HI.out.one.grown hgr6 (fun j e => by cases e; exact .inr hrIw.2)).trans (hO7.mono (fun _ _ h => h.elim))
          have hw6 : Only NoneOf w ((w6.alloc (.cells hd0C 35)).setCells N 0 (hdC h)) := (HI.out.only.grown hgr6 (fun j e => by cases e; exact .inr hrIw.1)).trans hO7
          have HM6 := Lib.hid hm6
          have HG6 := Lib.hid hg6
          have HI6 := Lib.hid hi6
          have HO6 := Lib.hid ho6
          have HW6 := Lib.hid hw6
          have HB1 := Lib.hid hb1
          have EN := Lib.hid eN
          have HV := Lib.hid hv
          have HOKH := Lib.hid hok
          have HMEM := Lib.hid hmem
          have HLK2 := Lib.hid hlk
          have HN' := Lib.hid hn'
          have HMEAS2 := Lib.hid (show wr.rangeLeft bI rI = cnt2' from HI.out.inn.left_eq)
          clear hm' hn' hm6 hg6 hi6 ho6 hw6 hb0 hb1 hO7 hS6 hgr6 hsz6 hrg6 hfk hlk hv hok hmem eN hrIw
          unfold hdV at hen6
          go_upto_region 8 with (fail)
          rw [← EN.out]
          refine wp_gen (fun Z => MapV Z Tryd.prog 35 bO n' (cntF (cIn O L left p left2) (L.map (·.head))) ∧ RangeV Z Tryd.prog 3 bG rO nG f (fun x => left x && !eqv x (idV p)) cnt' ∧ RangeV Z Tryd.prog 35 bI rI nI f2 (fun x => left2 x && !eqv x (hdV h)) cnt3 ∧ Only (fun j => j = bO) w1 Z ∧ Only NoneOf w Z ∧ HdAt Z N h) ⟨HM6.out, HG6.out, HI6.out, HO6.out, HW6.out, HB1.out⟩ ?_
          rintro Z ⟨zm, zg, zi, zo, zw, zb⟩
          clear hen6 hst hnw HM6 HG6 HI6 HO6 HW6 HB1
          obtain ⟨kl, hkl⟩ := key_hd HOKH.out
          obtain ⟨cn, ecn⟩ : ∃ cn, cn = cIn O L left p left2 h := ⟨_, rfl⟩
          have hcn : cn ≤ 1001 := by rw [ecn]; exact Nat.le_trans (cIn_le _ _ _ _ _ _) (by omega)
          have zmd : MapV Z.drew Tryd.prog 35 bO n' (cntF (cIn O L left p left2) (L.map (·.head))) := zm.only (Only.refl NoneOf Z).drew (fun e => e)
          have hval : (cntF (cIn O L left p left2) (L.map (·.head)) (.agg (hdC h).toArray)).getD (.int .i64 0) = .int .i64 (cn : Int) := by
            have h1 := cntF_hd (c := cIn O L left p left2) HMEM.out
            unfold hdV at h1
            rw [h1, ← ecn]
            by_cases h0 : 0 < cn
            · rw [if_pos h0]; rfl
            · rw [if_neg h0, show cn = 0 by omega]; rfl
          have hlk : (Instr.lookup 49 (.map (some bO)) (.agg (hdC h).toArray) false).run Tryd.prog Z.drew = .ok (.int .i64 (cn : Int)) Z.drew := by
            rw [zmd.look hd_law Tryd.underlying49 (zero_int _) hkl, hval]
          obtain ⟨v0, st, w7, hent, hg7, hst7⟩ := zmd.entry hd_key Tryd.underlying49 (by rw [maxLen_val]; have := HN'.out; omega) zero_int hkl
          have hlk7 : (Instr.lookup 49 (.map (some bO)) (.agg (hdC h).toArray) false).run Tryd.prog w7 = .ok (.int .i64 (cn : Int)) w7 := by
            rw [zmd.entry_look hd_key Tryd.underlying49 (by rw [maxLen_val]; have := HN'.out; omega) zero_int hkl hent, hval]
          obtain ⟨w8, hst8, hm8, hg8⟩ := hst7 w7 (.int .i64 ((cn : Int) + 1)) (World.grownBy.refl _ _)
          have hld := hd_load (blk_range (Blk.drew zb)) HOKH.out.root
          have hwr : IntKind.i64.wrap ((cn : Int) + 1) = (cn : Int) + 1 := IntWalk.i64_in _ (by omega)
          have hS8 : Only (fun j => j = bO) Z w8 := ((Only.refl (fun j => j = bO) Z).drew.grown hg7 (fun j e => by cases e; exact .inl rfl)).grown hg8 (fun j e => by cases e; exact .inl rfl)
          have hrGO : rI ≠ bO ∧ bI ≠ bO ∧ bG ≠ bO := ⟨hrIO, fun e => hbOI e.symm, fun e => hbOG e.symm⟩
          have hnew : BiS w w1 bO bG rO nG bI rI nI O L f left cnt' p f2 (fun x => left2 x && !eqv x (hdV h)) cnt3 w8 := by
            refine ⟨⟨n' + 1, hm8.congr (fun x => ?_), by have := HN'.out; omega⟩, zg.only hS8 hrGO.2.2 hrOb, zi.only hS8 hrGO.2.1 hrGO.1, zo.trans hS8, zw.trans' hS8 (fun i hi e => by subst e; omega)⟩
            rw [cntF_ext (fun g _ => cIn_step HV.out HLK2.out g) x, ← cntF_put HMEM.out x, ecn]
            rfl
          have HNEW := Lib.hid hnew
          clear hval hnew zm zg zi zo zw zb zmd hst7 hm8 hg8 hg7 hkl ecn hS8
          go_region
          all_goals
            go_wp2_with fail
            go_roundw
            case rel => exact ⟨_, _, HNEW.out⟩
            case measure => rw [HNEW.out.inn.left_eq, HMEAS2.out]; omega
end Go.Proofs.YtoehfainhmfghaaDoor
