/- What is proved here: several parts. a client is shown a receipt. Conditions: those of certified; the event is well and short. · a client as its results tell it, and what its calls do to it and leave as it is. Conditions: those of the calls. · plain facts of the client laws' check: its persons, its votes, what they certify, roots that differ. No conditions. · right paths and right growths are accepted. Condition: there are few leaves. · what the client laws share: their persons and votes are well, worlds are read, three heads are put down. Conditions: the world's numbers are bytes. -/
import Derived.Test.YtgalfohobgjelaaGreatDoorRc17
import Derived.Test.YtgalfohobgjelaaGreatDoorRc19
import Derived.Test.YtgalfohobgjelaaGreatDoorRc23
import Derived.Test.YtgalfohobgjelaaGreatDoorRc24
import Derived.Test.YtgalfohobgjelaaGreatDoorRc28
import Derived.Test.YtgalfohobgjelaaGreatDoorRc30
import Derived.BigQuiet
namespace Go.Proofs.YtgalfohobgjelaaGreatDoor
open Go.RowKit Go.Shelf
attribute [local go_sem ↓ high] suLoad_eq evLoad_eq hdLoad_eq hdNew_eq hdStore_eq
theorem evCode_short {e : Ev} (he : e.Ok) (hn : e.name.size ≤ 1000000000) (hx : e.text.size ≤ 1000000000) : (evCode e).length ≤ 17592186044416 := by
  have l1 := numsL_len e.nums he.nums_in
  have l2 := hexL_len e.prev
  have l3 := quoL_len e.name.data.toList (by rw [← size_list]; omega)
  have l4 := quoL_len e.text.data.toList (by rw [← size_list]; omega)
  have l0 := numsL_len [e.r, e.s] (by
    intro x hx
    simp only [List.mem_cons, List.not_mem_nil, or_false] at hx
    rcases hx with rfl | rfl
    · exact he.r
    · exact he.s)
  rw [← size_list] at l3 l4
  rw [he.prev] at l2
  have l5 : e.nums.length = 10 := rfl
  simp only [List.length_cons, List.length_nil] at l0
  unfold evCode evText
  simp only [List.length_append, List.length_cons, List.length_nil]
  omega
theorem tx_beq {a b : ByteArray} (h : a = b) : (a == b) = true := by
  subst h
  cases a with
  | mk d => show (d == d) = true; simp
theorem tx_bne {a b : ByteArray} (h : ¬ a = b) : (a == b) = false := by
  cases a with
  | mk d =>
    cases b with
    | mk f =>
      show (d == f) = false
      rw [beq_eq_false_iff_ne]
      intro e
      exact h (by rw [e])
/-- What is said ahead of the votes. -/
noncomputable def rcPre (P : List Pers) (id : Int) (sent : Bool) (text : ByteArray) (e : Ev) : Int :=
  if sent = false then 34 else if verL P e ≠ 0 then verL P e else if e.who ≠ id then 35 else if e.kind ≠ 4 then 35 else if e.text ≠ text then 20 else 0
/-- What is said behind them. -/
def rcPost (o : Option Hd) (e : Ev) (Q : List Hs) : Int :=
  match o with
  | none => 24
  | some h => if ckP h.root h.size.toNat e.seq (evCode e) Q = true then 0 else 41
/-- What lies there. -/
structure RcS (w : World) (base E : Nat) (c : Cli) (e : Ev) (W : World) : Prop where
  cli : CliAt W base c
  ev : Blk W E tEv (evC e).toArray
  only : Only NoneOf w W
theorem RcS.none_ {w : World} {base E : Nat} {c : Cli} {e : Ev} {W W' : World} (h : RcS w base E c e W) (ho : Only NoneOf W W') : RcS w base E c e W' := ⟨h.cli.nn ho, h.ev.only ho (fun h => h.elim), h.only.trans ho⟩
theorem RcS.ld {w : World} {base E : Nat} {c : Cli} {e : Ev} {W : World} (h : RcS w base E c e W) (he : e.prev.length = 32) : (evLoad (.pointer (some ⟨E, 0, none⟩))).run Tryz.prog W = .ok (.agg (evC e).toArray) W :=
  ev_load_at (fun j v hj => by rw [Nat.zero_add, h.ev.cell]; simpa using hj) he
theorem RcS.su {w : World} {base E : Nat} {c : Cli} {e : Ev} {W : World} (h : RcS w base E c e W) : (suLoad (.pointer (some ⟨c.C, 1, none⟩))).run Tryz.prog W = .ok (setV c.pv) W := su_load (cli_setup h.cli.blk)
/-- What lies there behind the votes. -/
structure RcT (w : World) (base E N : Nat) (c c9 : Cli) (n : Hd) (e : Ev) (W : World) : Prop where
  cli : CliAt W base c9
  step : CliStep w W c c9
  hd : HdAt W N n
  ev : Blk W E tEv (evC e).toArray
  only : Only NoneOf w W ∨ True
theorem RcT.none_ {w : World} {base E N : Nat} {c c9 : Cli} {n : Hd} {e : Ev} {W W' : World} (h : RcT w base E N c c9 n e W) (ho : Only NoneOf W W') : RcT w base E N c c9 n e W' :=
  ⟨h.cli.nn ho, h.step.trans (CliStep.nn ho), Blk.only h.hd ho (fun e => e), h.ev.only ho (fun h => h.elim), .inr trivial⟩
set_option maxRecDepth 100000 in
set_option maxHeartbeats 4000000 in
theorem receipt_any (w0 : World) (ht : Tab w0) (c : Cli) (base : Nat) (hb0 : w0.heap.size ≤ base) (hcs : c.seen = c.votes) (hP : PersOk c.P) (hpub : ∀ p ∈ c.P, In p.pub) (hlen : c.P.length ≤ 1000) (L : List Vt) (hok : VtsOk L) (hsv : SmallV L) (hL : L.length ≤ 1000) (hn : c.votes.length ≤ 50000) (sv : Value) (e : Ev) (he : e.Ok) (hen : e.name.size ≤ 1000000000) (het : e.text.size ≤ 1000000000) (Q : List Hs) (hqok : HsOk Q) (qv : Value) (w : World) (how : Only NoneOf w0 w) (h : CliAt w base c) (hb : base ≤ w.heap.size) (hs : VtSl w sv L) (ha : ApartC c sv) (hq : HaSl w qv Q) (hqa : ApartC c qv) :
    Calls Tryz.prog 30 #[.pointer (some ⟨c.C, 0, none⟩), .agg (evC e).toArray, qv, sv] w fun e' w' => (rcPre c.P c.id c.sent c.text e ≠ 0 ∧ e' = .returned (.int .i64 (rcPre c.P c.id c.sent c.text e)) ∧ CliAt w' base c ∧ CliStep w w' c c) ∨ (rcPre c.P c.id c.sent c.text e = 0 ∧ ∃ o, BestL c.P L o ∧ e' = .returned (.int .i64 (rcPost o e Q)) ∧ ∃ vv mv, CliAt w' base { c.took vv mv L with rc := c.rc || decide (rcPost o e Q = 0) } ∧ CliStep w w' c { c.took vv mv L with rc := c.rc || decide (rcPost o e Q = 0) }) := by
  obtain ⟨E, eE⟩ : ∃ E, E = w.heap.size := ⟨_, rfl⟩
  have h0 : RcS w base E c e (w.alloc (.cells (evC e).toArray tEv)) := ⟨h.nn ((Only.refl _ _).alloc _), by rw [eE]; exact Blk.new w _ _, (Only.refl _ _).alloc _⟩
  have H0 := Lib.hid h0
  have EE := Lib.hid eE
  have H := Lib.hid h
  have HE := Lib.hid he
  have HVE : Hid (∀ W, RcS w base E c e W → Calls Tryz.prog 61 #[setV c.pv, .agg (evC e).toArray] W fun e' w' => e' = .returned (.int .i64 (verL c.P e)) ∧ Only NoneOf W w') := Lib.hid (fun W hW => everify_any c.P c.pv _ _ _ _ _ e he (by omega) (by omega) W (PerOwn.sl hW.cli.pers) hpub (ht.none (how.trans hW.only)))
  have HTAB : Hid (Tab w0) := Lib.hid ht
  have HHOW : Hid (Only NoneOf w0 w) := Lib.hid how
  have HCE : Hid (∀ W, RcS w base E c e W → Calls Tryz.prog 46 #[.pointer (some ⟨c.C, 0, none⟩), sv] W fun e w' => ∃ o, BestOn (fun h => h ∈ L.map (·.head)) (fun h => certB c.P h L) o ∧ e = .returned (.tuple #[.agg (hdC (hdOr o)).toArray, .bool o.isSome]) ∧ ∃ vv mv, CliAt w' base (c.took vv mv L) ∧ CliStep W w' c (c.took vv mv L)) := Lib.hid (fun W hW => certified_any w0 ht c base hb0 hcs hP hlen L hok hL hn sv W (how.trans hW.only) hW.cli (Nat.le_trans hb hW.only.size) (hs.step hW.only (fun _ _ _ _ e => e)) ha)
  obtain ⟨qA, qcap, rfl, hq1, hq2, hq3⟩ := id hq
  have HQ := Lib.hid (And.intro hq hqa)
  have HVS := Lib.hid (And.intro hs ha)
  have HOK := Lib.hid hok
  have HSV := Lib.hid hsv
  have HQOK := Lib.hid hqok
  have hEw : w.heap.size ≤ E := by omega
  clear h0 eE h he hq hqa hs ha hok hsv hqok ht how hpub hq1 hq2 hq3
  obtain ⟨pre, epre⟩ : ∃ v, v = rcPre c.P c.id c.sent c.text e := ⟨_, rfl⟩
  rw [← epre]
  unfold rcPre at epre
  have HPRE := Lib.hid epre
  clear epre
  go_enter Tryz.func30, Tryz.ntmps30
  go_upto_region 1 with (fail)
  rw [← EE.out]
  refine wp_gen (RcS w base E c e) H0.out ?_
  intro Y hY
  have c7 := cli_sent hY.cli.blk
  have HY := Lib.hid hY
  clear hY H0 EE
  have HOUT : Hid (∀ (W : World) (v : Int), RcS w base E c e W → pre = v → v ≠ 0 → pre ≠ 0 ∧ Ending.returned (.int .i64 v) = Ending.returned (.int .i64 pre) ∧ CliAt W base c ∧ CliStep w W c c) := Lib.hid (fun W v hW h1 h2 => by subst h1; exact ⟨h2, rfl, hW.cli, CliStep.nn hW.only⟩)
  obtain ⟨sb, esb⟩ : ∃ sb, sb = c.sent := ⟨_, rfl⟩
  rw [← esb] at HPRE c7
  have ESB := Lib.hid esb
  clear esb
  cases sb with
  | false =>
    have hp : pre = 34 := by rw [HPRE.out, if_pos rfl]
    have HP := Lib.hid hp
    clear hp
    go_wp2_with fail
    go_ret
    exact .inl (HOUT.out _ _ HY.out HP.out (by decide))
  | true =>
    have hp : pre = if verL c.P e ≠ 0 then verL c.P e else if e.who ≠ c.id then 35 else if e.kind ≠ 4 then 35 else if e.text ≠ c.text then 20 else 0 := by rw [HPRE.out, if_neg (by decide)]
    have HP := Lib.hid hp
    clear hp
    go_upto_region 5 with (fail)
    have l1 := (HY.out.none_ ((Only.refl NoneOf Y).drew)).su
    have l2 := (HY.out.none_ ((Only.refl NoneOf Y).drew)).ld HE.out.prev
    go_region_law (first
      | (go_simp; go_at_call 61; refine (HVE.out _ (HY.out.none_ ((Only.refl NoneOf Y).drew))).mono ?_; rintro e1 w1 ⟨rfl, ho1⟩))
    all_goals
      have hY1 := (HY.out.none_ ((Only.refl NoneOf Y).drew)).none_ ho1
      obtain ⟨vr, evr⟩ : ∃ v, v = verL c.P e := ⟨_, rfl⟩
      rw [← evr] at HP ⊢
      have HY1 := Lib.hid hY1
      clear hY1 ho1 l1 l2 c7 evr HVE HY
      by_cases hv : vr = 0
      · subst hv
        have hp1 : pre = if e.who ≠ c.id then 35 else if e.kind ≠ 4 then 35 else if e.text ≠ c.text then 20 else 0 := by rw [HP.out, if_neg (by decide)]
        have HP1 := Lib.hid hp1
        clear hp1 HP
        have k0 := cli_id HY1.out.cli.blk
        have k8 := cli_text HY1.out.cli.blk
        have e1 := HY1.out.ev.cell 1
        have e2 := HY1.out.ev.cell 2
        have e9 := HY1.out.ev.cell 9
        simp only [evC, List.cons_append, List.getElem?_toArray, List.getElem?_cons_zero, List.getElem?_cons_succ] at e1 e2 e9
        obtain ⟨ew, eew⟩ : ∃ x, x = e.who := ⟨_, rfl⟩
        obtain ⟨ek, eek⟩ : ∃ x, x = e.kind := ⟨_, rfl⟩
        obtain ⟨et, eet⟩ : ∃ x, x = e.text := ⟨_, rfl⟩
        obtain ⟨ci, eci⟩ : ∃ x, x = c.id := ⟨_, rfl⟩
        obtain ⟨ct, ect⟩ : ∃ x, x = c.text := ⟨_, rfl⟩
        rw [← eew, ← eek, ← eet, ← eci, ← ect] at HP1
        rw [← eew] at e2
        rw [← eek] at e1
        rw [← eet] at e9
        rw [← eci] at k0
        rw [← ect] at k8
        clear eew eek eet eci ect
        by_cases hw : ew = ci
        · have b1 : (ew == ci) = true := by simpa using hw
          have b1n : (ew != ci) = false := by simp [bne, b1]
          have hp2 : pre = if ek ≠ 4 then 35 else if et ≠ ct then 20 else 0 := by rw [HP1.out, if_neg (by simpa using hw)]
          have HP2 := Lib.hid hp2
          clear hp2 HP1 hw
          by_cases hk : ek = 4
          · subst hk
            have hp3 : pre = if et ≠ ct then 20 else 0 := by rw [HP2.out, if_neg (by decide)]
            have HP3 := Lib.hid hp3
            clear hp3 HP2
            go_upto_region 8 with (fail)
            go_quiet (fail)
            go_upto_region 10 with (fail)
            refine wp_gen (fun W => RcS w base E c e W ∧ W.cell? ⟨E, 9, none⟩ = some (.string et) ∧ W.cell? ⟨c.C, 8, none⟩ = some (.string ct)) ⟨HY1.out.none_ ((Only.refl _ _).drewN _), e9, k8⟩ ?_
            clear e1 e2 k0
            rintro Z ⟨hZ, e9, k8⟩
            have HZ := Lib.hid hZ
            clear hZ HY1
            by_cases htx : et = ct
            · have b3 : (et.toList == ct.toList) = true := by rw [← beq_toListBytes]; exact tx_beq htx
              have hp4 : pre = 0 := by rw [HP3.out, if_neg (by simpa using htx)]
              have HP4 := Lib.hid hp4
              clear hp4 HP3 htx
              go_quiet (fail)
              go_upto_region 12 with (fail)
              refine wp_gen (RcS w base E c e) (HZ.out.none_ ((Only.refl _ _).drewN _)) ?_
              intro Z2 hZ2
              have hce := HCE.out Z2 hZ2
              have hoff : ¬ c.foot E := hZ2.cli.off hZ2.ev (by decide) (by decide) (by decide)
              have HZ2 := Lib.hid hZ2
              have HCE2 := Lib.hid hce
              clear hZ2 hce HZ HCE e9 k8 b3
              go_wp2_with fail
              refine HCE2.out.mono ?_
              rintro e5 w5 ⟨o, hbo, rfl, vv, mv, hc5, hs5⟩
              have hho := best_ok HOK.out hbo
              have hhs := best_small HSV.out hbo
              have hev5 : Blk w5 E tEv (evC e).toArray := HZ2.out.ev.only hs5.1 hoff
              have hs5w : CliStep w w5 c (c.took vv mv L) := (CliStep.nn (c := c) HZ2.out.only).trans hs5
              obtain ⟨n, en⟩ : ∃ n, n = hdOr o := ⟨_, rfl⟩
              rw [← en] at hho hhs ⊢
              have hnl := hho.root
              obtain ⟨c9, ec9⟩ : ∃ c9 : Cli, c9 = c.took vv mv L := ⟨_, rfl⟩
              rw [← ec9] at hc5 hs5w
              have hst := hd_store_nw w5 hnl
              have hnw := hdNew_run
              have ho6 : Only NoneOf w5 ((w5.alloc (.cells hd0C 37)).setCells w5.heap.size 0 (hdC n)) := only_setCells ((Only.refl _ _).alloc _) w5.heap.size 0 (.inr (Nat.le_refl _)) _
              have ha6 : HdAt ((w5.alloc (.cells hd0C 37)).setCells w5.heap.size 0 (hdC n)) w5.heap.size n := filled_whole (Blk.new w5 _ _) (by rw [hdC_len hnl]; rfl)
              obtain ⟨N, eN⟩ : ∃ N, N = w5.heap.size := ⟨_, rfl⟩
              rw [← eN] at ho6 ha6
              have H6 : Hid (RcT w base E N c c9 n e ((w5.alloc (.cells hd0C 37)).setCells N 0 (hdC n))) := Lib.hid ⟨hc5.nn ho6, hs5w.trans (CliStep.nn ho6), ha6, hev5.only ho6 (fun h => h.elim), .inr trivial⟩
              have EN := Lib.hid eN
              have EC9 := Lib.hid ec9
              have EHN := Lib.hid en
              have HBO : Hid (BestL c.P L o) := Lib.hid hbo
              have HHO := Lib.hid hho
              have HHS := Lib.hid hhs
              clear ho6 ha6 eN ec9 en hbo hho hhs hc5 hs5 hs5w hev5 HCE2 HZ2
              go_upto_region 13 with (fail)
              rw [← EN.out]
              refine wp_gen (RcT w base E N c c9 n e) H6.out ?_
              clear H6 EN hst hnw
              intro V hV
              have HV := Lib.hid hV
              clear hV
              have HFIN : Hid (∀ W, RcT w base E N c c9 n e W → rcPost o e Q ≠ 0 → CliAt W base { c.took vv mv L with rc := c.rc || decide (rcPost o e Q = 0) } ∧ CliStep w W c { c.took vv mv L with rc := c.rc || decide (rcPost o e Q = 0) }) := Lib.hid (fun W hW hr => by
                have e0 : ({ c.took vv mv L with rc := c.rc || decide (rcPost o e Q = 0) } : Cli) = c9 := by rw [decide_eq_false hr, Bool.or_false, EC9.out]; rfl
                rw [e0]
                exact ⟨hW.cli, hW.step⟩)
              cases o with
              | none =>
                go_wp2_with fail
                go_ret
                exact .inr ⟨HP4.out, none, HBO.out, rfl, vv, mv, HFIN.out _ HV.out (by show (24 : Int) ≠ 0; decide)⟩
              | some m =>
                have hm : n = m := EHN.out
                obtain ⟨s1, es1, hs1⟩ := HHS.out
                have hpo : rcPost (some m) e Q = if ckP n.root s1 e.seq (evCode e) Q = true then 0 else 41 := by
                  rw [← hm]
                  unfold rcPost
                  simp only [es1, Int.toNat_natCast]
                have HPO := Lib.hid hpo
                obtain ⟨β, eβ⟩ : ∃ β, β = ckP n.root s1 e.seq (evCode e) Q := ⟨_, rfl⟩
                rw [← eβ] at HPO
                have HENC : Hid (∀ W, RcT w base E N c c9 n e W → Calls Tryz.prog 63 #[.agg (evC e).toArray] W (RetStr (evCode e) W)) := Lib.hid (fun W hW => eencode_any e HE.out (by omega) (by omega) W (HTAB.out.none (hW.step.only H.out HHOW.out hb0)))
                have HCK : Hid (∀ (t : ByteArray) W, t.data.toList = evCode e → RcT w base E N c c9 n e W → Calls Tryz.prog 62 #[.agg (hdC n).toArray, .int .i64 e.seq, .string t, .slice qA Q.length qcap] W fun e' w' => e' = .returned (.bool β) ∧ Only NoneOf W w') := Lib.hid (fun t W ht hW => by
                  have h1 := checkpath_any n s1 es1 hs1 HHO.out.root e.seq t (by rw [size_list, ht]; exact evCode_short HE.out (by omega) (by omega)) Q HQOK.out (.slice qA Q.length qcap) W (HQ.out.1.step hW.step.1 (fun a n cap e => HQ.out.2 a n cap e))
                  rw [ht, ← eβ] at h1
                  exact h1)
                clear hm hpo eβ es1
                go_upto_region 15 with (fail)
                have l1 := hd_load (blk_range (HV.out.none_ ((Only.refl NoneOf V).drew)).hd) HHO.out.root
                have l2 := ev_load_at (W := V.drew) (g := E) (o := 0) (e := e) (fun j v hj => by rw [Nat.zero_add, (HV.out.none_ ((Only.refl NoneOf V).drew)).ev.cell]; simpa using hj) HE.out.prev
                have e0 := HV.out.ev.cell 0
                simp only [evC, List.cons_append, List.getElem?_toArray, List.getElem?_cons_zero, List.getElem?_cons_succ] at e0
                go_region_law (first
                  | (go_simp; go_at_call 63; refine (HENC.out _ (HV.out.none_ ((Only.refl NoneOf V).drew))).mono ?_; rintro e7 w7 ⟨t7, rfl, ht7, ho7⟩; have hT7 := (HV.out.none_ ((Only.refl NoneOf V).drew)).none_ ho7; have m1 := hd_load (blk_range hT7.hd) HHO.out.root; have m0 : w7.cell? ⟨E, 0, none⟩ = some (.int .i64 e.seq) := hT7.ev.cell 0)
                  | (go_simp; go_at_call 62; refine (HCK.out _ _ ht7 hT7).mono ?_; rintro e8 w8 ⟨rfl, ho8⟩))
                all_goals
                  have hT8 := hT7.none_ ho8
                  have HT8 := Lib.hid hT8
                  clear hT8 hT7 m1 m0 ho8 ho7 ht7 l1 l2 e0 HENC HCK HV
                  cases β with
                  | true =>
                    have hz : rcPost (some m) e Q = 0 := by rw [HPO.out]; rfl
                    have hC9 : c9.C = c.C := by rw [EC9.out]; rfl
                    have hT := HT8.out
                    have b3 := cli_put_rc hT.cli.blk hT.cli.hok.root true
                    have s3 := cli_rc hT.cli.blk hT.cli.hok.root
                    have f3 := hT.cli.blk.frozen 44
                    have hon : Only (fun k => k = c9.C) w8 (w8.setCell ⟨c9.C, 44, none⟩ (.bool true)) := (Only.refl (fun k => k = c9.C) w8).setCell (p := ⟨c9.C, 44, none⟩) (.inl rfl) _
                    have hfin := hT.cli.recell (c' := { c9 with rc := true }) hon b3 rfl rfl rfl rfl rfl rfl rfl rfl
                    have hst := hT.step.trans (recell_step (c' := { c9 with rc := true }) hon rfl rfl rfl rfl)
                    have ee : ({ c.took vv mv L with rc := c.rc || decide (rcPost (some m) e Q = 0) } : Cli) = { c9 with rc := true } := by rw [decide_eq_true hz, Bool.or_true, EC9.out]
                    rw [← ee] at hfin hst
                    rw [hC9] at s3 f3 hfin hst
                    have HF := Lib.hid (And.intro hfin hst)
                    have HZ9 := Lib.hid hz
                    clear hfin hst ee b3 hon hT hC9 hz
                    go_wp2_with fail
                    go_ret
                    exact .inr ⟨HP4.out, some m, HBO.out, ret_int HZ9.out.symm, vv, mv, HF.out⟩
                  | false =>
                    have hz : rcPost (some m) e Q = 41 := by rw [HPO.out]; rfl
                    have HZ9 := Lib.hid hz
                    clear hz
                    go_wp2_with fail
                    go_ret
                    exact .inr ⟨HP4.out, some m, HBO.out, ret_int HZ9.out.symm, vv, mv, HFIN.out _ HT8.out (by rw [HZ9.out]; decide)⟩
            · have b3 : (et.toList == ct.toList) = false := by rw [← beq_toListBytes]; exact tx_bne htx
              have hp4 : pre = 20 := by rw [HP3.out, if_pos htx]
              have HP4 := Lib.hid hp4
              clear hp4 HP3 htx
              go_quiet (fail)
              go_wp2_with fail
              go_ret
              exact .inl (HOUT.out _ _ (HZ.out.none_ ((Only.refl _ _).drewN _)) HP4.out (by decide))
          · have b2 : (ek == 4) = false := by simpa using hk
            have b2n : (ek != 4) = true := by simp [bne, b2]
            have hp3 : pre = 35 := by rw [HP2.out, if_pos hk]
            have HP3 := Lib.hid hp3
            clear hp3 HP2 hk
            go_upto_region 8 with (fail)
            go_quiet (fail)
            go_wp2_with fail
            go_ret
            exact .inl (HOUT.out _ _ (HY1.out.none_ ((Only.refl _ _).drewN _)) HP3.out (by decide))
        · have b1 : (ew == ci) = false := by simpa using hw
          have b1n : (ew != ci) = true := by simp [bne, b1]
          have hp2 : pre = 35 := by rw [HP1.out, if_pos hw]
          have HP2 := Lib.hid hp2
          clear hp2 HP1 hw
          go_upto_region 8 with (fail)
          go_quiet (fail)
          go_wp2_with fail
          go_ret
          exact .inl (HOUT.out _ _ (HY1.out.none_ ((Only.refl _ _).drewN _)) HP2.out (by decide))
      · have hp1 : pre = vr := by rw [HP.out, if_pos hv]
        have HP1 := Lib.hid hp1
        have HV := Lib.hid hv
        have b0 : (vr == 0) = false := by simpa using hv
        clear hp1 HP hv
        go_wp2_with fail
        go_ret
        exact .inl (HOUT.out _ _ HY1.out HP1.out HV.out)
end Go.Proofs.YtgalfohobgjelaaGreatDoor
namespace Go.Proofs.YtgalfohobgjelaaGreatDoor
open Go.RowKit Go.Shelf
/-- A client as its results tell it. -/
structure Vw where
  id : Int
  P : List Pers
  sent : Bool
  text : ByteArray
  head : Hd
  votes : List Vt
  rc : Bool
def Cli.vw (c : Cli) : Vw := ⟨c.id, c.P, c.sent, c.text, c.head, c.votes, c.rc⟩
/-- The client at C is so; what belongs to it lies between base and top. -/
def Has (w0 : World) (base C top : Nat) (s : Vw) (W : World) : Prop :=
  ∃ c : Cli, c.C = C ∧ c.vw = s ∧ CliAt W base c ∧ c.seen = c.votes ∧ base ≤ W.heap.size ∧ top ≤ W.heap.size ∧ Only NoneOf w0 W ∧ w0.heap.size ≤ base ∧ ∀ k, c.foot k → k < top
/-- What a client's call leaves as it is. -/
def Near (base : Nat) (W W' : World) : Prop :=
  ∃ S : Nat → Prop, Only S W W' ∧ (∀ k, S k → base ≤ k) ∧ ∀ g t cs, Blk W g t cs → tCli ≠ t → 67 ≠ t → 43 ≠ t → ¬ S g
theorem Near.blk {base : Nat} {W W' : World} (h : Near base W W') {g : Nat} {t : TypeId} {cs : Array Value} (hb : Blk W g t cs) (h1 : tCli ≠ t) (h2 : 67 ≠ t) (h3 : 43 ≠ t) : Blk W' g t cs := by
  obtain ⟨S, ho, _, hS⟩ := h
  exact hb.only ho (hS g t cs hb h1 h2 h3)
theorem Near.own {base b : Nat} {W W' : World} (h : Near base W W') {e : TypeId} {size n : Nat} {v : Value} {xs : List Value} (hb : W.ownsRow b e size v n xs) (h1 : tCli ≠ e) (h2 : 67 ≠ e) (h3 : 43 ≠ e) : W'.ownsRow b e size v n xs := by
  obtain ⟨S, ho, _, hS⟩ := h
  refine own_only hb ho (fun k hk => ?_)
  rcases hb.2 with ⟨rfl, _⟩ | ⟨g, cap, cur, rfl, _, hh, _⟩
  · simp [Value.ownBlock] at hk
  · have : g = k := by simpa [Value.ownBlock] using hk
    subst this
    exact hS g e cur hh h1 h2 h3
theorem Near.only {base : Nat} {w0 W W' : World} (h : Near base W W') (h0 : Only NoneOf w0 W) (hb : w0.heap.size ≤ base) : Only NoneOf w0 W' := by
  obtain ⟨S, ho, h1, _⟩ := h
  exact h0.trans' ho (fun i hi hf => by have := h1 i hf; omega)
theorem CliStep.near {W W' : World} {base : Nat} {c c' : Cli} (h : CliStep W W' c c') (hc : CliAt W base c) : Near base W W' :=
  ⟨c.foot, h.1, fun _ hk => (hc.foot_in hk).1, fun _ _ _ hb h1 h2 h3 => hc.off hb h1 h2 h3⟩
theorem Has.size {w0 W : World} {base C top : Nat} {s : Vw} (h : Has w0 base C top s W) : top ≤ W.heap.size := by
  obtain ⟨c, _, _, _, _, _, h1, _⟩ := h
  exact h1
theorem Has.only {w0 W : World} {base C top : Nat} {s : Vw} (h : Has w0 base C top s W) : Only NoneOf w0 W := by
  obtain ⟨c, _, _, _, _, _, _, h1, _⟩ := h
  exact h1
theorem Has.keep {w0 W W' : World} {base C top : Nat} {s : Vw} (h : Has w0 base C top s W) (ho : Only NoneOf W W') : Has w0 base C top s W' := by
  obtain ⟨c, h1, h2, h3, h4, h5, h6, h7, h8, h9⟩ := h
  exact ⟨c, h1, h2, h3.nn ho, h4, Nat.le_trans h5 ho.size, Nat.le_trans h6 ho.size, h7.trans ho, h8, h9⟩
theorem Has.of {w0 W W' : World} {base C : Nat} {c c' : Cli} (hC : c'.C = C) (h0 : Only NoneOf w0 W) (hb : w0.heap.size ≤ base) (hbw : base ≤ W.heap.size) (hc : CliAt W base c) (hs : CliStep W W' c c') (hc' : CliAt W' base c') (hv : c'.seen = c'.votes) : Has w0 base C W'.heap.size c'.vw W' :=
  ⟨c', hC, rfl, hc', hv, Nat.le_trans hbw hs.1.size, Nat.le_refl _, (hs.near hc).only h0 hb, hb, fun _ hk => (hc'.foot_in hk).2⟩
/-- A slice that does not lie in what belongs to a client. -/
def Off (base : Nat) (W : World) (v : Value) : Prop := ∀ c, CliAt W base c → ApartC c v
theorem off_nil (base : Nat) (W : World) : Off base W (.slice none 0 0) := fun c _ a n cap h => by cases h
theorem off_own {base b : Nat} {W : World} {e : TypeId} {size n : Nat} {v : Value} {xs : List Value} (hb : W.ownsRow b e size v n xs) (h1 : tCli ≠ e) (h2 : 67 ≠ e) (h3 : 43 ≠ e) : Off base W v := fun c hc a m cap hv hk => by
  rcases hb.2 with ⟨rfl, _⟩ | ⟨g, cap', cur, rfl, _, hh, _⟩
  · cases hv
  · cases hv
    exact hc.off hh h1 h2 h3 hk
theorem off_low {base : Nat} {W : World} {v : Value} (h : ∀ a n cap, v = .slice (some a) n cap → a.block < base) : Off base W v := fun c hc a m cap hv hk => by
  have h1 := h a m cap hv
  have h2 := (hc.foot_in hk).1
  omega
theorem apart_top {b n : Nat} {W : World} {c : Cli} {top : Nat} {sv : Value} {xs : List Value} (hown : W.ownsRow b 43 36 sv n xs) (hb : top ≤ b) (ht : ∀ k, c.foot k → k < top) : ApartC c sv := fun a m cap hv hk => by
  rcases hown.2 with ⟨rfl, _⟩ | ⟨g, cap', cur, rfl, hg, hh, _⟩
  · cases hv
  · cases hv
    have := ht g hk
    omega
/-- A slice of votes that does not lie in what belongs to a client. -/
def OffV (base top : Nat) (W : World) (v : Value) : Prop := ∀ c, CliAt W base c → (∀ k, c.foot k → k < top) → ApartC c v
/-- A slice that lies below. -/
def LowS (base : Nat) (v : Value) : Prop := ∀ a n cap, v = .slice (some a) n cap → a.block < base
theorem LowS.off {base : Nat} {W : World} {v : Value} (h : LowS base v) : Off base W v := off_low h
theorem LowS.offV {base top : Nat} {W : World} {v : Value} (h : LowS base v) : OffV base top W v := fun c hc _ => off_low h c hc
theorem offV_top {b n : Nat} {W : World} {base top : Nat} {sv : Value} {xs : List Value} (hown : W.ownsRow b 43 36 sv n xs) (hb : top ≤ b) : OffV base top W sv := fun _ _ ht => apart_top hown hb ht
theorem low_own {W : World} {b base : Nat} {e : TypeId} {size n : Nat} {v : Value} {xs : List Value} (h : W.ownsRow b e size v n xs) (hb : W.heap.size ≤ base) : LowS base v := fun a m cap hv => by
  rcases h.2 with ⟨rfl, _⟩ | ⟨g, cap', cur, rfl, _, hh, _⟩
  · cases hv
  · cases hv
    exact Nat.lt_of_lt_of_le (Blk.lt (t := e) hh) hb
theorem Near.vts {base : Nat} {W W' : World} (h : Near base W W') {v : Value} {L : List Vt} (hs : VtSl W v L) (hl : LowS base v) : VtSl W' v L := by
  obtain ⟨S, ho, h0, _⟩ := h
  exact hs.step ho (fun a n cap e hk => by have := hl a n cap e; have := h0 _ hk; omega)
theorem Near.has {base : Nat} {W W' : World} (h : Near base W W') {v : Value} {L : List Hs} (hs : HaSl W v L) (hl : LowS base v) : HaSl W' v L := by
  obtain ⟨S, ho, h0, _⟩ := h
  exact hs.step ho (fun a n cap e hk => by have := hl a n cap e; have := h0 _ hk; omega)
theorem has_new (w0 : World) (id : Int) (P : List Pers) (hlen : P.length ≤ 1000) (pv : Value) (w : World) (h0 : Only NoneOf w0 w) (hp : PerSl w pv P) :
    Calls Tryz.prog 17 #[.int .i64 id, setV pv] w fun e w' => ∃ C, e = .returned (.pointer (some ⟨C, 0, none⟩)) ∧ Has w0 w.heap.size C w'.heap.size ⟨id, P, false, ⟨#[]⟩, hd0, [], false⟩ w' ∧ Only NoneOf w w' :=
  (new_any id P hlen pv w hp).mono (fun _ _ ⟨C, _, h1, h2, h3⟩ => ⟨C, h1, ⟨_, rfl, rfl, h2, rfl, h3.size, Nat.le_refl _, h0.trans h3, h0.size, fun _ hk => (h2.foot_in hk).2⟩, h3⟩)
theorem has_head (w0 : World) (ht : Tab w0) {base C top : Nat} {s : Vw} (hP : PersOk s.P) (hlen : s.P.length ≤ 1000) (hsm : SmallH s.head) (L : List Vt) (hok : VtsOk L) (hsv : SmallV L) (hL : L.length ≤ 1000) (hn : s.votes.length ≤ 50000) (sv : Value) (Q : List Hs) (hqok : HsOk Q) (hQ : Q.length ≤ 100000) (qv : Value) (w : World) (h : Has w0 base C top s w) (hs : VtSl w sv L) (hsa : OffV base top w sv) (hq : HaSl w qv Q) (hqa : Off base w qv) :
    Calls Tryz.prog 19 #[.pointer (some ⟨C, 0, none⟩), sv, qv] w fun e w' => ∃ o, BestL s.P L o ∧ e = .returned (.int .i64 (hdRes o (knownH s.head) Q)) ∧ Has w0 base C w'.heap.size { s with votes := takeV s.votes L, head := hdNext o (knownH s.head) Q s.head } w' ∧ Near base w w' := by
  obtain ⟨c, rfl, rfl, h3, h4, h5, h6, h7, h8, h9⟩ := h
  refine (head_any w0 ht c base h8 h4 hP hlen hsm L hok hsv hL hn sv Q hqok hQ qv w h7 h3 h5 hs (hsa c h3 h9) hq (hqa c h3)).mono ?_
  rintro e w' ⟨o, ho, he, vv, mv, hc, hst⟩
  exact ⟨o, ho, he, Has.of rfl h7 h8 h5 h3 hst hc rfl, hst.near h3⟩
theorem has_receipt (w0 : World) (ht : Tab w0) {base C top : Nat} {s : Vw} (hP : PersOk s.P) (hpub : ∀ p ∈ s.P, In p.pub) (hlen : s.P.length ≤ 1000) (L : List Vt) (hok : VtsOk L) (hsv : SmallV L) (hL : L.length ≤ 1000) (hn : s.votes.length ≤ 50000) (sv : Value) (e : Ev) (he : e.Ok) (hen : e.name.size ≤ 1000000000) (het : e.text.size ≤ 1000000000) (Q : List Hs) (hqok : HsOk Q) (qv : Value) (w : World) (h : Has w0 base C top s w) (hs : VtSl w sv L) (hsa : OffV base top w sv) (hq : HaSl w qv Q) (hqa : Off base w qv) :
    Calls Tryz.prog 30 #[.pointer (some ⟨C, 0, none⟩), .agg (evC e).toArray, qv, sv] w fun e' w' => ((rcPre s.P s.id s.sent s.text e ≠ 0 ∧ e' = .returned (.int .i64 (rcPre s.P s.id s.sent s.text e)) ∧ Has w0 base C w'.heap.size s w') ∨ (rcPre s.P s.id s.sent s.text e = 0 ∧ ∃ o, BestL s.P L o ∧ e' = .returned (.int .i64 (rcPost o e Q)) ∧ Has w0 base C w'.heap.size { s with votes := takeV s.votes L, rc := s.rc || decide (rcPost o e Q = 0) } w')) ∧ Near base w w' := by
  obtain ⟨c, rfl, rfl, h3, h4, h5, h6, h7, h8, h9⟩ := h
  refine (receipt_any w0 ht c base h8 h4 hP hpub hlen L hok hsv hL hn sv e he hen het Q hqok qv w h7 h3 h5 hs (hsa c h3 h9) hq (hqa c h3)).mono ?_
  rintro e' w' (⟨g1, g2, g3, g4⟩ | ⟨g1, o, g2, g3, vv, mv, hc, hst⟩)
  · exact ⟨.inl ⟨g1, g2, Has.of rfl h7 h8 h5 h3 g4 g3 h4⟩, g4.near h3⟩
  · exact ⟨.inr ⟨g1, o, g2, g3, Has.of rfl h7 h8 h5 h3 hst hc rfl⟩, hst.near h3⟩
theorem has_blames (w0 : World) (ht : Tab w0) {base C top : Nat} {s : Vw} (hP : PersOk s.P) (hlen : s.P.length ≤ 1000) (hn : s.votes.length ≤ 100000) (w : World) (h : Has w0 base C top s w) :
    Calls Tryz.prog 20 #[.pointer (some ⟨C, 0, none⟩)] w fun e w' => ∃ ov, e = .returned ov ∧ BlSl w' ov (blL s.P s.votes) ∧ Only NoneOf w w' := by
  obtain ⟨c, rfl, rfl, h3, h4, h5, h6, h7, h8, h9⟩ := h
  exact blames_any w0 ht c base hP hlen hn w h7 h3
theorem has_safe (w0 : World) (ht : Tab w0) {base C top : Nat} {s : Vw} (hP : PersOk s.P) (hlen : s.P.length ≤ 1000) (hn : s.votes.length ≤ 100000) (w : World) (h : Has w0 base C top s w) :
    Calls Tryz.prog 22 #[.pointer (some ⟨C, 0, none⟩)] w fun e w' => e = .returned (.bool (s.rc && (blL s.P s.votes).isEmpty)) ∧ Only NoneOf w w' := by
  obtain ⟨c, rfl, rfl, h3, h4, h5, h6, h7, h8, h9⟩ := h
  exact safe_any w0 ht c base hP hlen hn w h7 h3
theorem has_sent (w0 : World) (ht : Tab w0) (d : Bd) (hd : d.Ok) {qA pA : Option Addr} {qk pk : Nat} {w : World} (hq : IntSl w qA d.qc) (hp : IntSl w pA d.pc) {base C top : Nat} {s : Vw} (h : Has w0 base C top s w) :
    Calls Tryz.prog 32 #[.pointer (some ⟨C, 0, none⟩), .agg (bdCells d qA pA qk pk)] w fun e w' => e = .returned (.tuple #[]) ∧ Has w0 base C w'.heap.size { s with sent := true, text := encT d, rc := false } w' ∧ Near base w w' := by
  obtain ⟨c, rfl, rfl, h3, h4, h5, h6, h7, h8, h9⟩ := h
  refine (csent_any d hd hq hp (ht.none h7) base c h3).mono ?_
  rintro e w' ⟨g1, g2, g3⟩
  exact ⟨g1, Has.of rfl h7 h8 h5 h3 g3 g2 h4, g3.near h3⟩
end Go.Proofs.YtgalfohobgjelaaGreatDoor
namespace Go.Proofs.YtgalfohobgjelaaGreatDoor
/-- The check's world. -/
def wd3 : Wd := ⟨3, [], 0⟩
theorem wd3_ok : wd3.Ok := ⟨by decide, by decide⟩
theorem setW3 : setW wd3 = setB 4 ++ [bidder 60, bidder 61] := rfl
theorem offs_setW3 : offs (setW wd3) = [offAt 1, offAt 2, offAt 3, offAt 4] := by
  rw [setW3]
  simp [offs, offGo, setB, clerk, offAt, bidder, List.range_succ]
theorem voteW0 (h : Hd) (k : Nat) (hk : bitW 0 k = false) : voteW 0 h k = vAt h k := by
  unfold voteW vAt
  rw [hk]
  simp
theorem bit00 (k : Nat) : bitW 0 k = false := by unfold bitW; simp
theorem votes14 (h : Hd) : votesW wd3 h 14 0 = [vAt h 1, vAt h 2, vAt h 3] := by
  have h4 : wd3.n = 4 := rfl
  unfold votesW
  rw [h4]
  simp only [votesN]
  rw [show bitW 14 1 = true from by decide, show bitW 14 2 = true from by decide, show bitW 14 3 = true from by decide, show bitW 14 4 = false from by decide]
  simp [voteW0 _ _ (bit00 _)]
theorem votes28 (h : Hd) : votesW wd3 h 28 0 = [vAt h 2, vAt h 3, vAt h 4] := by
  have h4 : wd3.n = 4 := rfl
  unfold votesW
  rw [h4]
  simp only [votesN]
  rw [show bitW 28 1 = false from by decide, show bitW 28 2 = true from by decide, show bitW 28 3 = true from by decide, show bitW 28 4 = true from by decide]
  simp [voteW0 _ _ (bit00 _)]
theorem cert14 (h : Hd) : certB (setW wd3) h [vAt h 1, vAt h 2, vAt h 3] = true := by
  unfold certB votesFor
  rw [offs_setW3]
  have hd : ∀ j, eqHd (vAt h j).head h = true := fun j => eqHd_true.2 rfl
  simp [hd, cnts_at, need]
theorem cert28 (h : Hd) : certB (setW wd3) h [vAt h 2, vAt h 3, vAt h 4] = true := by
  unfold certB votesFor
  rw [offs_setW3]
  have hd : ∀ j, eqHd (vAt h j).head h = true := fun j => eqHd_true.2 rfl
  simp [hd, cnts_at, need]
theorem best_nil (P : List Pers) {o : Option Hd} (h : BestL P [] o) : o = none := by
  unfold BestL at h
  cases o with
  | none => rfl
  | some b => exact absurd h.1 (by simp)
theorem best_one {P : List Pers} {L : List Vt} {h : Hd} (hL : ∀ v ∈ L, v.head = h) (hne : L ≠ []) (hc : certB P h L = true) {o : Option Hd} (ho : BestL P L o) : o = some h := by
  have hd : ∀ x, x ∈ L.map (·.head) → x = h := fun x hx => by
    obtain ⟨v, hv, rfl⟩ := List.mem_map.1 hx
    exact hL v hv
  have hm : h ∈ L.map (·.head) := by
    cases L with
    | nil => exact absurd rfl hne
    | cons v l => exact List.mem_map.2 ⟨v, by simp, hL v (by simp)⟩
  cases o with
  | none =>
    have h9 : certB P h L = false := ho h hm
    rw [hc] at h9; cases h9
  | some b =>
    rw [hd b ho.1]
theorem best14 (h : Hd) {o : Option Hd} (ho : BestL (setW wd3) (votesW wd3 h 14 0) o) : o = some h := by
  rw [votes14] at ho
  exact best_one (fun v hv => by simp at hv; rcases hv with rfl | rfl | rfl <;> rfl) (by simp) (cert14 h) ho
theorem best28 (h : Hd) {o : Option Hd} (ho : BestL (setW wd3) (votesW wd3 h 28 0) o) : o = some h := by
  rw [votes28] at ho
  exact best_one (fun v hv => by simp at hv; rcases hv with rfl | rfl | rfl <;> rfl) (by simp) (cert28 h) ho
end Go.Proofs.YtgalfohobgjelaaGreatDoor
namespace Go.Proofs.YtgalfohobgjelaaGreatDoor
theorem ckL_zero (n : Nat) (r : Hs) : ckL 0 n (rootL []) r [] = true := by
  unfold ckL
  simp
theorem ckL_right (l : List (List UInt8)) (m : Nat) (hl : l.length ≤ 1000000) (h1 : 1 ≤ m) (h2 : m < l.length) : ckL m l.length (rootL (l.take m)) (rootL l) (growL l m) = true := by
  obtain ⟨g1, g2⟩ := grow_right l.length l m true (rootL (l.take m)) (Nat.le_refl _) hl h1 (by omega) (fun _ => rfl)
  have hg : growL l m = (growF l.length l m true).reverse := by unfold growL; rw [if_neg (by omega)]
  unfold ckL
  rw [if_neg (by omega)]
  unfold ckB
  rw [hg, List.length_reverse, if_pos g1, List.reverse_reverse, g2]
  simp
/-- The same from no leaves on. -/
theorem ckL_grow (l : List (List UInt8)) (m : Nat) (hl : l.length ≤ 1000000) (h2 : m < l.length) : ckL m l.length (rootL (l.take m)) (rootL l) (growL l m) = true := by
  by_cases h0 : m = 0
  · subst h0
    have hg : growL l 0 = [] := by unfold growL; rw [if_pos (.inl rfl)]
    rw [hg, List.take_zero]
    exact ckL_zero _ _
  · exact ckL_right l m hl (by omega) h2
theorem ckP_right (l : List (List UInt8)) (i : Nat) (x : List UInt8) (hl : l.length ≤ 1000000) (hx : l[i]? = some x) : ckP (rootL l) l.length (i : Int) x (pathF l.length l i).reverse = true := by
  have hi : i < l.length := (List.getElem?_eq_some_iff.1 hx).1
  obtain ⟨p1, p2⟩ := path_right l.length l i x (Nat.le_refl _) hl hx
  unfold ckP
  rw [if_neg (by omega), if_neg (by omega), List.length_reverse, Int.toNat_natCast, if_pos p1, List.reverse_reverse, p2]
  simp
end Go.Proofs.YtgalfohobgjelaaGreatDoor
namespace Go.Proofs.YtgalfohobgjelaaGreatDoor
open Go.RowKit Go.Shelf
theorem setW_mem {d : Wd} {p : Pers} (h : p ∈ setW d) : p ∈ setB d.n ∨ p = bidder 60 ∨ p = bidder 61 := by
  unfold setW at h
  rcases List.mem_append.1 h with h | h
  · exact .inl h
  · simp only [List.mem_cons, List.not_mem_nil, or_false] at h
    exact .inr h
theorem wdn_le (d : Wd) : d.n ≤ 7 := by unfold Wd.n; omega
theorem wdn_pos (d : Wd) : 1 ≤ d.n := by unfold Wd.n; omega
theorem setW_ok (d : Wd) : PersOk (setW d) := fun p hp => by
  rcases setW_mem hp with h | rfl | rfl
  · exact setB_ok d.n (by have := wdn_le d; omega) p h
  · exact ⟨⟨by decide, by decide⟩, ⟨by decide, by decide⟩, gp_in _⟩
  · exact ⟨⟨by decide, by decide⟩, ⟨by decide, by decide⟩, gp_in _⟩
theorem setW_pub (d : Wd) : ∀ p ∈ setW d, In p.pub := fun p hp => (setW_ok d p hp).pub
theorem setW_len (d : Wd) : (setW d).length ≤ 1000 := by
  unfold setW
  rw [List.length_append, setB_len]
  have := wdn_le d
  simp only [List.length_cons, List.length_nil]
  omega
theorem votesN_head (yes odd : Nat) (h : Hd) : ∀ n, ∀ v ∈ votesN yes odd h n, v.head = h
  | 0, v, hv => by simp [votesN] at hv
  | n + 1, v, hv => by
    simp only [votesN, List.mem_append] at hv
    rcases hv with hv | hv
    · exact votesN_head yes odd h n v hv
    · split at hv
      · simp only [List.mem_singleton] at hv
        subst hv
        rfl
      · simp at hv
theorem votesW_head {d : Wd} {h : Hd} {yes odd : Nat} {v : Vt} (hv : v ∈ votesW d h yes odd) : v.head = h := votesN_head _ _ _ _ v hv
theorem votesW_ok (d : Wd) {h : Hd} (ok : h.Ok) (yes odd : Nat) : VtsOk (votesW d h yes odd) := votesN_ok yes odd h ok d.n (by have := wdn_le d; omega)
theorem votesW_small (d : Wd) {h : Hd} (hs : SmallH h) (yes odd : Nat) : SmallV (votesW d h yes odd) := fun v hv => by rw [votesW_head hv]; exact hs
theorem hdOf_small {L : List ByteArray} (h : L.length ≤ 1000) : SmallH (hdOf L) := ⟨L.length, rfl, h⟩
theorem hd0_small : SmallH hd0 := ⟨0, rfl, by omega⟩
/-- Votes for one head certify it, or nothing. -/
theorem best_same {P : List Pers} {L : List Vt} {h : Hd} (hL : ∀ v ∈ L, v.head = h) {o : Option Hd} (ho : BestL P L o) : (o = none ∧ (L = [] ∨ certB P h L = false)) ∨ (o = some h ∧ certB P h L = true) := by
  have hd : ∀ x, x ∈ L.map (·.head) → x = h := fun x hx => by
    obtain ⟨v, hv, rfl⟩ := List.mem_map.1 hx
    exact hL v hv
  cases o with
  | none =>
    refine .inl ⟨rfl, ?_⟩
    cases L with
    | nil => exact .inl rfl
    | cons v l => exact .inr (ho h (List.mem_map.2 ⟨v, List.mem_cons_self .., hL v (List.mem_cons_self ..)⟩))
  | some b =>
    have e : b = h := hd b ho.1
    subst e
    exact .inr ⟨rfl, ho.2.1⟩
def wdLoad (v : Value) : Sem Value := Instr.loadAt 24 v
theorem wdLoad_eq (v : Value) : Instr.loadAt 24 v = wdLoad v := rfl
theorem wd_load {W : World} {g : Nat} {d : Wd} {kA : Option Addr} {kc : Nat} (h : Blk W g tWd (wdC d kA kc)) : (wdLoad (.pointer (some ⟨g, 0, none⟩))).run Tryz.prog W = .ok (.agg (wdC d kA kc)) W :=
  run_loadAt_mid W g 0 24 [.int .u8 (d.off : Int), .slice kA d.kinds.length kc, .int .u8 (d.fork : Int)] _ (blk_range h) Tryz.underlying24 rfl (by kernel_rfl)
/-- Three heads in three blocks. -/
theorem three_heads (W : World) {a b c : Hd} (la : a.root.length = 32) (lb : b.root.length = 32) (lc : c.root.length = 32) (N M K : Nat) (hN : N = W.heap.size) (hM : M = N + 1) (hK : K = M + 1) :
    ∃ W3, W3 = ((W.alloc (.cells hd0C tHd)).alloc (.cells hd0C tHd)).alloc (.cells hd0C tHd) ∧
      (hdStore (.pointer (some ⟨N, 0, none⟩)) (.agg (hdC a).toArray)).run Tryz.prog W3 = .ok () (W3.setCells N 0 (hdC a)) ∧
      (hdStore (.pointer (some ⟨M, 0, none⟩)) (.agg (hdC b).toArray)).run Tryz.prog (W3.setCells N 0 (hdC a)) = .ok () ((W3.setCells N 0 (hdC a)).setCells M 0 (hdC b)) ∧
      (hdStore (.pointer (some ⟨K, 0, none⟩)) (.agg (hdC c).toArray)).run Tryz.prog ((W3.setCells N 0 (hdC a)).setCells M 0 (hdC b)) = .ok () (((W3.setCells N 0 (hdC a)).setCells M 0 (hdC b)).setCells K 0 (hdC c)) ∧
      HdAt (((W3.setCells N 0 (hdC a)).setCells M 0 (hdC b)).setCells K 0 (hdC c)) N a ∧
      HdAt (((W3.setCells N 0 (hdC a)).setCells M 0 (hdC b)).setCells K 0 (hdC c)) M b ∧
      HdAt (((W3.setCells N 0 (hdC a)).setCells M 0 (hdC b)).setCells K 0 (hdC c)) K c ∧
      Only NoneOf W (((W3.setCells N 0 (hdC a)).setCells M 0 (hdC b)).setCells K 0 (hdC c)) := by
  obtain ⟨W3, e3⟩ : ∃ W3, W3 = ((W.alloc (.cells hd0C tHd)).alloc (.cells hd0C tHd)).alloc (.cells hd0C tHd) := ⟨_, rfl⟩
  have b1 : Blk W3 N tHd hd0C := by rw [e3, hN]; exact ((Blk.new W _ _).alloc _).alloc _
  have b2 : Blk W3 M tHd hd0C := by
    have h := (Blk.new (W.alloc (.cells hd0C tHd)) tHd hd0C).alloc (.cells hd0C tHd)
    rw [World.size_alloc] at h
    rw [e3, hM, hN]; exact h
  have b3 : Blk W3 K tHd hd0C := by
    have h := Blk.new ((W.alloc (.cells hd0C tHd)).alloc (.cells hd0C tHd)) tHd hd0C
    rw [World.size_alloc, World.size_alloc] at h
    rw [e3, hK, hM, hN]; exact h
  have n1 : M ≠ N := by omega
  have n2 : K ≠ N := by omega
  have n3 : K ≠ M := by omega
  have b2' : Blk (W3.setCells N 0 (hdC a)) M tHd hd0C := Blk.farCells n1 _ 0 b2
  have b3' : Blk ((W3.setCells N 0 (hdC a)).setCells M 0 (hdC b)) K tHd hd0C := Blk.farCells n3 _ 0 (Blk.farCells n2 _ 0 b3)
  have f1 : HdAt (W3.setCells N 0 (hdC a)) N a := filled_whole b1 (by rw [hdC_len la]; rfl)
  have f2 : HdAt ((W3.setCells N 0 (hdC a)).setCells M 0 (hdC b)) M b := filled_whole b2' (by rw [hdC_len lb]; rfl)
  have f3 : HdAt (((W3.setCells N 0 (hdC a)).setCells M 0 (hdC b)).setCells K 0 (hdC c)) K c := filled_whole b3' (by rw [hdC_len lc]; rfl)
  refine ⟨W3, e3, hd_store b1 rfl la, hd_store b2' rfl lb, hd_store b3' rfl lc, Blk.farCells (Ne.symm n2) _ 0 (Blk.farCells (Ne.symm n1) _ 0 f1), Blk.farCells (Ne.symm n3) _ 0 f2, f3, ?_⟩
  rw [e3]
  exact only_setCells (only_setCells (only_setCells ((((Only.refl _ _).alloc _).alloc _).alloc _) N 0 (.inr (by omega)) _) M 0 (.inr (by omega)) _) K 0 (.inr (by omega)) _
end Go.Proofs.YtgalfohobgjelaaGreatDoor
