/- What is proved here: what the reference net's function Send does. Conditions: the slices are the call's own, and short; the times are small. -/
import Derived.Test.YtoaddfmbjehhoaaNetQ
import Derived.Deep.DeepCutAuto
import Derived.BigRegion
import Derived.Deep.AppendLies
namespace Go.Proofs.Ytoaddfmbjehhoaa
open Go.RowKit
attribute [local go_sem ↓] Go.wp_at_zero Go.wp_at_succ

/-- The builtin append under a name that the walk does not open: its run is given by a hypothesis. -/
def apx (ts : Array TypeId) (ty : TypeId) (args : Array Value) : Sem Value := Builtin.append_ ts ty args
theorem apx_eq (ts : Array TypeId) (ty : TypeId) (args : Array Value) : Builtin.append_ ts ty args = apx ts ty args := rfl
attribute [local go_sem ↓ high] apx_eq

theorem own_cellAtR {w : World} {base g n m cap : Nat} {e : TypeId} {size : Nat} {xs : List Value} (h : w.ownsRow base e size (.slice (some ⟨g, 0, none⟩) m cap) n xs) (j : Nat) (hj : j < n * size) : w.cell? ⟨g, j, none⟩ = xs[j]? := by
  have hmn : m = n := by
    rcases h.2 with ⟨hv, _⟩ | ⟨g', cap', cur, hv, _⟩
    · simp at hv
    · injection hv
  subst hmn
  exact h.cellAt j hj

/-- Behind the first lines: the message in a box, what happens to it in another one. -/
def RCut (B b : Nat) (nodes : Int) (S : List Tr) (sv lv : Value) (R : List Pcl) (k : Nat) (w : World) (fr tw : Int) (tx : ByteArray) (wx : World) : Prop :=
  RefAt B b nodes S sv lv R k wx ∧ Blk wx w.heap.size 31 #[.int .i64 fr, .int .i64 tw, .string tx] ∧ Blk wx (w.heap.size + 1) 42 #[.bool (trAt S k).lost, .int .i64 (trAt S k).copies, .int .i64 (trAt S k).delay] ∧ Only NoneOf w wx

theorem RCut.drew {B b : Nat} {nodes : Int} {S : List Tr} {sv lv : Value} {R : List Pcl} {k : Nat} {w : World} {fr tw : Int} {tx : ByteArray} {wx : World} (h : RCut B b nodes S sv lv R k w fr tw tx wx) : RCut B b nodes S sv lv R k w fr tw tx wx.drew :=
  ⟨h.1.none_ (Only.refl NoneOf wx).drew, h.2.1.drew, h.2.2.1.drew, h.2.2.2.drew⟩
theorem rcut_sent {B b : Nat} {nodes : Int} {S : List Tr} {sv lv : Value} {R : List Pcl} {k : Nat} {w : World} {fr tw : Int} {tx : ByteArray} {wx : World} (h : RCut B b nodes S sv lv R k w fr tw tx wx) :
    RefAt B b nodes S sv lv R (k + 1) (wx.setCell ⟨b, 3, none⟩ (.int .i64 ((k : Int) + 1))) ∧ Only (fun i => i = b) w (wx.setCell ⟨b, 3, none⟩ (.int .i64 ((k : Int) + 1))) := by
  obtain ⟨⟨h1, h2, h3, h4⟩, h5, h6, h7⟩ := h
  exact ⟨⟨h1, h2.set_ 3 _, own_far h3 (own_blk_ne h3 h2 (by decide)) _, own_far h4 (own_blk_ne h4 h2 (by decide)) _⟩, ((h7.mono (S' := fun i => i = b) (fun i _ h => h.elim)).setCell (p := ⟨b, 3, none⟩) (.inl rfl) _)⟩
def RRel (B b : Nat) (nodes : Int) (S : List Tr) (sv lv : Value) (R : List Pcl) (k : Nat) (w : World) (p : Pcl) (cb ct : Array Value) (j : Nat) (wr : World) : Prop :=
  ∃ lv', RefAt B b nodes S sv lv' (addR p j R) (k + 1) wr ∧ (lv'.ownBlock = lv.ownBlock ∨ ∃ g, lv'.ownBlock = some g ∧ w.heap.size ≤ g) ∧ Only (fun i => i = b ∨ lv.ownBlock = some i) w wr ∧ Blk wr w.heap.size 31 cb ∧ Blk wr (w.heap.size + 1) 42 ct

theorem rrel_drewN {B b : Nat} {nodes : Int} {S : List Tr} {sv lv : Value} {R : List Pcl} {k : Nat} {w : World} {p : Pcl} {cb ct : Array Value} {j : Nat} {wr : World} (h : RRel B b nodes S sv lv R k w p cb ct j wr) (n : Nat) : RRel B b nodes S sv lv R k w p cb ct j (wr.drewN n) := by
  obtain ⟨lv', h1, h2, h3, h4, h5⟩ := h
  exact ⟨lv', h1.none_ ((Only.refl NoneOf _).drewN _), h2, h3.drewN _, h4.drewN _, h5.drewN _⟩

set_option maxRecDepth 100000 in
set_option maxHeartbeats 1000000 in
theorem rsend_any {B b : Nat} {nodes : Int} {S : List Tr} {sv lv : Value} {R : List Pcl} {k : Nat} {w : World} (now fr tw : Int) (tx : ByteArray) (h : RefAt B b nodes S sv lv R k w) (hB : B ≤ w.heap.size) (_hn : S.length ≤ 1000000) (_hk : k ≤ 1000000)
    (_hM : R.length ≤ 90000) (_h1 : -1000000000 ≤ now) (_h2 : now ≤ 1000000000) (_h3 : (trAt S k).delay ≤ 1000000000) :
    Calls Try.prog 15 #[.pointer (some ⟨b, 0, none⟩), .int .i64 now, msg fr tw tx] w (RSendPost B b nodes S sv lv (sendR nodes S k now fr tw tx R) k w) := by
  obtain ⟨i0, hi0, hz0, hz1, hz2⟩ := info_parts Try.info69
  have lb := h.2.1.lt
  obtain ⟨ls, hls⟩ : ∃ ls, ls = S.length := ⟨_, rfl⟩
  have hlsn : ls ≤ 1000000 := by omega
  obtain ⟨Av, cv, hv, hcv, _⟩ := own_form' h.2.2.1
  rw [← hls] at hv hcv
  subst hv
  obtain ⟨Al, cl, hvl, _, _⟩ := own_form' h.2.2.2
  subst hvl
  have HLS := Lib.hid hls
  have b0 := h.2.1.cell 0
  have b1 := h.2.1.cell 1
  have b3 := h.2.1.cell 3
  have f3 := h.2.1.frozen 3
  simp only [List.getElem?_toArray, List.getElem?_cons_zero, List.getElem?_cons_succ] at b0 b1 b3
  have HH := Lib.hid h
  clear hls h
  unfold msg
  go_enter Try.func15, Try.ntmps15
  go_upto_if 15 with fail
  go_cut [] (fun wx => RCut B b nodes S (.slice Av ls cv) (.slice Al R.length cl) R k w fr tw tx wx)
  case first =>
    have ho1 : Only NoneOf w ((w.alloc (.cells #[.int .i64 fr, .int .i64 tw, .string tx] 31)).alloc (.cells #[.bool (trAt S k).lost, .int .i64 (trAt S k).copies, .int .i64 (trAt S k).delay] 42)) := ((Only.refl NoneOf w).alloc _).alloc _
    have hcut0 : RCut B b nodes S (.slice Av ls cv) (.slice Al R.length cl) R k w fr tw tx ((w.alloc (.cells #[.int .i64 fr, .int .i64 tw, .string tx] 31)).alloc (.cells #[.bool (trAt S k).lost, .int .i64 (trAt S k).copies, .int .i64 (trAt S k).delay] 42)) :=
      ⟨HH.out.none_ ho1, (Blk.new w _ _).alloc _, by have := Blk.new (w.alloc (.cells #[.int .i64 fr, .int .i64 tw, .string tx] 31)) 42 #[.bool (trAt S k).lost, .int .i64 (trAt S k).copies, .int .i64 (trAt S k).delay]; simpa using this, ho1⟩
    have HC := Lib.hid hcut0
    clear ho1 hcut0
    by_cases hl0 : ls = 0
    · have htr : trAt S k = ⟨false, 1, 1⟩ := if_pos (by rw [← HLS.out]; exact hl0)
      have hlz : ¬ (0 : Int) < (ls : Int) := by omega
      have hlz2 : ¬ 0 < ls := by omega
      rw [htr] at HC
      clear hl0 htr
      go_wp2_with fail
      go_meet
      exact HC.out
    · obtain ⟨i, tr, hi, ei, hget, htr⟩ := trAt_row' (S := S) (k := k) (by have := HLS.out; omega)
      rw [← HLS.out] at hi ei
      obtain ⟨g, cap', he, hg1, hg2, _, _⟩ := own_form HH.out.2.2.1 (by have := HLS.out; omega)
      have he1 : Av = some ⟨g, 0, none⟩ := by injection he
      subst he1
      have d0 := (own_cellAtR HH.out.2.2.1 (i * 3 + 0) (by have := HLS.out; omega)).trans (flat_get tc_len S i 0 (by omega) tr hget)
      have d1 := (own_cellAtR HH.out.2.2.1 (i * 3 + 1) (by have := HLS.out; omega)).trans (flat_get tc_len S i 1 (by omega) tr hget)
      have d2 := (own_cellAtR HH.out.2.2.1 (i * 3 + 2) (by have := HLS.out; omega)).trans (flat_get tc_len S i 2 (by omega) tr hget)
      simp only [tc, List.getElem?_cons_zero, List.getElem?_cons_succ, Nat.add_zero] at d0 d1 d2
      have hpos : 0 < ls := by omega
      have hl0' : (((ls : Nat) : Int) == 0) = false := beq_eq_false_iff_ne.2 (by omega)
      rw [htr] at HC
      clear hl0 he hget htr
      go_wp2_with fail
      go_region
      all_goals
        go_wp2_with fail
        go_meet
        exact RCut.drew HC.out
  case rest =>
    obtain ⟨hr, hbx, hbt, hon⟩ := hcut
    have lbc := hr.2.1.lt
    have lbx := hbx.lt
    have lbt := hbt.lt
    have hne1 : b ≠ w.heap.size := by omega
    have hne2 : b ≠ w.heap.size + 1 := by omega
    have b0 := hr.2.1.cell 0
    have b3 := hr.2.1.cell 3
    have f3 := hr.2.1.frozen 3
    have m0 := hbx.cell 0
    have m1 := hbx.cell 1
    have m2 := hbx.cell 2
    have t0 := hbt.cell 0
    have t1 := hbt.cell 1
    have t2 := hbt.cell 2
    simp only [List.getElem?_toArray, List.getElem?_cons_zero, List.getElem?_cons_succ] at b0 b3 m0 m1 m2 t0 t1 t2
    have hsent := rcut_sent ⟨hr, hbx, hbt, hon⟩
    have HS := Lib.hid hsent
    have HBX := Lib.hid hbx
    have HBT := Lib.hid hbt
    clear hr hbx hbt hon hsent HH
    have hDr : sendR nodes S k now fr tw tx R = if Drops nodes (trAt S k) tw then R else addR ⟨fr, tw, tx, now + max (trAt S k).delay 0, k⟩ (copies (trAt S k)) R := rfl
    generalize sendR nodes S k now fr tw tx R = R' at *
    generalize trAt S k = tr at *
    have HDR := Lib.hid hDr
    clear hDr
    obtain ⟨lost, cp, dl⟩ := tr
    simp only at t0 t1 t2 _h3
    cases lost with
    | true =>
      have hR' : R' = R := by rw [HDR.out, if_pos (.inl rfl)]
      have HR' := Lib.hid hR'
      clear hR'
      go_wp2_with fail
      go_quiet (fail)
      go_wp2_with fail
      go_end0
      exact ⟨rfl, _, by rw [HR'.out]; exact HS.out.1.none_ ((Only.refl NoneOf _).drewN _), .inl rfl, (HS.out.2.mono (fun i _ h => .inl h)).drewN _⟩
    | false =>
      by_cases ht0 : tw < 0
      · have hR' : R' = R := by rw [HDR.out, if_pos (.inr (.inl ht0))]
        have HR' := Lib.hid hR'
        clear hR'
        go_wp2_with fail
        go_quiet (fail)
        go_wp2_with fail
        go_end0
        exact ⟨rfl, _, by rw [HR'.out]; exact HS.out.1.none_ ((Only.refl NoneOf _).drewN _), .inl rfl, (HS.out.2.mono (fun i _ h => .inl h)).drewN _⟩
      by_cases ht1 : nodes ≤ tw
      · have hR' : R' = R := by rw [HDR.out, if_pos (.inr (.inr ht1))]
        have HR' := Lib.hid hR'
        clear hR'
        go_wp2_with fail
        go_quiet (fail)
        go_wp2_with fail
        go_end0
        exact ⟨rfl, _, by rw [HR'.out]; exact HS.out.1.none_ ((Only.refl NoneOf _).drewN _), .inl rfl, (HS.out.2.mono (fun i _ h => .inl h)).drewN _⟩
      have hR' : R' = addR ⟨fr, tw, tx, now + max dl 0, k⟩ (copies ⟨false, cp, dl⟩) R := by rw [HDR.out, if_neg (by unfold Drops; simp; omega)]
      obtain ⟨cm, hcm⟩ : ∃ d, d = max cp 1 := ⟨_, rfl⟩
      have hcm3 : (if cp < 1 then 1 else cp) = cm := by omega
      obtain ⟨cn, hcn⟩ : ∃ c, c = copies ⟨false, cp, dl⟩ := ⟨_, rfl⟩
      have hcn1 : 1 ≤ cn := by rw [hcn]; simp only [copies]; omega
      have hcn2 : cn ≤ 8 := by rw [hcn]; simp only [copies]; omega
      have hcn3 : (if 8 < cm then 8 else cm) = (cn : Int) := by rw [hcn, hcm]; simp only [copies]; omega
      obtain ⟨dm, hdm⟩ : ∃ d, d = max dl 0 := ⟨_, rfl⟩
      have hdm3 : (if dl < 0 then 0 else dl) = dm := by omega
      have hdm1 : 0 ≤ dm := by omega
      have hdm2 : dm ≤ 1000000000 := by omega
      rw [← hcn, ← hdm] at hR'
      have HR' := Lib.hid hR'
      clear hR' HDR hcn hcm hdm
      have hrel0 : RRel B b nodes S (.slice Av ls cv) (.slice Al R.length cl) R k w ⟨fr, tw, tx, now + dm, k⟩ #[.int .i64 fr, .int .i64 tw, .string tx] #[.bool false, .int .i64 cp, .int .i64 dl] 0 (wc.setCell ⟨b, 3, none⟩ (.int .i64 ((k : Int) + 1))) :=
        ⟨_, HS.out.1, .inl rfl, HS.out.2.mono (fun i _ h => .inl h), HBX.out.far (Ne.symm hne1) _, HBT.out.far (Ne.symm hne2) _⟩
      have HREL0 := Lib.hid hrel0
      clear hrel0
      go_wp2_with fail
      go_quiet (fail)
      go_wp2_with fail
      go_loopw [8] (fun v wr => ∃ j : Nat, v = .int .i64 j ∧ j ≤ cn ∧ RRel B b nodes S (.slice Av ls cv) (.slice Al R.length cl) R k w ⟨fr, tw, tx, now + dm, k⟩ #[.int .i64 fr, .int .i64 tw, .string tx] #[.bool false, .int .i64 cp, .int .i64 dl] j wr) (fun v _ => cn - (intOf v).toNat)
      case atStart => exact ⟨0, rfl, by omega, rrel_drewN HREL0.out _⟩
      case round =>
        clear HREL0
        obtain ⟨j, rfl, hj, lv', hr, hlv, hon, hbx, hbt⟩ := hrel
        have hl := addR_len ⟨fr, tw, tx, now + dm, k⟩ R j
        have lbc := hr.2.1.lt
        have lbx := hbx.lt
        have lbt := hbt.lt
        have t1 := hbt.cell 1
        simp only [List.getElem?_toArray, List.getElem?_cons_zero, List.getElem?_cons_succ] at t1
        by_cases hlt : j < cn
        · have hRL : addR ⟨fr, tw, tx, now + dm, k⟩ (j + 1) R = addR ⟨fr, tw, tx, now + dm, k⟩ j R ++ [⟨fr, tw, tx, now + dm + j, k⟩] := rfl
          generalize hRe : addR ⟨fr, tw, tx, now + dm, k⟩ j R = RL at *
          obtain ⟨rl, hrl⟩ : ∃ rl, rl = RL.length := ⟨_, rfl⟩
          have hrl1 : rl ≤ 90008 := by omega
          have b2 := hr.2.1.cell 2
          have f2 := hr.2.1.frozen 2
          have m0 := hbx.cell 0
          have m1 := hbx.cell 1
          have m2 := hbx.cell 2
          have t2 := hbt.cell 2
          simp only [List.getElem?_toArray, List.getElem?_cons_zero, List.getElem?_cons_succ] at b2 m0 m1 m2 t2
          have hown := hr.2.2.2
          rw [← hrl] at hown
          have hvx : lv'.ownBlock ≠ some b := own_blk_ne hown hr.2.1 (by decide)
          have hvx1 : lv'.ownBlock ≠ some w.heap.size := own_blk_ne hown hbx (by decide)
          have hvx2 : lv'.ownBlock ≠ some (w.heap.size + 1) := own_blk_ne hown hbt (by decide)
          have hBr : B ≤ wr.heap.size := by have := hon.size; omega
          have HVX := Lib.hid hvx
          have HVX1 := Lib.hid hvx1
          have HVX2 := Lib.hid hvx2
          have HR := Lib.hid hr
          have HO := Lib.hid hown
          have HRL := Lib.hid hRL
          have HRLN := Lib.hid hrl
          have HLV := Lib.hid hlv
          have HON := Lib.hid hon
          have HBX2 := Lib.hid hbx
          have HBT2 := Lib.hid hbt
          clear hr hown hRL hRe hlv hon hbx hbt hvx hvx1 hvx2 hl HS HBX HBT hrl
          have e1 : IntKind.i64.wrap (now + dm) = now + dm := IntWalk.i64_in _ (by omega)
          have e2 : IntKind.i64.wrap (now + dm + (j : Int)) = now + dm + (j : Int) := IntWalk.i64_in _ (by omega)
          go_wp2_with fail
          have hA : Only NoneOf wr ((wr.alloc (.cells #[.int .i64 fr, .int .i64 tw, .string tx, .int .i64 (now + dm + (j : Int)), .int .i64 k] 69)).drew) := ((Only.refl NoneOf wr).alloc _).drew
          have hca := (HR.out.2.1.only hA (fun h => h)).cell 2
          have hfa := (HR.out.2.1.only hA (fun h => h)).frozen 2
          have n0 := (HBX2.out.only hA (fun h => h)).cell 0
          have n1 := (HBX2.out.only hA (fun h => h)).cell 1
          have n2 := (HBX2.out.only hA (fun h => h)).cell 2
          have n3 := (HBT2.out.only hA (fun h => h)).cell 2
          simp only [List.getElem?_toArray, List.getElem?_cons_zero, List.getElem?_cons_succ] at hca n0 n1 n2 n3
          have HA := Lib.hid hA
          have HCA := Lib.hid hca
          have HFA := Lib.hid hfa
          have HN0 := Lib.hid n0
          have HN1 := Lib.hid n1
          have HN2 := Lib.hid n2
          have HN3 := Lib.hid n3
          clear hA hca hfa n0 n1 n2 n3
          obtain ⟨g, cap, w1, hrun, hown1, hgrow, hat, hlt'⟩ := run_append_lies (P := Try.prog) (w := (wr.alloc (.cells #[.int .i64 fr, .int .i64 tw, .string tx, .int .i64 (now + dm + (j : Int)), .int .i64 k] 69)).drew) 58 58 B 69 i0 _ 5 48 Try.underlying58 hi0 hz0 hz1 hz2 rfl (by omega) lv' rl (RL.flatMap pc) ((HO.out.alloc _).drew)
            ⟨wr.heap.size, 0, none⟩ 1 1 [.int .i64 fr, .int .i64 tw, .string tx, .int .i64 (now + dm + (j : Int)), .int .i64 k] (by rfl) (World.news_of_block (cs := #[.int .i64 fr, .int .i64 tw, .string tx, .int .i64 (now + dm + (j : Int)), .int .i64 k]) (t := 69) (fr := (0, 0)) (heap_alloc_new wr _)) (by simp [Value.oneCell'])
            (by omega) (by rw [maxLen_val]; omega) (by omega) (by simp; omega) (wr.heap.size + 1) (by simp)
          have hf1 : w1.frozen? ⟨b, 2, none⟩ = false := (by rw [hgrow.frozen_far _ (by simp; omega) (Ne.symm HVX.out)]; exact HFA.out)
          have hc1 : w1.cell? ⟨b, 2, none⟩ = some lv' := (by rw [hgrow.cell_far _ (by simp; omega) (Ne.symm HVX.out)]; exact HCA.out)
          have hrun' : (apx #[58, 58] 58 #[lv', .slice (some ⟨wr.heap.size, 0, none⟩) 1 1]).run Try.prog (wr.alloc (.cells #[.int .i64 fr, .int .i64 tw, .string tx, .int .i64 (now + dm + (j : Int)), .int .i64 k] 69)).drew = .ok (.slice (some ⟨g, 0, none⟩) (rl + 1) cap) w1 := hrun
          clear hrun
          have HG := Lib.hid hgrow
          have HO1 := Lib.hid hown1
          have HAT := Lib.hid hat
          clear hgrow hown1 hat
          go_region
          go_wp2_with fail
          go_roundw
          case rel =>
            have hbg : b ≠ g := by
              rcases HAT.out with h | h
              · exact fun e => HVX.out (by rw [h, e])
              · omega
            have hA2 : Only (fun i => lv'.ownBlock = some i) wr w1 := ((HA.out.mono (fun i _ h => h.elim)).grown HG.out (fun k hk => .inl hk))
            have hr := HR.out
            have e5 : (RL ++ [(⟨fr, tw, tx, now + dm + j, k⟩ : Pcl)]).flatMap pc = RL.flatMap pc ++ [.int .i64 fr, .int .i64 tw, .string tx, .int .i64 (now + dm + (j : Int)), .int .i64 k] := by simp [pc]
            have e6 : (RL ++ [(⟨fr, tw, tx, now + dm + j, k⟩ : Pcl)]).length = rl + 1 := by simp [← HRLN.out]
            refine ⟨j + 1, by go_num, by omega, .slice (some ⟨g, 0, none⟩) (rl + 1) cap, ⟨hr.1, ?_, ?_, ?_⟩, ?_, ?_, ?_, ?_⟩
            · exact (hr.2.1.only hA2 HVX.out).set_ 2 _
            · exact own_far (own_only hr.2.2.1 hA2 (fun g' hg' h => own_own_ne hr.2.2.1 HO.out (by decide) hg' h)) (own_blk_ne hr.2.2.1 hr.2.1 (by decide)) _
            · rw [HRL.out, e5, e6]
              exact own_far HO1.out (by simpa [Value.ownBlock] using Ne.symm hbg) _
            · rcases HAT.out with h | h
              · rcases HLV.out with h2 | ⟨g2, h2, h3⟩
                · exact .inl (by rw [← h2, h]; rfl)
                · exact .inr ⟨g2, by rw [← h2, h]; rfl, h3⟩
              · exact .inr ⟨g, rfl, by have := HON.out.size; omega⟩
            · refine (HON.out.trans' hA2 (fun i hi hg => ?_)).setCell (.inl (.inl rfl)) _
              rcases HLV.out with h2 | ⟨g2, h2, h3⟩
              · exact .inr (by rw [← h2]; exact hg)
              · rw [h2] at hg
                injection hg with hg
                omega
            · exact (HBX2.out.only hA2 HVX1.out).far (by simpa using Ne.symm hne1) _
            · exact (HBT2.out.only hA2 HVX2.out).far (by simpa using Ne.symm hne2) _
          case measure => simp [intOf]; omega
        · obtain rfl : j = cn := by omega
          have HR := Lib.hid hr
          have HLV := Lib.hid hlv
          have HON := Lib.hid hon
          clear hr hlv hon hbx hbt hl HS HBX HBT
          go_wp2_with fail
          go_end0
          exact ⟨rfl, lv', by rw [HR'.out]; exact HR.out, HLV.out, HON.out⟩
end Go.Proofs.Ytoaddfmbjehhoaa
