/- What is proved here: what the reference net's function Next does. Conditions: the slices are the call's own, and short. -/
import Derived.Test.YtoaddfmbjehhoaaNetR
namespace Go.Proofs.Ytoaddfmbjehhoaa
open Go.RowKit
attribute [local go_sem ↓] Go.wp_at_zero Go.wp_at_succ
attribute [local go_sem ↓ high] apx_eq

theorem pc_one (R : List Pcl) : ∀ u ∈ R.flatMap pc, u.oneCell' = true := by
  intro u hu
  obtain ⟨p, _, hp⟩ := List.mem_flatMap.1 hu
  simp only [pc, List.mem_cons, List.not_mem_nil, or_false] at hp
  rcases hp with rfl | rfl | rfl | rfl | rfl <;> rfl
def RNextPost (B b : Nat) (nodes : Int) (S : List Tr) (sv lv : Value) (R : List Pcl) (k : Nat) (w : World) (e : Ending) (w' : World) : Prop :=
  (R = [] ∧ e = .returned (gotV []) ∧ RefAt B b nodes S sv lv R k w' ∧ Only NoneOf w w') ∨
  ∃ (i : Nat) (p : Pcl) (lv' : Value), R[i]? = some p ∧ (∀ q ∈ R, ¬ Lt q p) ∧ e = .returned (gotV [p]) ∧ RefAt B b nodes S sv lv' (R.eraseIdx i) k w' ∧ Only (fun i => i = b) w w'
def RBest (B b : Nat) (nodes : Int) (S : List Tr) (sv lv : Value) (R : List Pcl) (k : Nat) (w : World) (i j : Nat) (wr : World) : Prop :=
  RefAt B b nodes S sv lv R k wr ∧ Blk wr w.heap.size 31 #[.int .i64 0, .int .i64 0, .string ⟨#[]⟩] ∧ Only NoneOf w wr ∧ ∃ p, R[i]? = some p ∧ ∀ m q, m < j → R[m]? = some q → ¬ Lt q p
theorem rbest_drewN {B b : Nat} {nodes : Int} {S : List Tr} {sv lv : Value} {R : List Pcl} {k : Nat} {w : World} {i j : Nat} {wr : World} (h : RBest B b nodes S sv lv R k w i j wr) (n : Nat) : RBest B b nodes S sv lv R k w i j (wr.drewN n) :=
  ⟨h.1.none_ ((Only.refl NoneOf _).drewN _), h.2.1.drewN _, h.2.2.1.drewN _, h.2.2.2⟩
theorem rbest_keep {B b : Nat} {nodes : Int} {S : List Tr} {sv lv : Value} {R : List Pcl} {k : Nat} {w : World} {i j : Nat} {p q : Pcl} {wr : World} (h : RBest B b nodes S sv lv R k w i j wr) (hp : R[i]? = some p) (hq : R[j]? = some q) (hn : ¬ Lt q p) : RBest B b nodes S sv lv R k w i (j + 1) wr := by
  obtain ⟨h1, h2, h3, p', h4, h5⟩ := h
  obtain rfl : p' = p := by rw [h4] at hp; injection hp
  refine ⟨h1, h2, h3, p', h4, fun m r hm hr => ?_⟩
  by_cases hmj : m = j
  · subst hmj
    rw [hr] at hq
    injection hq with hq
    subst hq
    exact hn
  · exact h5 m r (by omega) hr
theorem rbest_take {B b : Nat} {nodes : Int} {S : List Tr} {sv lv : Value} {R : List Pcl} {k : Nat} {w : World} {i j : Nat} {p q : Pcl} {wr : World} (h : RBest B b nodes S sv lv R k w i j wr) (hp : R[i]? = some p) (hq : R[j]? = some q) (hn : Lt q p) : RBest B b nodes S sv lv R k w j (j + 1) wr := by
  obtain ⟨h1, h2, h3, p', h4, h5⟩ := h
  obtain rfl : p' = p := by rw [h4] at hp; injection hp
  refine ⟨h1, h2, h3, q, hq, fun m r hm hr => ?_⟩
  by_cases hmj : m = j
  · subst hmj
    rw [hr] at hq
    injection hq with hq
    subst hq
    unfold Lt; omega
  · have := h5 m r (by omega) hr
    unfold Lt at *
    omega

theorem rnext_end {B b : Nat} {nodes : Int} {S : List Tr} {sv lv v5 : Value} {R R' : List Pcl} {k x : Nat} {cs : Array Value} {w wr w5 : World} (hr : RefAt B b nodes S sv lv R k wr) (hO5 : Only NoneOf wr w5) (hO : Only NoneOf w wr)
    (ho5 : w5.ownsRow B 69 5 v5 R'.length (R'.flatMap pc)) (hx : Blk wr x 31 cs) (hxw : w.heap.size ≤ x) (u0 u1 u2 : Value) :
    RefAt B b nodes S sv v5 R' k ((((w5.setCell ⟨b, 2, none⟩ v5).setCell ⟨x, 0, none⟩ u0).setCell ⟨x, 1, none⟩ u1).setCell ⟨x, 2, none⟩ u2).drew ∧
      Only (fun i => i = b) w ((((w5.setCell ⟨b, 2, none⟩ v5).setCell ⟨x, 0, none⟩ u0).setCell ⟨x, 1, none⟩ u1).setCell ⟨x, 2, none⟩ u2).drew := by
  have hb5 := hr.2.1.only hO5 (fun h => h)
  have hx5 := hx.only hO5 (fun h => h)
  have hs5 := own_only hr.2.2.1 hO5 (fun _ _ h => h)
  have hne : b ≠ x := hb5.ne_ hx5 (by decide)
  have s1 := own_blk_ne hs5 hb5 (by decide)
  have s2 := own_blk_ne hs5 hx5 (by decide)
  have v1 := own_blk_ne ho5 hb5 (by decide)
  have v2 := own_blk_ne ho5 hx5 (by decide)
  refine ⟨⟨hr.1, ?_, ?_, ?_⟩, ?_⟩
  · exact ((((hb5.set_ 2 v5).far (p := ⟨x, 0, none⟩) hne u0).far (p := ⟨x, 1, none⟩) hne u1).far (p := ⟨x, 2, none⟩) hne u2).drew
  · exact own_drew (own_far (own_far (own_far (own_far hs5 (p := ⟨b, 2, none⟩) s1 v5) (p := ⟨x, 0, none⟩) s2 u0) (p := ⟨x, 1, none⟩) s2 u1) (p := ⟨x, 2, none⟩) s2 u2)
  · exact own_drew (own_far (own_far (own_far (own_far ho5 (p := ⟨b, 2, none⟩) v1 v5) (p := ⟨x, 0, none⟩) v2 u0) (p := ⟨x, 1, none⟩) v2 u1) (p := ⟨x, 2, none⟩) v2 u2)
  · have h1 : Only (fun i => i = b) w w5 := (hO.trans hO5).mono (fun _ _ h => h.elim)
    exact ((((h1.setCell (p := ⟨b, 2, none⟩) (.inl rfl) v5).setCell (p := ⟨x, 0, none⟩) (.inr hxw) u0).setCell (p := ⟨x, 1, none⟩) (.inr hxw) u1).setCell (p := ⟨x, 2, none⟩) (.inr hxw) u2).drew

set_option maxRecDepth 100000 in
set_option maxHeartbeats 4000000 in
theorem rnext_any {B b : Nat} {nodes : Int} {S : List Tr} {sv lv : Value} {R : List Pcl} {k : Nat} {w : World} (h : RefAt B b nodes S sv lv R k w) (hB : B ≤ w.heap.size) (_hn : R.length ≤ 100000) :
    Calls Try.prog 17 #[.pointer (some ⟨b, 0, none⟩)] w (RNextPost B b nodes S sv lv R k w) := by
  obtain ⟨i0, hi0, hz0, hz1, hz2⟩ := info_parts Try.info69
  have lb := h.2.1.lt
  obtain ⟨rl, hrl⟩ : ∃ rl, rl = R.length := ⟨_, rfl⟩
  have hrl1 : rl ≤ 100000 := by omega
  have c2 := h.2.1.cell 2
  simp only [List.getElem?_toArray, List.getElem?_cons_zero, List.getElem?_cons_succ] at c2
  have HH := Lib.hid h
  have HRL := Lib.hid hrl
  by_cases h0 : R = []
  · subst h0
    obtain ⟨A, cap, rfl, _, _⟩ := own_form' h.2.2.2
    simp only [List.length_nil] at c2
    clear h hrl
    go_enter Try.func17, Try.ntmps17
    go_wp2_with fail
    refine bodyPost_ret (v := .tuple #[.agg #[.int .i64 0, .int .i64 0, .string ⟨#[]⟩], .int .i64 0, .bool false]) (by simp [results, Try.results17, go_sem]) rfl (.inl ⟨rfl, rfl, ?_, (Only.refl NoneOf w).alloc _⟩)
    exact HH.out.none_ ((Only.refl NoneOf w).alloc _)
  · have hpos : 0 < rl := by have := List.length_pos_iff.2 h0; omega
    obtain ⟨g, cap, rfl, hg1, hg2, hcp1, hcp2⟩ := own_form h.2.2.2 (by omega)
    rw [← hrl] at c2 hcp1
    have hb0 : RBest B b nodes S sv (.slice (some ⟨g, 0, none⟩) R.length cap) R k w 0 1 (w.alloc (.cells #[.int .i64 0, .int .i64 0, .string ⟨#[]⟩] 31)) := by
      obtain ⟨p, hp⟩ : ∃ p, R[0]? = some p := ⟨_, List.getElem?_eq_getElem (by omega)⟩
      refine ⟨HH.out.none_ ((Only.refl NoneOf w).alloc _), Blk.new w _ _, (Only.refl NoneOf w).alloc _, p, hp, fun m q hm hq => ?_⟩
      obtain rfl : m = 0 := by omega
      rw [hp] at hq
      injection hq with hq
      subst hq
      unfold Lt; omega
    have HB0 := Lib.hid hb0
    rw [maxLen_val] at hcp2
    have hrl0 : ((rl : Int) == 0) = false := beq_eq_false_iff_ne.2 (by omega)
    clear h hrl h0 hb0
    go_enter Try.func17, Try.ntmps17
    go_wp2_with fail
    go_loopw [5, 6] (fun v5 v wr => ∃ i j : Nat, v5 = .int .i64 i ∧ v = .int .i64 j ∧ i < rl ∧ j ≤ rl ∧ RBest B b nodes S sv (.slice (some ⟨g, 0, none⟩) R.length cap) R k w i j wr) (fun _ v _ => rl - (intOf v).toNat)
    case atStart => exact ⟨0, 1, rfl, rfl, by omega, by omega, HB0.out⟩
    case round =>
      clear HB0
      obtain ⟨i, j, rfl, rfl, hi, hj, hr⟩ := hrel
      have lb1 := hr.1.2.1.lt
      have b2 := hr.1.2.1.cell 2
      simp only [List.getElem?_toArray, List.getElem?_cons_zero, List.getElem?_cons_succ] at b2
      rw [← HRL.out] at b2
      obtain ⟨p, hp, hmin⟩ := hr.2.2.2
      by_cases hlt : j < rl
      · obtain ⟨q, hq⟩ : ∃ q, R[j]? = some q := ⟨_, List.getElem?_eq_getElem (by have := HRL.out; omega)⟩
        have hgr : g < wr.heap.size := by have := hr.2.2.1.size; omega
        have p3 := (own_cellAtR hr.1.2.2.2 (i * 5 + 3) (by have := HRL.out; omega)).trans (flat_get pc_len R i 3 (by omega) p hp)
        have p4 := (own_cellAtR hr.1.2.2.2 (i * 5 + 4) (by have := HRL.out; omega)).trans (flat_get pc_len R i 4 (by omega) p hp)
        have q3 := (own_cellAtR hr.1.2.2.2 (j * 5 + 3) (by have := HRL.out; omega)).trans (flat_get pc_len R j 3 (by omega) q hq)
        have q4 := (own_cellAtR hr.1.2.2.2 (j * 5 + 4) (by have := HRL.out; omega)).trans (flat_get pc_len R j 4 (by omega) q hq)
        simp only [pc, List.getElem?_cons_zero, List.getElem?_cons_succ] at p3 p4 q3 q4
        have hi' : (0 : Int) ≤ (i : Int) := Int.natCast_nonneg _
        have hi2 : (i : Int) < (rl : Int) := by omega
        have hj' : (0 : Int) ≤ (j : Int) := Int.natCast_nonneg _
        have hj2 : (j : Int) < (rl : Int) := by omega
        by_cases t1 : q.due < p.due
        · have HR := Lib.hid (rbest_take hr hp hq (.inl t1))
          clear hr hmin hp hq
          go_wp2_with fail
          go_quiet (fail)
          go_wp2_with fail
          go_roundw
          case rel => exact ⟨j, j + 1, rfl, by go_num, hlt, by omega, rbest_drewN HR.out _⟩
          case measure => simp [intOf]; omega
        by_cases t2 : q.due = p.due
        · by_cases t3 : q.sent < p.sent
          · have HR := Lib.hid (rbest_take hr hp hq (.inr ⟨t2, t3⟩))
            rw [← t2] at p3 t1
            clear hr hmin hp hq t2
            generalize q.due = qd at *
            generalize q.sent = qs at *
            generalize p.sent = ps at *
            go_wp2_with fail
            go_quiet (fail)
            go_wp2_with fail
            go_roundw
            case rel => exact ⟨j, j + 1, rfl, by go_num, hlt, by omega, rbest_drewN HR.out _⟩
            case measure => simp [intOf]; omega
          · have HR := Lib.hid (rbest_keep hr hp hq (by unfold Lt; omega))
            rw [← t2] at p3 t1
            clear hr hmin hp hq t2
            generalize q.due = qd at *
            generalize q.sent = qs at *
            generalize p.sent = ps at *
            go_wp2_with fail
            go_quiet (fail)
            go_wp2_with fail
            go_roundw
            case rel => exact ⟨i, j + 1, rfl, by go_num, hi, by omega, rbest_drewN HR.out _⟩
            case measure => simp [intOf]; omega
        · have HR := Lib.hid (rbest_keep hr hp hq (by unfold Lt; omega))
          have t4 : decide (q.due < p.due) = false := by simp; omega
          have t3 : (q.due == p.due) = false := beq_eq_false_iff_ne.2 t2
          clear hr hmin hp hq t2 t1
          generalize q.due = qd at *
          generalize p.due = pd at *
          go_wp2_with fail
          go_quiet (fail)
          go_wp2_with fail
          go_roundw
          case rel => exact ⟨i, j + 1, rfl, by go_num, hi, by omega, rbest_drewN HR.out _⟩
          case measure => simp [intOf]; omega
      · obtain rfl : j = rl := by omega
        have hgr : g < wr.heap.size := by have := hr.2.2.1.size; omega
        have lb2 := hr.2.1.lt
        have p0 := (own_cellAtR hr.1.2.2.2 (i * 5 + 0) (by have := HRL.out; omega)).trans (flat_get pc_len R i 0 (by omega) p hp)
        have p1 := (own_cellAtR hr.1.2.2.2 (i * 5 + 1) (by have := HRL.out; omega)).trans (flat_get pc_len R i 1 (by omega) p hp)
        have p2 := (own_cellAtR hr.1.2.2.2 (i * 5 + 2) (by have := HRL.out; omega)).trans (flat_get pc_len R i 2 (by omega) p hp)
        have p3 := (own_cellAtR hr.1.2.2.2 (i * 5 + 3) (by have := HRL.out; omega)).trans (flat_get pc_len R i 3 (by omega) p hp)
        have p4 := (own_cellAtR hr.1.2.2.2 (i * 5 + 4) (by have := HRL.out; omega)).trans (flat_get pc_len R i 4 (by omega) p hp)
        simp only [pc, List.getElem?_cons_zero, List.getElem?_cons_succ, Nat.add_zero] at p0 p1 p2 p3 p4
        have f2 := hr.1.2.1.frozen 2
        have r0 := hr.2.1.cell 0
        have g0 := hr.2.1.frozen 0
        have g1 := hr.2.1.frozen 1
        have g2 := hr.2.1.frozen 2
        have r1 := hr.2.1.cell 1
        have r2 := hr.2.1.cell 2
        simp only [List.getElem?_toArray, List.getElem?_cons_zero, List.getElem?_cons_succ] at r0 r1 r2
        have hmin' : ∀ q ∈ R, ¬ Lt q p := fun q hq => by
          obtain ⟨m, hm, hq⟩ := List.mem_iff_getElem.1 hq
          exact hmin m q (by have := HRL.out; omega) (by rw [List.getElem?_eq_getElem hm, hq])
        have hi' : (0 : Int) ≤ (i : Int) := Int.natCast_nonneg _
        have hi2 : (i : Int) < (j : Int) := by omega
        have hA : Only NoneOf wr (wr.alloc (.cells #[.int .i64 p.fr, .int .i64 p.tgt, .string p.tx, .int .i64 p.due, .int .i64 p.sent] 69)) := (Only.refl NoneOf wr).alloc _
        have hoA := own_only hr.1.2.2.2 hA (fun _ _ h => h)
        rw [← HRL.out] at hoA
        have hoI := own_shrink (m := i) hoA (by omega)
        rw [flat_take pc_len] at hoI
        obtain ⟨v4, w4, hrun1, hown4, hgrow4, _, hat4⟩ := run_append_own_at (P := Try.prog) (wr.alloc (.cells #[.int .i64 p.fr, .int .i64 p.tgt, .string p.tx, .int .i64 p.due, .int .i64 p.sent] 69)) B 58 58 69 i0 _ 5 48 Try.underlying58 hi0 hz0 hz1 hz2 rfl (by decide) (.slice none 0 0) 0 [] (World.ownsRow_nil _ _ _ _)
          ⟨g, 0, none⟩ i cap ((R.take i).flatMap pc) hoI.1 (own_take_cells hoI) (pc_one _) (by rw [maxLen_val]; omega) (by omega) (by have := hr.2.2.1.size; simp; omega)
        have hr1' : (apx #[58, 58] 58 #[.slice none 0 0, .slice (some ⟨g, 0, none⟩) i cap]).run Try.prog (wr.alloc (.cells #[.int .i64 p.fr, .int .i64 p.tgt, .string p.tx, .int .i64 p.due, .int .i64 p.sent] 69)) = .ok v4 w4 := hrun1
        rw [Nat.zero_add, List.nil_append] at hown4
        have hO4 : Only NoneOf wr w4 := hA.grown hgrow4 (fun k hk => by simp [Value.ownBlock] at hk)
        have b4 := (hr.1.2.1.only hO4 (fun h => h)).cell 2
        simp only [List.getElem?_toArray, List.getElem?_cons_zero, List.getElem?_cons_succ] at b4
        rw [← HRL.out] at b4
        have hoB := own_only hr.1.2.2.2 hO4 (fun _ _ h => h)
        rw [← HRL.out] at hoB
        have hlen5 := hoB.1
        have hnl : ((R.drop (i + 1)).flatMap pc).length = (j - (i + 1)) * 5 := by rw [← flat_drop pc_len, List.length_drop, hlen5]; omega
        have hnc : ∀ x u, ((R.drop (i + 1)).flatMap pc)[x]? = some u → w4.cell? ((⟨g, (i + 1) * 5, none⟩ : Addr).add x) = some u := fun x u hx => by
          rw [← flat_drop pc_len, List.getElem?_drop] at hx
          have hlt5 := (List.getElem?_eq_some_iff.1 hx).1
          rw [hlen5] at hlt5
          have := own_cellAtR hoB ((i + 1) * 5 + x) hlt5
          rw [hx] at this
          rw [Addr.add_lit]
          exact this
        have hB4 : B ≤ w4.heap.size := by have := hr.2.2.1.size; have := hO4.size; omega
        have hfin : ∀ ad : Addr, (j - (i + 1) = 0 ∨ ad = ⟨g, (i + 1) * 5, none⟩) → ∃ v5 w5, (apx #[58, 58] 58 #[v4, .slice (some ad) (j - (i + 1)) (cap - (i + 1))]).run Try.prog w4 = .ok v5 w5 ∧
            w5.ownsRow B 69 5 v5 (R.eraseIdx i).length ((R.eraseIdx i).flatMap pc) ∧ w4.grownBy w5 v4.ownBlock := fun ad had => by
          obtain ⟨v5, w5, hrun2, hown5, hgrow5, _⟩ := run_append_own (P := Try.prog) w4 B 58 58 69 i0 _ 5 48 Try.underlying58 hi0 hz0 hz1 hz2 rfl (by decide) v4 i _ hown4
            ad (j - (i + 1)) (cap - (i + 1)) ((R.drop (i + 1)).flatMap pc) hnl (by
              rcases had with h0 | rfl
              · intro x u hx
                have : (R.drop (i + 1)).flatMap pc = [] := List.eq_nil_of_length_eq_zero (by rw [hnl]; omega)
                rw [this] at hx
                cases hx
              · exact hnc) (pc_one _) (by rw [maxLen_val]; omega) (by omega) hB4
          refine ⟨v5, w5, hrun2, ?_, hgrow5⟩
          have e1 : (R.eraseIdx i).length = i + (j - (i + 1)) := by rw [List.length_eraseIdx_of_lt (by have := HRL.out; omega), ← HRL.out]; omega
          rw [e1, List.eraseIdx_eq_take_drop_succ, List.flatMap_append]
          exact hown5
        have hsz4 : wr.heap.size + 1 ≤ w4.heap.size := by have := hgrow4.size; simpa using this
        have hv4 : ∀ x, v4.ownBlock = some x → x = wr.heap.size + 1 := fun x hx => by
          rcases hat4 with h | h
          · rw [h] at hx; simp [Value.ownBlock] at hx
          · rw [h] at hx; simpa using hx.symm
        have hbp : Blk w4 wr.heap.size 69 #[.int .i64 p.fr, .int .i64 p.tgt, .string p.tx, .int .i64 p.due, .int .i64 p.sent] := (Blk.new wr 69 _).grown hgrow4 (by simp [Value.ownBlock])
        have hw5 : ∀ v5 w5, w5.ownsRow B 69 5 v5 (R.eraseIdx i).length ((R.eraseIdx i).flatMap pc) → w4.grownBy w5 v4.ownBlock → ∃ A5 n5 c5, v5 = .slice A5 n5 c5 ∧ Only NoneOf wr w5 ∧ Blk w5 wr.heap.size 69 #[.int .i64 p.fr, .int .i64 p.tgt, .string p.tx, .int .i64 p.due, .int .i64 p.sent] := fun v5 w5 ho5 hg5 => by
          obtain ⟨A5, c5, rfl, _, _⟩ := own_form' ho5
          exact ⟨A5, _, c5, rfl, hO4.grown hg5 (fun x hx => .inr (by have := hv4 x hx; omega)), hbp.grown hg5 (fun e => by have := hv4 _ e.symm; omega)⟩
        have HW5 := Lib.hid hw5
        have HF := Lib.hid hfin
        have HO4 := Lib.hid hO4
        have HOWN4 := Lib.hid hown4
        have HR := Lib.hid hr
        have HMIN := Lib.hid hmin'
        have HP := Lib.hid hp
        clear hr hmin hmin' hp hA hoA hoI hrun1 hown4 hgrow4 hO4 hoB hlen5 hnl hnc hfin hw5 hbp hv4 hat4
        have hgo : ∃ ad : Addr, (j - (i + 1) = 0 ∨ ad = ⟨g, (i + 1) * 5, none⟩) ∧ (cap = i + 1 → ad = ⟨g, 0, none⟩) ∧ (¬ cap = i + 1 → ad = ⟨g, (i + 1) * 5, none⟩) := by
          by_cases hcap : cap = i + 1
          · exact ⟨⟨g, 0, none⟩, .inl (by omega), fun _ => rfl, fun h => absurd hcap h⟩
          · exact ⟨⟨g, (i + 1) * 5, none⟩, .inr rfl, fun h => absurd h hcap, fun _ => rfl⟩
        obtain ⟨ad, had, had1, had2⟩ := hgo
        obtain ⟨v5, w5, hr5, ho5, hg5⟩ := HF.out ad had
        obtain ⟨A5, n5, c5, rfl, hO5, hbp5⟩ := HW5.out v5 w5 ho5 hg5
        have hb5 := HR.out.1.2.1.only hO5 (fun h => h)
        have hx5 := HR.out.2.1.only hO5 (fun h => h)
        have l1 := hb5.lt
        have l2 := hx5.lt
        have l3 := hbp5.lt
        have b5 := hb5.cell 2
        have f5 := hb5.frozen 2
        have x0 := hx5.cell 0
        have x1 := hx5.cell 1
        have x2 := hx5.cell 2
        have y0 := hx5.frozen 0
        have y1 := hx5.frozen 1
        have y2 := hx5.frozen 2
        have z0 := hbp5.cell 0
        have z1 := hbp5.cell 1
        have z2 := hbp5.cell 2
        have z3 := hbp5.cell 3
        have z4 := hbp5.cell 4
        simp only [List.getElem?_toArray, List.getElem?_cons_zero, List.getElem?_cons_succ] at b5 x0 x1 x2 z0 z1 z2 z3 z4
        have hne1 : b ≠ w.heap.size := by omega
        have hne2 : b ≠ wr.heap.size := by omega
        have hne3 : w.heap.size ≠ wr.heap.size := by omega
        have HO5 := Lib.hid ho5
        have HON5 := Lib.hid hO5
        clear ho5 hg5 hO5 hbp5 hb5 hx5 had
        by_cases hcap : cap = i + 1
        · obtain rfl := had1 hcap
          clear had1 had2
          subst hcap
          obtain rfl : j = i + 1 := by omega
          simp only [Nat.sub_self] at hr5
          go_wp2_with fail
          go_region
          go_wp2_with fail
          have hend := rnext_end HR.out.1 HON5.out HR.out.2.2.1 HO5.out HR.out.2.1 (Nat.le_refl _) (.int .i64 p.fr) (.int .i64 p.tgt) (.string p.tx)
          exact bodyPost_ret (v := .tuple #[.agg #[.int .i64 p.fr, .int .i64 p.tgt, .string p.tx], .int .i64 p.due, .bool true]) (by simp [results, Try.results17, go_sem, *]) rfl (.inr ⟨i, p, _, HP.out, HMIN.out, rfl, hend.1, hend.2⟩)
        · obtain rfl := had2 hcap
          clear had1 had2
          go_wp2_with fail
          go_region
          go_wp2_with fail
          have hend := rnext_end HR.out.1 HON5.out HR.out.2.2.1 HO5.out HR.out.2.1 (Nat.le_refl _) (.int .i64 p.fr) (.int .i64 p.tgt) (.string p.tx)
          exact bodyPost_ret (v := .tuple #[.agg #[.int .i64 p.fr, .int .i64 p.tgt, .string p.tx], .int .i64 p.due, .bool true]) (by simp [results, Try.results17, go_sem, *]) rfl (.inr ⟨i, p, _, HP.out, HMIN.out, rfl, hend.1, hend.2⟩)
end Go.Proofs.Ytoaddfmbjehhoaa
