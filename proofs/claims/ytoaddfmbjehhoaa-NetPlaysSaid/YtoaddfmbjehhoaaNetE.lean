/- What is proved here: what the net's functions New, trouble, queue and Waiting do. Conditions: the slices are the call's own, and short. -/
import Derived.Test.YtoaddfmbjehhoaaNetD
import Derived.StillTailTactics
namespace Go.Proofs.Ytoaddfmbjehhoaa
open Go.RowKit

structure Tr where
  lost : Bool
  copies : Int
  delay : Int
def tc (t : Tr) : List Value := [.bool t.lost, .int .i64 t.copies, .int .i64 t.delay]
def tagg (t : Tr) : Value := .agg #[.bool t.lost, .int .i64 t.copies, .int .i64 t.delay]
theorem tc_len (t : Tr) : (tc t).length = 3 := rfl
theorem tc_one (S : List Tr) : ∀ u ∈ S.flatMap tc, u.oneCell' = true := by
  intro u hu
  obtain ⟨t, _, ht⟩ := List.mem_flatMap.1 hu
  simp [tc] at ht
  rcases ht with rfl | rfl | rfl <;> rfl
theorem Try.info42 : (Try.prog.info? 42).map (fun i => (i.zero, i.size, i.bytes)) = some (some (.agg #[.bool false, .int .i64 0, .int .i64 0]), 3, 24) := by kernel_rfl

theorem own_take_cells {w : World} {base : Nat} {e : TypeId} {size n c : Nat} {ad : Addr} {xs : List Value} (h : w.ownsRow base e size (.slice (some ad) n c) n xs) : ∀ j u, xs[j]? = some u → w.cell? (ad.add j) = some u := by
  rcases h.2 with ⟨hv, _⟩ | ⟨g', cap', cur, hv, _⟩
  · simp at hv
  · simp only [Value.slice.injEq, Option.some.injEq] at hv
    obtain ⟨rfl, _⟩ := hv
    exact h.cells rfl

set_option maxHeartbeats 400000 in
theorem clone_any {B : Nat} {v : Value} {S : List Tr} {w : World} (hown : w.ownsRow B 42 3 v S.length (S.flatMap tc)) (_hn : S.length ≤ 1000000) :
    Calls Try.prog 20 #[v] w fun e w' => ∃ v', e = .returned v' ∧ w'.ownsRow w.heap.size 42 3 v' S.length (S.flatMap tc) ∧ Below w.heap.size w w' := by
  obtain ⟨i0, hi0, hz0, hz1, hz2⟩ := info_parts Try.info42
  obtain ⟨A, cap, rfl, hc1, hc2⟩ := own_form' hown
  cases A with
  | none =>
    have hl : S.length = 0 := by
      rcases hown.2 with ⟨_, h⟩ | ⟨g, c, cur, hv, _⟩
      · exact h
      · simp at hv
    have hS : S = [] := List.eq_nil_of_length_eq_zero hl
    subst hS
    have hnil := fun w => Lib.run_eql_slice_nil (P := Try.prog) w 22 42 none 0 cap 0 0 Try.underlying22
    clear hown hl
    go_enter Try.func20, Try.ntmps20
    go_wp2
    go_ret
    exact ⟨_, rfl, World.ownsRow_nil _ _ _ _, Below.refl _ _⟩
  | some ad =>
    have hnil := fun w => Lib.run_eql_slice_nil (P := Try.prog) w 22 42 (some ad) S.length cap 0 0 Try.underlying22
    have HO := Lib.hid hown
    clear hown
    go_enter Try.func20, Try.ntmps20
    go_wp2_with (at_builtin; refine wpList_append_own _ rfl _ _ 22 rfl w.heap.size 42 i0 _ 3 24 Try.underlying22 hi0 hz0 hz1 hz2 rfl (by decide) (.slice (some ⟨w.heap.size, 0, none⟩) 0 0) 0 [] rfl (by exact World.ownsRow_made w _ 0 (Nat.le_refl _) (by unfold maxLen; omega) rfl) ad S.length cap (S.flatMap tc) rfl (flat_len tc_len S) (by exact own_take_cells (HO.out.alloc _)) (tc_one S) (by rw [maxLen_val]; omega) (by omega) (by simp) ?_; intro v' w1 hown1 hgrow _)
    go_ret
    refine ⟨v', rfl, by simpa using hown1, ?_⟩
    exact ((Below.refl w.heap.size w).alloc (Nat.le_refl _) _).grown hgrow (by simp) (fun k hk => by simp [Value.ownBlock] at hk; omega)

def NetAt (B b : Nat) (nodes : Int) (S : List Tr) (sv wv : Value) (M : List Pcl) (k : Nat) (w : World) : Prop :=
  B ≤ b ∧ HeapAt B b 2 53 #[.int .i64 nodes, sv, wv, .int .i64 k] wv M w ∧ w.ownsRow B 42 3 sv S.length (S.flatMap tc) ∧ ∀ q ∈ M, q.sent < k

theorem NetAt.only {B b : Nat} {nodes : Int} {S : List Tr} {sv wv : Value} {M : List Pcl} {k : Nat} {w w' : World} {C : Nat → Prop} (h : NetAt B b nodes S sv wv M k w) (hc : Only C w w')
    (h1 : ¬ C b) (h2 : ∀ g, sv.ownBlock = some g → ¬ C g) (h3 : ∀ g, wv.ownBlock = some g → ¬ C g) : NetAt B b nodes S sv wv M k w' := by
  obtain ⟨hB, ⟨hb, hco, hM, L, hL, hh, ho⟩, hs, hk⟩ := h
  exact ⟨hB, ⟨hb.only hc h1, hco, hM, L, hL, hh, own_only ho hc h3⟩, own_only hs hc h2, hk⟩
theorem NetAt.blk {B b : Nat} {nodes : Int} {S : List Tr} {sv wv : Value} {M : List Pcl} {k : Nat} {w : World} (h : NetAt B b nodes S sv wv M k w) : Blk w b 53 #[.int .i64 nodes, sv, wv, .int .i64 k] := h.2.1.1
theorem NetAt.waits {B b : Nat} {nodes : Int} {S : List Tr} {sv wv : Value} {M : List Pcl} {k : Nat} {w : World} (h : NetAt B b nodes S sv wv M k w) : ∃ L : List Pcl, L.length = M.length ∧ w.ownsRow B 67 5 wv M.length (L.flatMap pc) := by
  obtain ⟨hB, ⟨hb, hco, hM, L, hL, hh, ho⟩, hs, hk⟩ := h
  exact ⟨L, hL.length_eq, by rw [← hL.length_eq]; exact ho⟩

def NewPost (nodes : Int) (S : List Tr) (w : World) (e : Ending) (w' : World) : Prop :=
  ∃ b sv, e = .returned (.pointer (some ⟨b, 0, none⟩)) ∧ NetAt w.heap.size b nodes S sv (.slice none 0 0) [] 0 w' ∧ Below w.heap.size w w'
set_option maxHeartbeats 400000 in
theorem new_any {B : Nat} (nodes : Int) {v : Value} {S : List Tr} {w : World} (hown : w.ownsRow B 42 3 v S.length (S.flatMap tc)) (_hn : S.length ≤ 1000000) :
    Calls Try.prog 12 #[.int .i64 nodes, v] w (NewPost nodes S w) := by
  have HO := Lib.hid hown
  clear hown
  go_enter Try.func12, Try.ntmps12
  go_wp2_with (go_at_call 20; refine (clone_any HO.out _hn).mono ?_; rintro e w1 ⟨v', rfl, ho1, hb1⟩; obtain ⟨A, cap, rfl, _, _⟩ := own_form' ho1; have HO1 := Lib.hid ho1; clear ho1)
  go_ret
  refine ⟨w1.heap.size, .slice A S.length cap, rfl, ⟨hb1.size, ⟨Blk.new _ _ _, rfl, List.Pairwise.nil, [], List.Perm.refl _, fun k h0 h1 => by simp at h1, World.ownsRow_nil _ _ _ _⟩, HO1.out.alloc _, fun q hq => by cases hq⟩, hb1.alloc hb1.size _⟩

set_option maxHeartbeats 400000 in
theorem queue_any (b : Nat) (w : World) :
    Calls Try.prog 23 #[.pointer (some ⟨b, 0, none⟩)] w fun e w' => e = .returned (.iface 75 (.pointer (some ⟨b, 2, none⟩))) ∧ w = w' := by
  go_enter Try.func23, Try.ntmps23
  go_wp2
  go_ret
  exact ⟨rfl, rfl⟩
set_option maxHeartbeats 400000 in
theorem waiting_nil (w : World) :
    Calls Try.prog 18 #[.pointer none] w fun e w' => e = .returned (.int .i64 0) ∧ w = w' := by
  go_enter Try.func18, Try.ntmps18
  go_wp2
  go_ret
  exact ⟨rfl, rfl⟩
set_option maxHeartbeats 400000 in
theorem waiting_any {B b : Nat} {nodes : Int} {S : List Tr} {sv wv : Value} {M : List Pcl} {k : Nat} {w : World} (h : NetAt B b nodes S sv wv M k w) :
    Calls Try.prog 18 #[.pointer (some ⟨b, 0, none⟩)] w fun e w' => e = .returned (.int .i64 M.length) ∧ w = w' := by
  obtain ⟨L, hL, ho⟩ := h.waits
  obtain ⟨A, cap, rfl, _, _⟩ := own_form' ho
  have hml := met_len' (h.blk.cell 2)
  have HL := Lib.hid hL
  clear ho h hL
  go_enter Try.func18, Try.ntmps18
  go_wp2_with (first
    | (go_at_call 23; refine (queue_any _ _).mono ?_; rintro e w1 ⟨rfl, rfl⟩)
    | (go_at_call 43; refine (len_any _ _ _ _).mono ?_; rintro e w1 ⟨rfl, rfl⟩))
  go_ret
  exact ⟨rfl, rfl⟩

def trAt (S : List Tr) (k : Nat) : Tr := if S.length = 0 then ⟨false, 1, 1⟩ else (S[k % S.length]?).getD ⟨false, 1, 1⟩
set_option maxHeartbeats 400000 in
theorem trouble_any {B b : Nat} {nodes : Int} {S : List Tr} {sv wv : Value} {M : List Pcl} {k : Nat} {w : World} (h : NetAt B b nodes S sv wv M k w) (_hn : S.length ≤ 1000000) (_hk : k ≤ 1000000) :
    Calls Try.prog 21 #[.pointer (some ⟨b, 0, none⟩)] w fun e w' => e = .returned (tagg (trAt S k)) ∧ Below w.heap.size w w' := by
  have hs := h.2.2.1
  have c1 := h.blk.cell 1
  have c3 := h.blk.cell 3
  have lb := h.blk.lt
  simp only [List.getElem?_toArray, List.getElem?_cons_zero, List.getElem?_cons_succ] at c1 c3
  obtain ⟨A, cap, rfl, _, _⟩ := own_form' hs
  by_cases hl : S.length = 0
  · rw [show trAt S k = ⟨false, 1, 1⟩ from if_pos hl]
    rw [hl] at c1
    clear h hs hl
    unfold tagg
    go_enter Try.func21, Try.ntmps21
    go_wp2
    refine bodyPost_ret (v := .agg #[.bool false, .int .i64 1, .int .i64 1]) (by simp [results, Try.results21, go_sem]) rfl ⟨rfl, (Below.refl _ _).alloc (Nat.le_refl _) _⟩
  · obtain ⟨g, cap', he, hg1, hg2, hc1, hc2⟩ := own_form hs (by omega)
    obtain ⟨i, hi⟩ : ∃ i, i = k % S.length := ⟨_, rfl⟩
    have hil : i < S.length := by rw [hi]; exact Nat.mod_lt _ (by omega)
    have ei : (k : Int) % (S.length : Int) = (i : Int) := by rw [hi]; exact (Int.natCast_emod k S.length).symm
    have hget := List.getElem?_eq_getElem hil
    have ht : trAt S k = S[i] := by rw [trAt, if_neg hl, ← hi, hget]; rfl
    rw [ht]
    generalize S[i] = t at hget
    injection he with he1 he2
    subst he1
    have d0 := (hs.cellAt (i * 3 + 0) (by omega)).trans (flat_get tc_len S i 0 (by omega) t hget)
    have d1 := (hs.cellAt (i * 3 + 1) (by omega)).trans (flat_get tc_len S i 1 (by omega) t hget)
    have d2 := (hs.cellAt (i * 3 + 2) (by omega)).trans (flat_get tc_len S i 2 (by omega) t hget)
    simp only [tc, List.getElem?_cons_zero, List.getElem?_cons_succ, Nat.add_zero] at d0 d1 d2
    have hl0 : (((S.length : Nat) : Int) == 0) = false := beq_eq_false_iff_ne.2 (by omega)
    have hpos : 0 < S.length := Nat.pos_of_ne_zero hl
    clear h hs ht hget hi hl he2
    unfold tagg
    go_enter Try.func21, Try.ntmps21
    go_wp2
    go_region
    all_goals
      go_wp2
      refine bodyPost_ret (v := .agg #[.bool t.lost, .int .i64 t.copies, .int .i64 t.delay]) (by simp [results, Try.results21, go_sem]) rfl ⟨rfl, ?_⟩
      exact ((Below.refl _ _).alloc (Nat.le_refl _) _).drew
end Go.Proofs.Ytoaddfmbjehhoaa
