/- What is proved here: the net beside the reference net. Conditions: the slices are the call's own, and short; the times are small. -/
import Derived.Test.YtoaddfmbjehhoaaNetS
namespace Go.Proofs.Ytoaddfmbjehhoaa
open Go.RowKit

def Rf (B b : Nat) (nodes : Int) (S : List Tr) (R : List Pcl) (k : Nat) (W : World) : Prop := ∃ sv lv, RefAt B b nodes S sv lv R k W
section
variable {B b b1 : Nat} {nodes n1 : Int} {S S1 : List Tr} {M R : List Pcl} {k k1 : Nat} {W W' : World}
theorem own_kp {e : TypeId} {size n : Nat} {v : Value} {xs : List Value} (h : W.ownsRow B e size v n xs) (hk : Kp W W') (h1 : e ≠ 53) (h2 : e ≠ 67) : W'.ownsRow B e size v n xs := by
  refine ⟨h.1, ?_⟩
  rcases h.2 with h0 | ⟨g, cap, cur, rfl, hb, hh, hr⟩
  · exact .inl h0
  · exact .inr ⟨g, cap, cur, rfl, hb, hk g e _ h1 h2 hh, hr⟩
theorem Rf.kp (h : Rf B b nodes S R k W) (hk : Kp W W') : Rf B b nodes S R k W' := by
  obtain ⟨sv, lv, h⟩ := h
  exact ⟨sv, lv, h.1, hk b 60 _ (by decide) (by decide) h.2.1, own_kp h.2.2.1 hk (by decide) (by decide), own_kp h.2.2.2 hk (by decide) (by decide)⟩
theorem Rf.only (h : Rf B b nodes S R k W) (ho : Only NoneOf W W') : Rf B b nodes S R k W' := by
  obtain ⟨sv, lv, h⟩ := h
  exact ⟨sv, lv, h.none_ ho⟩
theorem Rf.base {B' : Nat} (h : Rf B b nodes S R k W) (hB : B' ≤ B) : Rf B' b nodes S R k W := by
  obtain ⟨sv, lv, h⟩ := h
  exact ⟨sv, lv, by have := h.1; omega, h.2.1, own_base h.2.2.1 hB, own_base h.2.2.2 hB⟩
/-- Blocks of other types than the reference's own stay. -/
def Kq (W W' : World) : Prop := ∀ g t cs, t ≠ 60 → t ≠ 69 → Blk W g t cs → Blk W' g t cs
theorem ref_net {sv lv : Value} (h : RefAt B b nodes S sv lv R k W) (hN : Nt B b1 n1 S1 M k1 W) (ho : Only (fun i => i = b ∨ lv.ownBlock = some i) W W') : Nt B b1 n1 S1 M k1 W' ∧ Below B W W' ∧ Kq W W' := by
  obtain ⟨s1, w1, hN⟩ := hN
  obtain ⟨L1, _, hr1⟩ := hN.waits
  refine ⟨⟨s1, w1, hN.only ho ?_ ?_ ?_⟩, ?_, ?_⟩
  · rintro (e | e)
    · exact hN.blk.ne_ h.2.1 (by decide) e
    · exact own_blk_ne h.2.2.2 hN.blk (by decide) e
  · rintro g hg (e | e)
    · exact own_blk_ne hN.2.2.1 h.2.1 (by decide) (by rw [hg, e])
    · exact own_own_ne h.2.2.2 hN.2.2.1 (by decide) e hg
  · rintro g hg (e | e)
    · exact own_blk_ne hr1 h.2.1 (by decide) (by rw [hg, e])
    · exact own_own_ne h.2.2.2 hr1 (by decide) e hg
  · refine ho.below (by have := h.1; have := h.2.1.lt; omega) (fun i hi => ?_)
    rcases hi with rfl | e
    · exact h.1
    · exact (h.2.2.2.lt i e).1
  · refine fun g t cs t1 t2 hb => hb.only ho ?_
    rintro (e | e)
    · exact hb.ne_ h.2.1 t1 e
    · exact own_blk_ne h.2.2.2 hb (Ne.symm t2) e
theorem rf_send (h : Rf B b nodes S R k W) (hN : Nt B b1 n1 S1 M k1 W) (now fr tw : Int) (tx : ByteArray) (hB : B ≤ W.heap.size) (hn : S.length ≤ 1000000) (hk : k ≤ 1000000)
    (hM : R.length ≤ 90000) (h1 : -1000000000 ≤ now) (h2 : now ≤ 1000000000) (h3 : (trAt S k).delay ≤ 1000000000) :
    Calls Try.prog 15 #[.pointer (some ⟨b, 0, none⟩), .int .i64 now, msg fr tw tx] W fun e W' => e = .returned (.tuple #[]) ∧ Rf B b nodes S (sendR nodes S k now fr tw tx R) (k + 1) W' ∧ Nt B b1 n1 S1 M k1 W' ∧ Below B W W' ∧ Kq W W' := by
  obtain ⟨sv, lv, h⟩ := h
  refine (rsend_any now fr tw tx h hB hn hk hM h1 h2 h3).mono ?_
  rintro e W' ⟨rfl, lv', hR, _, ho⟩
  obtain ⟨r1, r2⟩ := ref_net h hN ho
  exact ⟨rfl, ⟨sv, lv', hR⟩, r1, r2⟩
theorem erase_perm {i : Nat} {p : Pcl} (h : R[i]? = some p) : R.Perm (p :: R.eraseIdx i) := by
  induction R generalizing i with
  | nil => simp at h
  | cons a R ih =>
    cases i with
    | zero => simp at h; subst h; simp
    | succ i =>
      simp only [List.getElem?_cons_succ] at h
      exact ((ih h).cons a).trans (List.Perm.swap _ _ _)
theorem min_head {i : Nat} {p : Pcl} (hi : R[i]? = some p) (hmin : ∀ q ∈ R, ¬ Lt q p) (hp : R.Perm M) (hs : Sorted M) : gotV [p] = gotV M ∧ (R.eraseIdx i).Perm M.tail := by
  have hpM : p ∈ M := hp.mem_iff.1 (List.mem_of_getElem? hi)
  cases M with
  | nil => cases hpM
  | cons m T =>
    have hpm : p = m := by
      rcases List.mem_cons.1 hpM with h | h
      · exact h
      · exact absurd ((List.pairwise_cons.1 hs).1 p h) (hmin m (hp.mem_iff.2 (List.mem_cons_self ..)))
    subst hpm
    exact ⟨rfl, List.Perm.cons_inv ((erase_perm hi).symm.trans hp)⟩
theorem rf_next {M0 : List Pcl} (h : Rf B b nodes S R k W) (hN : Nt B b1 n1 S1 M k1 W) (hp : R.Perm M0) (hs : Sorted M0) (hB : B ≤ W.heap.size) (hn : R.length ≤ 100000) :
    Calls Try.prog 17 #[.pointer (some ⟨b, 0, none⟩)] W fun e W' => e = .returned (gotV M0) ∧ ∃ R' : List Pcl, Rf B b nodes S R' k W' ∧ R'.Perm M0.tail ∧ Nt B b1 n1 S1 M k1 W' ∧ Below B W W' ∧ Kq W W' := by
  obtain ⟨sv, lv, h⟩ := h
  refine (rnext_any h hB hn).mono ?_
  rintro e W' (⟨rfl, rfl, hR, ho⟩ | ⟨i, p, lv', hi, hmin, rfl, hR, ho⟩)
  · have hM0 : M0 = [] := List.eq_nil_of_length_eq_zero (by rw [← hp.length_eq]; rfl)
    subst hM0
    obtain ⟨r1, r2⟩ := ref_net h hN (ho.mono (fun i _ h => h.elim))
    exact ⟨rfl, [], ⟨sv, lv, hR⟩, hp, r1, r2⟩
  · obtain ⟨r1, r2⟩ := ref_net h hN (ho.mono (fun i _ h => .inl h))
    obtain ⟨e1, e2⟩ := min_head hi hmin hp hs
    exact ⟨by rw [e1], _, ⟨sv, lv', hR⟩, e2, r1, r2⟩
theorem rf_waiting (h : Rf B b nodes S R k W) : Calls Try.prog 19 #[.pointer (some ⟨b, 0, none⟩)] W fun e W' => e = .returned (.int .i64 R.length) ∧ W = W' := by
  obtain ⟨sv, lv, h⟩ := h
  exact rwaiting_any h
theorem rf_new (nodes : Int) {v : Value} (hown : W.ownsRow B 42 3 v S.length (S.flatMap tc)) (hn : S.length ≤ 1000000) :
    Calls Try.prog 13 #[.int .i64 nodes, v] W fun e W' => ∃ b, e = .returned (.pointer (some ⟨b, 0, none⟩)) ∧ Rf W.heap.size b nodes S [] 0 W' ∧ Below W.heap.size W W' := by
  refine (rnew_any nodes hown hn).mono ?_
  rintro e W' ⟨b, sv, rfl, hN, hb⟩
  exact ⟨b, rfl, ⟨sv, _, hN⟩, hb⟩
end
end Go.Proofs.Ytoaddfmbjehhoaa
