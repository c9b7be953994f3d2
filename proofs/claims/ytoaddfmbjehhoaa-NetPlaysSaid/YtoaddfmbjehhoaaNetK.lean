/- What is proved here: two nets beside each other: what is done with the one leaves the other alone. Conditions: the slices are the call's own, and short; the times are small. -/
import Derived.Test.YtoaddfmbjehhoaaNetJ
namespace Go.Proofs.Ytoaddfmbjehhoaa
open Go.RowKit

def Pair (B b1 : Nat) (n1 : Int) (S1 : List Tr) (M1 : List Pcl) (k1 : Nat) (b2 : Nat) (n2 : Int) (S2 : List Tr) (M2 : List Pcl) (k2 : Nat) (W : World) : Prop :=
  ∃ s1 w1 s2 w2, NetAt B b1 n1 S1 s1 w1 M1 k1 W ∧ NetAt B b2 n2 S2 s2 w2 M2 k2 W ∧ b1 ≠ b2 ∧ ∀ g, w1.ownBlock = some g → w2.ownBlock ≠ some g
section
variable {B b1 b2 : Nat} {n1 n2 : Int} {S1 S2 : List Tr} {M1 M2 : List Pcl} {k1 k2 : Nat} {W W' : World}
theorem Pair.swap (h : Pair B b1 n1 S1 M1 k1 b2 n2 S2 M2 k2 W) : Pair B b2 n2 S2 M2 k2 b1 n1 S1 M1 k1 W := by
  obtain ⟨s1, w1, s2, w2, h1, h2, h3, h4⟩ := h
  exact ⟨s2, w2, s1, w1, h2, h1, h3.symm, fun g hg e => h4 g e hg⟩
theorem Pair.only (h : Pair B b1 n1 S1 M1 k1 b2 n2 S2 M2 k2 W) (ho : Only NoneOf W W') : Pair B b1 n1 S1 M1 k1 b2 n2 S2 M2 k2 W' := by
  obtain ⟨s1, w1, s2, w2, h1, h2, h3, h4⟩ := h
  exact ⟨s1, w1, s2, w2, h1.only ho (fun h => h) (fun _ _ h => h) (fun _ _ h => h), h2.only ho (fun h => h) (fun _ _ h => h) (fun _ _ h => h), h3, h4⟩
theorem net_beside {s1 w1 s2 w2 : Value} (h1 : NetAt B b1 n1 S1 s1 w1 M1 k1 W) (h2 : NetAt B b2 n2 S2 s2 w2 M2 k2 W) (h3 : b1 ≠ b2) (h4 : ∀ g, w1.ownBlock = some g → w2.ownBlock ≠ some g)
    (ho : Only (fun i => i = b1 ∨ w1.ownBlock = some i) W W') : NetAt B b2 n2 S2 s2 w2 M2 k2 W' := by
  obtain ⟨L1, _, hr1⟩ := h1.waits
  obtain ⟨L2, _, hr2⟩ := h2.waits
  refine h2.only ho ?_ ?_ ?_
  · rintro (e | e)
    · exact h3 e.symm
    · exact own_blk_ne hr1 h2.blk (by decide) e
  · rintro g hg (e | e)
    · exact own_blk_ne h2.2.2.1 h1.blk (by decide) (by rw [hg, e])
    · exact own_own_ne hr1 h2.2.2.1 (by decide) e hg
  · rintro g hg (e | e)
    · exact own_blk_ne hr2 h1.blk (by decide) (by rw [hg, e])
    · exact h4 g e hg
theorem pair_send (h : Pair B b1 n1 S1 M1 k1 b2 n2 S2 M2 k2 W) (now fr tgt : Int) (tx : ByteArray) (hB : B ≤ W.heap.size) (hn : S1.length ≤ 1000000) (hk : k1 ≤ 1000000)
    (hM : M1.length ≤ 90000) (hl1 : -1000000000 ≤ now) (hl2 : now ≤ 1000000000) (hl3 : (trAt S1 k1).delay ≤ 1000000000) :
    Calls Try.prog 14 #[.pointer (some ⟨b1, 0, none⟩), .int .i64 now, msg fr tgt tx] W fun e W' => e = .returned (.tuple #[]) ∧ Pair B b1 n1 S1 (sendM n1 S1 k1 now fr tgt tx M1) (k1 + 1) b2 n2 S2 M2 k2 W' ∧ Below B W W' ∧ Kp W W' := by
  obtain ⟨s1, w1, s2, w2, h1, h2, h3, h4⟩ := h
  refine (send_any now fr tgt tx h1 hB hn hk hM hl1 hl2 hl3).mono ?_
  rintro e W' ⟨rfl, wv', hN, hw, ho⟩
  refine ⟨rfl, ⟨s1, wv', s2, w2, hN, net_beside h1 h2 h3 h4 ho, h3, ?_⟩, only_net_below h1 ho, fun g t cs t1 t2 hb => blk_net hb h1 ho t1 t2⟩
  intro g hg e
  rcases hw with hw | ⟨g', hg', hlt⟩
  · exact h4 g (by rw [← hw]; exact hg) e
  · rw [hg'] at hg
    injection hg with hg
    obtain ⟨L2, _, hr2⟩ := h2.waits
    have := (hr2.lt g e).2
    omega
theorem pair_next (h : Pair B b1 n1 S1 M1 k1 b2 n2 S2 M2 k2 W) (hM : M1.length ≤ 90000) :
    Calls Try.prog 16 #[.pointer (some ⟨b1, 0, none⟩)] W fun e W' => e = .returned (gotV M1) ∧ Pair B b1 n1 S1 M1.tail k1 b2 n2 S2 M2 k2 W' ∧ Below B W W' ∧ Kp W W' := by
  obtain ⟨s1, w1, s2, w2, h1, h2, h3, h4⟩ := h
  refine (next_all h1 hM).mono ?_
  rintro e W' ⟨rfl, wv', hN, hw, ho⟩
  exact ⟨rfl, ⟨s1, wv', s2, w2, hN, net_beside h1 h2 h3 h4 ho, h3, fun g hg => h4 g (by rw [← hw]; exact hg)⟩, only_net_below h1 ho, fun g t cs t1 t2 hb => blk_net hb h1 ho t1 t2⟩
theorem pair_send2 (h : Pair B b1 n1 S1 M1 k1 b2 n2 S2 M2 k2 W) (now fr tgt : Int) (tx : ByteArray) (hB : B ≤ W.heap.size) (hn : S2.length ≤ 1000000) (hk : k2 ≤ 1000000)
    (hM : M2.length ≤ 90000) (hl1 : -1000000000 ≤ now) (hl2 : now ≤ 1000000000) (hl3 : (trAt S2 k2).delay ≤ 1000000000) :
    Calls Try.prog 14 #[.pointer (some ⟨b2, 0, none⟩), .int .i64 now, msg fr tgt tx] W fun e W' => e = .returned (.tuple #[]) ∧ Pair B b1 n1 S1 M1 k1 b2 n2 S2 (sendM n2 S2 k2 now fr tgt tx M2) (k2 + 1) W' ∧ Below B W W' ∧ Kp W W' :=
  (pair_send h.swap now fr tgt tx hB hn hk hM hl1 hl2 hl3).mono fun _ _ ⟨a, b, c⟩ => ⟨a, b.swap, c⟩
theorem pair_next2 (h : Pair B b1 n1 S1 M1 k1 b2 n2 S2 M2 k2 W) (hM : M2.length ≤ 90000) :
    Calls Try.prog 16 #[.pointer (some ⟨b2, 0, none⟩)] W fun e W' => e = .returned (gotV M2) ∧ Pair B b1 n1 S1 M1 k1 b2 n2 S2 M2.tail k2 W' ∧ Below B W W' ∧ Kp W W' :=
  (pair_next h.swap hM).mono fun _ _ ⟨a, b, c⟩ => ⟨a, b.swap, c⟩
theorem pair_waiting (h : Pair B b1 n1 S1 M1 k1 b2 n2 S2 M2 k2 W) : Calls Try.prog 18 #[.pointer (some ⟨b1, 0, none⟩)] W fun e W' => e = .returned (.int .i64 M1.length) ∧ W = W' := by
  obtain ⟨s1, w1, s2, w2, h1, h2, h3, h4⟩ := h
  exact waiting_any h1
theorem pair_waiting2 (h : Pair B b1 n1 S1 M1 k1 b2 n2 S2 M2 k2 W) : Calls Try.prog 18 #[.pointer (some ⟨b2, 0, none⟩)] W fun e W' => e = .returned (.int .i64 M2.length) ∧ W = W' := pair_waiting h.swap
/-- Two new nets. -/
theorem pair_new {s1 s2 : Value} {B1 B2 : Nat} {W1 W2 : World} (h1 : NetAt B1 b1 n1 S1 s1 (.slice none 0 0) M1 k1 W1) (hb : Below W1.heap.size W1 W2) (h2 : NetAt B2 b2 n2 S2 s2 (.slice none 0 0) M2 k2 W2) (hB : W1.heap.size ≤ B2) (hB1 : B ≤ B1) (hB2 : B ≤ B2) :
    Pair B b1 n1 S1 M1 k1 b2 n2 S2 M2 k2 W2 := by
  refine ⟨s1, _, s2, _, (h1.only (Only.of_below hb NoneOf) (fun h => h) (fun _ _ h => h) (fun _ _ h => h)).base hB1, h2.base hB2, ?_, fun g hg => by cases hg⟩
  have := h1.blk.lt
  have := h2.1
  omega
end
theorem sc_trAt (L : List Tr) (k : Nat) : (trAt (sc L) k).delay ≤ 1000000000 := by
  unfold trAt
  split
  · decide
  · rename_i h
    have hlt : k % (sc L).length < (sc L).length := Nat.mod_lt _ (by omega)
    rw [List.getElem?_eq_getElem hlt]
    have := (sc_delay L _ (List.getElem_mem hlt)).2
    simp only [Option.getD_some]
    omega
end Go.Proofs.Ytoaddfmbjehhoaa
