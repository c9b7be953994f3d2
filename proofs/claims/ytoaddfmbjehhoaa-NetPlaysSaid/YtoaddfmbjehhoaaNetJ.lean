/- What is proved here: the net's functions, packed for the laws. Conditions: the slices are the call's own, and short; the times are small. -/
import Derived.Test.YtoaddfmbjehhoaaNetI
import Derived.Test.YtoaddfmbjehhoaaNetP
namespace Go.Proofs.Ytoaddfmbjehhoaa
open Go.RowKit

def hd (M : List Pcl) : Pcl := M.head?.getD ⟨0, 0, ⟨#[]⟩, 0, 0⟩
def gotV (M : List Pcl) : Value := .tuple #[msg (hd M).fr (hd M).tgt (hd M).tx, .int .i64 (hd M).due, .bool (!M.isEmpty)]

theorem next_all {B b : Nat} {nodes : Int} {S : List Tr} {sv wv : Value} {M : List Pcl} {k : Nat} {w : World} (h : NetAt B b nodes S sv wv M k w) (hM : M.length ≤ 90000) :
    Calls Try.prog 16 #[.pointer (some ⟨b, 0, none⟩)] w fun e w' => e = .returned (gotV M) ∧ ∃ wv', NetAt B b nodes S sv wv' M.tail k w' ∧ wv'.ownBlock = wv.ownBlock ∧ Only (fun i => i = b ∨ wv.ownBlock = some i) w w' := by
  cases M with
  | nil => exact (next_empty h).mono fun _ _ ⟨he, hb⟩ => ⟨he, wv, h.only (Only.of_below hb NoneOf) (fun h => h) (fun _ _ h => h) (fun _ _ h => h), rfl, Only.of_below hb _⟩
  | cons p M =>
    simp only [List.length_cons] at hM
    exact (next_any h (by omega)).mono fun _ _ ⟨he, wv', h1, h2, h3⟩ => ⟨he, wv', h1, h2, h3⟩

/-- Blocks of other types than the net's own stay. -/
def Kp (W W' : World) : Prop := ∀ g t cs, t ≠ 53 → t ≠ 67 → Blk W g t cs → Blk W' g t cs
theorem Kp.refl (W : World) : Kp W W := fun _ _ _ _ _ h => h
theorem Kp.of_only {W W' : World} (h : Only NoneOf W W') : Kp W W' := fun _ _ _ _ _ hb => hb.only h (fun h => h)
theorem Kp.trans {W W' W'' : World} (h : Kp W W') (k : Kp W' W'') : Kp W W'' := fun g t cs h1 h2 hb => k g t cs h1 h2 (h g t cs h1 h2 hb)

def Nt (B b : Nat) (nodes : Int) (S : List Tr) (M : List Pcl) (k : Nat) (W : World) : Prop := ∃ sv wv, NetAt B b nodes S sv wv M k W
section
variable {B b : Nat} {nodes : Int} {S : List Tr} {M : List Pcl} {k : Nat} {W W' : World}
theorem Nt.only (h : Nt B b nodes S M k W) (ho : Only NoneOf W W') : Nt B b nodes S M k W' := by
  obtain ⟨sv, wv, h⟩ := h
  exact ⟨sv, wv, h.only ho (fun h => h) (fun _ _ h => h) (fun _ _ h => h)⟩
theorem Nt.below (h : Nt B b nodes S M k W) (ho : Below W.heap.size W W') : Nt B b nodes S M k W' := h.only (Only.of_below ho _)
theorem nt_send (h : Nt B b nodes S M k W) (now fr tgt : Int) (tx : ByteArray) (hB : B ≤ W.heap.size) (hn : S.length ≤ 1000000) (hk : k ≤ 1000000)
    (hM : M.length ≤ 90000) (h1 : -1000000000 ≤ now) (h2 : now ≤ 1000000000) (h3 : (trAt S k).delay ≤ 1000000000) :
    Calls Try.prog 14 #[.pointer (some ⟨b, 0, none⟩), .int .i64 now, msg fr tgt tx] W fun e W' => e = .returned (.tuple #[]) ∧ Nt B b nodes S (sendM nodes S k now fr tgt tx M) (k + 1) W' ∧ Below B W W' ∧ Kp W W' := by
  obtain ⟨sv, wv, h⟩ := h
  refine (send_any now fr tgt tx h hB hn hk hM h1 h2 h3).mono ?_
  rintro e W' ⟨rfl, wv', hN, _, ho⟩
  exact ⟨rfl, ⟨sv, wv', hN⟩, only_net_below h ho, fun g t cs t1 t2 hb => blk_net hb h ho t1 t2⟩
theorem nt_next (h : Nt B b nodes S M k W) (hM : M.length ≤ 90000) :
    Calls Try.prog 16 #[.pointer (some ⟨b, 0, none⟩)] W fun e W' => e = .returned (gotV M) ∧ Nt B b nodes S M.tail k W' ∧ Below B W W' ∧ Kp W W' := by
  obtain ⟨sv, wv, h⟩ := h
  refine (next_all h hM).mono ?_
  rintro e W' ⟨rfl, wv', hN, _, ho⟩
  exact ⟨rfl, ⟨sv, wv', hN⟩, only_net_below h ho, fun g t cs t1 t2 hb => blk_net hb h ho t1 t2⟩
theorem nt_waiting (h : Nt B b nodes S M k W) : Calls Try.prog 18 #[.pointer (some ⟨b, 0, none⟩)] W fun e W' => e = .returned (.int .i64 M.length) ∧ W = W' := by
  obtain ⟨sv, wv, h⟩ := h
  exact waiting_any h
theorem nt_new (nodes : Int) {v : Value} (hown : W.ownsRow B 42 3 v S.length (S.flatMap tc)) (hn : S.length ≤ 1000000) :
    Calls Try.prog 12 #[.int .i64 nodes, v] W fun e W' => ∃ b, e = .returned (.pointer (some ⟨b, 0, none⟩)) ∧ Nt W.heap.size b nodes S [] 0 W' ∧ Below W.heap.size W W' := by
  refine (new_any nodes hown hn).mono ?_
  rintro e W' ⟨b, sv, rfl, hN, hb⟩
  exact ⟨b, rfl, ⟨sv, _, hN⟩, hb⟩
theorem Nt.base {B' : Nat} (h : Nt B b nodes S M k W) (hB : B' ≤ B) : Nt B' b nodes S M k W := by
  obtain ⟨sv, wv, h⟩ := h
  exact ⟨sv, wv, h.base hB⟩
end
end Go.Proofs.Ytoaddfmbjehhoaa
