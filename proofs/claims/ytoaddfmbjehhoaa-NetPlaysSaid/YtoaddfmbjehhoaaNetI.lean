/- What is proved here: that the laws' own function sanity answers true. No conditions. -/
import Derived.Test.YtoaddfmbjehhoaaNetH
namespace Go.Proofs.Ytoaddfmbjehhoaa
open Go.RowKit
attribute [local go_sem ↓] Go.wp_at_zero Go.wp_at_succ

theorem only_net_below {B b : Nat} {nodes : Int} {S : List Tr} {sv wv : Value} {M : List Pcl} {k : Nat} {w w2 : World} (hN : NetAt B b nodes S sv wv M k w) (ho : Only (fun i => i = b ∨ wv.ownBlock = some i) w w2) : Below B w w2 := by
  obtain ⟨L, hL, hw⟩ := hN.waits
  refine ⟨ho.os, ho.tape, ho.output, ho.size, fun i hi => ho.block i ?_ ?_⟩
  · have := hN.1; have := hN.blk.lt; omega
  · rintro (h | h)
    · have := hN.1; omega
    · have := (hw.lt i h).1; omega
theorem blk_net {B b : Nat} {nodes : Int} {S : List Tr} {sv wv : Value} {M : List Pcl} {k : Nat} {w w2 : World} {g : Nat} {t : TypeId} {cs : Array Value} (h : Blk w g t cs) (hN : NetAt B b nodes S sv wv M k w)
    (ho : Only (fun i => i = b ∨ wv.ownBlock = some i) w w2) (h1 : t ≠ 53) (h2 : t ≠ 67) : Blk w2 g t cs := by
  obtain ⟨L, hL, hw⟩ := hN.waits
  refine h.only ho ?_
  rintro (e | e)
  · exact h.ne_ hN.blk h1 e
  · exact own_blk_ne hw h (Ne.symm h2) e

def S0 : List Tr := [⟨false, 0, 5⟩, ⟨true, 0, 0⟩, ⟨false, 2, 0⟩]
def tm (k : Nat) : Int := [10, 11, 12, 12].getD k 0
def sM : Nat → List Pcl
  | 0 => []
  | k + 1 => sendM 2 S0 k (tm k) k 1 ⟨#[]⟩ (sM k)
theorem sM4 : sM 4 = [⟨2, 1, ⟨#[]⟩, 12, 2⟩, ⟨2, 1, ⟨#[]⟩, 13, 2⟩, ⟨0, 1, ⟨#[]⟩, 15, 0⟩, ⟨3, 1, ⟨#[]⟩, 17, 3⟩] := by kernel_rfl
theorem S0_delay (k : Nat) : (trAt S0 k).delay ≤ 1000000000 := by
  unfold trAt
  rw [if_neg (by decide)]
  have h : k % S0.length < 3 := Nat.mod_lt _ (by decide)
  generalize k % S0.length = i at h
  match i, h with
  | 0, _ => decide
  | 1, _ => decide
  | 2, _ => decide
theorem addM_le (p : Pcl) (M : List Pcl) (t : Tr) : (addM p (copies t) M).length ≤ M.length + 8 := by
  rw [addM_len]; unfold copies; omega
theorem sendM_len (nodes : Int) (S : List Tr) (k : Nat) (now fr tgt : Int) (tx : ByteArray) (M : List Pcl) : (sendM nodes S k now fr tgt tx M).length ≤ M.length + 8 := by
  unfold sendM
  split
  · omega
  · exact addM_le _ _ _
theorem sM_len (k : Nat) : (sM k).length ≤ 8 * k := by
  induction k with
  | zero => simp [sM]
  | succ k ih => unfold sM; have := sendM_len 2 S0 k (tm k) k 1 ⟨#[]⟩ (sM k); omega

def SanSend (w : World) (b ht k : Nat) (wr : World) : Prop :=
  ∃ sv wv, NetAt w.heap.size b 2 S0 sv wv (sM k) k wr ∧ Below w.heap.size w wr ∧ Blk wr ht 3 #[.int .i64 10, .int .i64 11, .int .i64 12, .int .i64 12]
def SanNext (w : World) (b ht hw k : Nat) (wr : World) : Prop :=
  ∃ sv wv, NetAt w.heap.size b 2 S0 sv wv ((sM 4).drop k) 4 wr ∧ Below w.heap.size w wr ∧ Blk wr hw 56 #[.int .i64 2, .int .i64 12, .int .i64 2, .int .i64 13, .int .i64 0, .int .i64 15, .int .i64 3, .int .i64 17]

theorem NetAt.base {B B' b : Nat} {nodes : Int} {S : List Tr} {sv wv : Value} {M : List Pcl} {k : Nat} {w : World} (h : NetAt B b nodes S sv wv M k w) (hB : B' ≤ B) : NetAt B' b nodes S sv wv M k w := by
  obtain ⟨h1, ⟨hb, hco, hM, L, hL, hh, ho⟩, hs, hk⟩ := h
  exact ⟨by omega, ⟨hb, hco, hM, L, hL, hh, own_base ho hB⟩, own_base hs hB, hk⟩
theorem tm_cell (k : Nat) (h : k < 4) : (#[Value.int .i64 10, Value.int .i64 11, Value.int .i64 12, Value.int .i64 12] : Array Value)[k]? = some (.int .i64 (tm k)) := by
  match k, h with
  | 0, _ => rfl
  | 1, _ => rfl
  | 2, _ => rfl
  | 3, _ => rfl
theorem tm_bd (k : Nat) (h : k < 4) : 0 ≤ tm k ∧ tm k ≤ 12 := by
  match k, h with
  | 0, _ => decide
  | 1, _ => decide
  | 2, _ => decide
  | 3, _ => decide
def wa (k : Nat) : Int := [2, 2, 0, 3].getD k 0
def wb (k : Nat) : Int := [12, 13, 15, 17].getD k 0
theorem want_at (k : Nat) (h : k < 4) : ∃ p, (sM 4).drop k = p :: (sM 4).drop (k + 1) ∧ p.fr = wa k ∧ p.due = wb k ∧
    (#[Value.int .i64 2, Value.int .i64 12, Value.int .i64 2, Value.int .i64 13, Value.int .i64 0, Value.int .i64 15, Value.int .i64 3, Value.int .i64 17] : Array Value)[k * 2]? = some (.int .i64 (wa k)) ∧
    (#[Value.int .i64 2, Value.int .i64 12, Value.int .i64 2, Value.int .i64 13, Value.int .i64 0, Value.int .i64 15, Value.int .i64 3, Value.int .i64 17] : Array Value)[k * 2 + 1]? = some (.int .i64 (wb k)) := by
  rw [sM4]
  match k, h with
  | 0, _ => exact ⟨_, rfl, rfl, rfl, rfl, rfl⟩
  | 1, _ => exact ⟨_, rfl, rfl, rfl, rfl, rfl⟩
  | 2, _ => exact ⟨_, rfl, rfl, rfl, rfl, rfl⟩
  | 3, _ => exact ⟨_, rfl, rfl, rfl, rfl, rfl⟩
theorem san_send {w wr w2 : World} {b ht k : Nat} {sv wv : Value} {B : Nat} (hN : NetAt w.heap.size b 2 S0 sv wv (sM k) k wr) (hb : Below w.heap.size w wr) (ht3 : Blk wr ht 3 #[.int .i64 10, .int .i64 11, .int .i64 12, .int .i64 12]) {e : Ending}
    (hp : SendPost w.heap.size b 2 S0 sv wv (sendM 2 S0 k (tm k) k 1 ⟨#[]⟩ (sM k)) k wr e w2) (_hB : B = B) : e = .returned (.tuple #[]) ∧ SanSend w b ht (k + 1) w2 := by
  obtain ⟨rfl, wv', hN', _, ho⟩ := hp
  exact ⟨rfl, sv, wv', hN', hb.trans (only_net_below hN ho), blk_net ht3 hN ho (by decide) (by decide)⟩

theorem SanNext.only {w wr w2 : World} {b ht hw k : Nat} (h : SanNext w b ht hw k wr) (ho : Only NoneOf wr w2) : SanNext w b ht hw k w2 := by
  obtain ⟨sv, wv, hN, hb, hw⟩ := h
  exact ⟨sv, wv, hN.only ho (fun h => h) (fun _ _ h => h) (fun _ _ h => h), hb.trans ((ho.below (Nat.le_refl _) (fun _ h => h.elim)).mono hb.size), hw.only ho (fun h => h)⟩
theorem sn_more {w w2 : World} {b ht hw k : Nat} {o : Obj} {n : Nat} (h : SanNext w b ht hw k w2) : SanNext w b ht hw k ((w2.alloc o).drewN n) :=
  h.only (((Only.refl NoneOf w2).alloc o).drewN n)

set_option maxHeartbeats 1000000 in
theorem sanity_any (w : World) : Calls Try.prog 10 #[] w fun e w' => e = .returned (.bool true) ∧ Below w.heap.size w w' := by
  have hlit := World.ownsRow_lit (base := w.heap.size) (e := 42) (size := 3) w #[.bool false, .int .i64 0, .int .i64 5, .bool true, .int .i64 0, .int .i64 0, .bool false, .int .i64 2, .int .i64 0] 3 (Nat.le_refl _) (by rw [maxLen_val]; omega) rfl
  have HL := Lib.hid (new_any (S := S0) 2 hlit (by decide))
  clear hlit
  go_enter Try.func10, Try.ntmps10
  go_wp2_with (go_at_call 12; refine HL.out.mono ?_; rintro e w1 ⟨b, sv, rfl, hN, hb⟩; have HN := Lib.hid hN; have HB := Lib.hid hb; clear hN hb)
  have hR : SanSend w b w1.heap.size 0 (w1.alloc (.cells #[.int .i64 10, .int .i64 11, .int .i64 12, .int .i64 12] 3)) :=
    ⟨sv, _, (HN.out.only ((Only.refl NoneOf w1).alloc _) (fun h => h) (fun _ _ h => h) (fun _ _ h => h)).base (by simp), ((((Below.refl _ w).alloc (Nat.le_refl _) _).trans (HB.out.mono (by simp))).alloc (by have := HB.out.size; simp at this; omega) _), Blk.new _ _ _⟩
  generalize hht : w1.heap.size = ht at *
  clear HL
  go_loopw [3] (fun v wr => ∃ k : Nat, v = .int .i64 k ∧ k ≤ 4 ∧ SanSend w b ht k wr) (fun v _ => 4 - (intOf v).toNat)
  case atStart => exact ⟨0, rfl, by omega, hR⟩
  case round =>
    obtain ⟨k, rfl, hk, sv, wv, hN, hb, ht3⟩ := hrel
    clear hR
    by_cases hlt : k < 4
    · have c0 := (ht3.cell k).trans (tm_cell k hlt)
      obtain ⟨b1, b2⟩ := tm_bd k hlt
      have hP := send_any (tm k) k 1 ⟨#[]⟩ hN hb.size (by decide) (by omega) (by have := sM_len k; omega) (by omega) (by omega) (S0_delay k)
      unfold msg at hP
      have HP := Lib.hid hP
      have HR := Lib.hid (fun e w2 (h : SendPost w.heap.size b 2 S0 sv wv (sendM 2 S0 k (tm k) k 1 ⟨#[]⟩ (sM k)) k wr e w2) => san_send (B := 0) hN hb ht3 h rfl)
      clear hN hb ht3 hP
      generalize tm k = t at *
      go_wp2_with (go_at_call 14; refine HP.out.mono ?_; intro e w2 hpost; obtain ⟨rfl, hs2⟩ := HR.out e w2 hpost; clear hpost)
      go_roundw
      case rel => exact ⟨k + 1, by go_num, by omega, hs2⟩
      case measure => simp [intOf]; omega
    · obtain rfl : k = 4 := by omega
      have HN4 := Lib.hid (fun o : Obj => hN.only ((Only.refl NoneOf wr).alloc o) (fun h => h) (fun _ _ h => h) (fun _ _ h => h))
      have HB4 := Lib.hid hb
      have hl4 : ((sM 4).length : Int) = 4 := by rw [sM4]; rfl
      have hR2 : SanNext w b ht wr.heap.size 0 (wr.alloc (.cells #[.int .i64 2, .int .i64 12, .int .i64 2, .int .i64 13, .int .i64 0, .int .i64 15, .int .i64 3, .int .i64 17] 56)) :=
        ⟨sv, wv, HN4.out _, hb.alloc hb.size _, Blk.new _ _ _⟩
      have HR2 := Lib.hid hR2
      clear hN hb ht3 hR2
      go_wp2_with (go_at_call 18; refine (waiting_any (HN4.out _)).mono ?_; rintro e w2 ⟨rfl, rfl⟩)
      have hR2 := HR2.out
      generalize hhw : wr.heap.size = hw at *
      clear HN4 HR2
      go_loopw [5, 6] (fun v5 v wr => v5 = .bool true ∧ ∃ k : Nat, v = .int .i64 k ∧ k ≤ 4 ∧ SanNext w b ht hw k wr) (fun _ v _ => 4 - (intOf v).toNat)
      case atStart => exact ⟨rfl, 0, rfl, by omega, hR2⟩
      case round =>
        rename_i wr2 _
        obtain ⟨rfl, k, rfl, hk, sv, wv, hN, hb, hw3⟩ := hrel
        clear hR2
        by_cases hlt : k < 4
        · obtain ⟨p, hdrop, hp1, hp2, hc1, hc2⟩ := want_at k hlt
          rw [hdrop] at hN
          have hP := next_any hN (by have := congrArg List.length hdrop; have := sM_len 4; simp at *; omega)
          have HP := Lib.hid hP
          have HQ := Lib.hid (fun w2 (wv2 : Value) (hN2 : NetAt w.heap.size b 2 S0 sv wv2 ((sM 4).drop (k + 1)) 4 w2) (ho2 : Only (fun i => i = b ∨ wv.ownBlock = some i) _ w2) => (show SanNext w b ht hw (k + 1) w2 from ⟨sv, wv2, hN2, hb.trans (only_net_below hN ho2), blk_net hw3 hN ho2 (by decide) (by decide)⟩))
          have HB := Lib.hid (fun w2 (ho2 : Only (fun i => i = b ∨ wv.ownBlock = some i) _ w2) => blk_net hw3 hN ho2 (by decide) (by decide))
          have HC1 := Lib.hid hc1
          have HC2 := Lib.hid hc2
          clear hP hN hb hw3 hc1 hc2 hdrop
          obtain ⟨fr, tgt, tx, due, sent⟩ := p
          simp only at hp1 hp2
          subst hp1 hp2
          have q1 : (wa k == wa k) = true := by simp
          have q2 : (wb k == wb k) = true := by simp
          generalize wa k = x0 at *
          generalize wb k = x1 at *
          have hk0 : (0 : Int) ≤ (k : Int) := by omega
          have hk4 : (k : Int) < 4 := by omega
          go_wp2_with (go_at_call 16; refine HP.out.mono ?_; rintro e w2 ⟨rfl, wv2, hN2, hw2, ho2⟩; unfold gotMsg msg; have d1 := ((HB.out w2 ho2).cell (k * 2)).trans HC1.out; have d2 := ((HB.out w2 ho2).cell (k * 2 + 1)).trans HC2.out; have HS2 := Lib.hid (HQ.out w2 wv2 hN2 ho2); have hlw := (HB.out w2 ho2).lt; clear hN2 hw2 ho2)
          go_quiet (fail)
          go_wp2_with fail
          go_roundw
          case rel => exact ⟨by simp, k + 1, by go_num, by omega, sn_more HS2.out⟩
          case measure => simp [intOf]; omega
        · obtain rfl : k = 4 := by omega
          have hd4 : (sM 4).drop 4 = [] := by rw [sM4]; rfl
          rw [hd4] at hN
          have HE := Lib.hid (next_empty hN)
          have HN := Lib.hid hN
          have HB := Lib.hid hb
          clear hN hb hw3 hd4
          have HD := Lib.hid (fun (W : World) (hW : NetAt w.heap.size b 2 S0 sv wv [] 4 W) => send_drop 0 0 2 ⟨#[]⟩ hW (by decide) (by decide) (.inr (.inr (by decide))))
          simp only [msg] at HD
          go_wp2_with (first
            | (go_at_call 16; refine HE.out.mono ?_; rintro e w2 ⟨rfl, hb2⟩; unfold noMsg; have HB2 := Lib.hid hb2; have HN2 := Lib.hid (HN.out.only (Only.of_below hb2 NoneOf) (fun h => h) (fun _ _ h => h) (fun _ _ h => h)); clear hb2)
            | (go_at_call 14; refine (HD.out _ (HN2.out.only ((Only.refl NoneOf _).alloc _) (fun h => h) (fun _ _ h => h) (fun _ _ h => h))).mono ?_; rintro e w3 ⟨rfl, wv3, hN3, _, ho3⟩; have HN3 := Lib.hid hN3; have HO3 := Lib.hid ho3; clear hN3 ho3)
            | (go_at_call 18; refine (waiting_any HN3.out).mono ?_; rintro e w4 ⟨rfl, rfl⟩))
          go_ret
          refine ⟨rfl, ?_⟩
          have h1 := only_net_below (HN2.out.only ((Only.refl NoneOf _).alloc _) (fun h => h) (fun _ _ h => h) (fun _ _ h => h)) HO3.out
          exact ((HB.out.trans (HB2.out.mono HB.out.size)).alloc (by have := HB.out.size; have := HB2.out.size; omega) _).trans h1
end Go.Proofs.Ytoaddfmbjehhoaa
