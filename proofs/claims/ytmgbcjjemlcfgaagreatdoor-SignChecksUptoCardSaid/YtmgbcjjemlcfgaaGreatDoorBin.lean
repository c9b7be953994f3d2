/- What is proved here: the binary digits of a number, most significant first, as an iterator visits them. Conditions: the number is not negative. -/
import Derived.Test.YtmgbcjjemlcfgaaGreatDoorGroup
import Derived.Test.YtmgbcjjemlcfgaaGreatDoorRf11
import Derived.Test.YtmgbcjjemlcfgaaGreatDoorChunk
namespace Go.Proofs.YtmgbcjjemlcfgaaGreatDoor
open Go.RowKit Go.Shelf
attribute [local go_sem] Oper.semAt_some
/-- One block lies as it lay. -/
def KeptA (A : Nat) (W W' : World) : Prop := W'.heap[A]? = W.heap[A]?
theorem keptA_t {A : Nat} {X Y Z : World} (h : KeptA A X Y) (k : KeptA A Y Z) : KeptA A X Z := Eq.trans k h
theorem keptA_b {A : Nat} {w : World} (hA : A < w.heap.size) (W : World) (l : Nat) (o o' : Obj) (hl : w.heap.size ≤ l) (_ : W.heap[l]? = some o) (_ : o.isCells = false) (_ : o.isWalk = false) : KeptA A W (W.putObj l o') :=
  World.putObj_heap_other (by omega)
theorem KeptA.cell {A : Nat} {W W' : World} (h : KeptA A W W') (o : Nat) : W'.cell? ⟨A, o, none⟩ = W.cell? ⟨A, o, none⟩ := World.cell?_of_block h
/-- The binary digit at a place. -/
def bitAt (n k : Nat) : Bool := decide (n / 2 ^ k % 2 = 1)
theorem and_one (y : Nat) : bits .and .i64 (y : Int) 1 = ((y % 2 : Nat) : Int) := by
  show IntKind.i64.wrap ((BitVec.ofInt 64 (y : Int) &&& BitVec.ofInt 64 1).toNat : Int) = _
  have e : (BitVec.ofInt 64 (y : Int) &&& BitVec.ofInt 64 1).toNat = y % 2 := by
    rw [BitVec.toNat_and, show (BitVec.ofInt 64 1).toNat = 1 from by decide, Nat.and_one_is_mod, show BitVec.ofInt 64 (y : Int) = BitVec.ofNat 64 y by simp, BitVec.toNat_ofNat]
    omega
  rw [e, IntKind.wrap_i64]
  omega
theorem bit_run (n k : Nat) : (bits .and .i64 ((n : Int) / 2 ^ k) 1 == 1) = bitAt n k := by
  have e : (n : Int) / 2 ^ k = ((n / 2 ^ k : Nat) : Int) := by
    rw [Int.natCast_ediv]; congr 1
  rw [e, and_one, bitAt, Bool.eq_iff_iff]
  simp
  omega
theorem bin_any (n : Int) (w : World) :
    Calls Tryz.prog 36 #[.int .i64 n] w fun e w' => e = .returned (.func (.func 50) #[] #[.pointer (some ⟨w.heap.size, 0, none⟩)]) ∧ w' = w.alloc (.cells #[.int .i64 n] 3) := by
  go_enter Tryz.func36, Tryz.ntmps36
  go_wp2_with fail
  go_ret
  exact ⟨rfl, rfl⟩
set_option maxRecDepth 100000 in
set_option maxHeartbeats 1000000 in
theorem bin1_in (n : Nat) (l A x m : Nat) (hm : m = Lib.bitLen x) (hx : x ≤ 9223372036854775807) (J Jx : List (Fin m) → World → Prop)
    (hY : ∀ pre i W, J pre W → pre.length < m → YieldAt Fence.wide (n - 1) Tryz.prog l #[.bool (bitAt x (m - 1 - i.val))] W fun e W' =>
      (e = .returned (.bool true) ∧ J (pre ++ [i]) W' ∧ KeptA A W W') ∨ (e = .returned (.bool false) ∧ Jx (pre ++ [i]) W'))
    (W : World) (hJ : AbidesFrom W.heap.size J) (hA : W.cell? ⟨A, 0, none⟩ = some (.int .i64 (x : Int))) (h0 : J [] W) :
    CallsIn Fence.wide n Tryz.prog 50 #[.func (.yield l) #[] #[], .pointer (some ⟨A, 0, none⟩)] W fun e W' => (∃ v, e = .returned v) ∧
      ((∃ ys, ys = List.finRange m ∧ J ys W') ∨ (∃ pre, (∃ k, k ≤ m ∧ pre = (List.finRange m).take k) ∧ Jx pre W')) := by
  have wx : IntKind.u64.wrap (x : Int) = (x : Int) := Mul64.wrapN _ (by omega)
  have hlen := Tryz.bits_Len (x : Int) W (by omega) (by omega)
  rw [Int.toNat_natCast, ← hm] at hlen
  have hm64 : m ≤ 64 := by rw [hm]; exact Lib.bitLen_le x 64 (by omega) (by omega)
  refine callsIn_of_wp Tryz.func50 rfl trivial ?_ rfl
  simp only [Tryz.ntmps50, List.size_toArray, List.length_cons, List.length_nil, Nat.reduceAdd, Nat.reduceSub, Array.replicate_succ, Array.replicate_zero, List.push_toArray, List.append_toArray, List.nil_append, List.cons_append]
  have HLEN := Lib.hid hlen
  clear hlen hm
  gi_wp2
  refine ⟨trivial, (fun h => by cases h), (callsIn_wide.2 HLEN.out).mono ?_⟩
  rintro e w1 ⟨rfl, hw1⟩
  rw [hw1]
  clear hw1
  gi_wp2
  gi_loopw [3] (fun i wr => ∃ k : Nat, k ≤ m ∧ i = .int .i64 ((m : Int) - 1 - (k : Int)) ∧ J ((List.finRange m).take k) wr ∧ KeptA A W wr)
    (fun i _ => (intOf i + 1).toNat)
  case atStart => exact ⟨0, Nat.zero_le _, by simp, h0, rfl⟩
  case round =>
    obtain ⟨k, hk, rfl, hJs, hkp⟩ := hrel
    have cA := (hkp.cell 0).trans hA
    by_cases hlt : k < m
    · obtain ⟨fn, tmps, assign, body, hy, hR⟩ := hY _ ⟨k, hlt⟩ wr hJs (by simp; omega)
      dsimp only at hy
      rw [← fin_take hlt] at hR
      obtain ⟨q, eq⟩ : ∃ q, q = m - 1 - k := ⟨_, rfl⟩
      have eq2 : (m : Int) - 1 - (k : Int) = (q : Int) := by omega
      rw [← eq, ← bit_run] at hy
      rw [eq2]
      have EQ := Lib.hid eq
      clear eq
      have q0 : 0 ≤ (q : Int) := by omega
      have q64 : (q : Int) < 64 := by omega
      gi_wp2
      refine ⟨(fun h => by cases h), hR.mono ?_⟩
      rintro e W3 (⟨rfl, hJ3, hk3⟩ | ⟨rfl, hJx3⟩)
      · have hkp3 := keptA_t hkp hk3
        gi_wp2
        go_roundw
        case rel => exact ⟨k + 1, by omega, by congr 1; (try omega), hJ3, hkp3⟩
        case measure => simp [intOf]; (try omega)
      · gi_wp2
        refine bodyPost_ret (results_none rfl _ _ _) rfl ?_
        exact ⟨⟨_, rfl⟩, .inr ⟨_, ⟨k + 1, by omega, rfl⟩, hJx3⟩⟩
    · obtain rfl : k = m := by omega
      rw [show (k : Int) - 1 - (k : Int) = -1 by omega]
      gi_wp2
      go_end0
      exact ⟨⟨_, rfl⟩, .inl ⟨_, rfl, by rw [fin_all] at hJs; exact hJs⟩⟩
theorem bin_stops (n A x m : Nat) (hm : m = Lib.bitLen x) (hx : x ≤ 9223372036854775807) (w : World) (hA : w.cell? ⟨A, 0, none⟩ = some (.int .i64 (x : Int))) :
    SeqStopsK Fence.wide n Tryz.prog 50 #[.pointer (some ⟨A, 0, none⟩)] (fun i : Fin m => #[.bool (bitAt x (m - 1 - i.val))]) (KeptA A) (fun xs => xs = List.finRange m) (fun pre => ∃ k, k ≤ m ∧ pre = (List.finRange m).take k) m w :=
  fun l J Jx W hW hJ _ hY h0 => bin1_in n l A x m hm hx J Jx hY W hJ ((hW.cell (p := ⟨A, 0, none⟩) (World.block_lt_of_cell? w _ hA)).trans hA) h0
end Go.Proofs.YtmgbcjjemlcfgaaGreatDoor
