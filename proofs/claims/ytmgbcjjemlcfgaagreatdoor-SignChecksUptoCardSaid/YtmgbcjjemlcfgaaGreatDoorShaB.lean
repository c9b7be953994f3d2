/- What is proved here: the words of the program's SHA-256. No conditions. -/
import Derived.Test.YtmgbcjjemlcfgaaGreatDoorShaA
import Derived.Lib.Hide
import Derived.IntWalk
namespace Go.Proofs.YtmgbcjjemlcfgaaGreatDoor
open Go.RowKit
theorem and31 : ∀ n : Fin 32, 0 < n.val → bits .and .u64 (IntKind.u64.wrap (-(n.val : Int))) 31 = 32 - (n.val : Int) := by decide +kernel
set_option maxHeartbeats 400000 in
theorem rotl_any (x : W) (n : Nat) (hn : 0 < n) (hn2 : n < 32) (w : World) :
    Calls Tryz.prog 97 #[wv x, .int .i64 (-(n : Int))] w fun e w' => e = .returned (wv (rr x n)) ∧ w' = w := by
  unfold wv
  have h31 := and31 ⟨n, hn2⟩ hn
  simp only at h31
  have e1 : IntKind.u64.wrap (32 - (32 - (n : Int))) = (n : Int) := by
    have : (32 - (32 - (n : Int))) = (n : Int) := by omega
    rw [this, IntKind.wrap_u64]; omega
  have e2 : (32 - (n : Int)).toNat = 32 - n := by omega
  go_enter Tryz.func97, Tryz.ntmps97
  go_wp2
  go_ret
  refine ⟨?_, rfl⟩
  show Ending.returned (Value.int IntKind.u32 _) = _
  rw [w_shl, w_shr, w_or, BitVec.or_comm]
  rfl
set_option maxHeartbeats 400000 in
theorem mixed_any (x : W) (a b c : Nat) (ha : 0 < a ∧ a < 32) (hb : 0 < b ∧ b < 32) (hc : 0 < c ∧ c < 32) (w : World) :
    Calls Tryz.prog 89 #[wv x, .int .i64 a, .int .i64 b, .int .i64 c] w fun e w' => e = .returned (wv (smix x a b c)) ∧ w' = w := by
  have ra := rotl_any x a ha.1 ha.2 w
  have rb := rotl_any x b hb.1 hb.2 w
  have rc := rotl_any x c hc.1 hc.2 w
  unfold wv at *
  have e1 : IntKind.i64.wrap (-(a : Int)) = -(a : Int) := IntWalk.i64_in _ (by omega)
  have e2 : IntKind.i64.wrap (-(b : Int)) = -(b : Int) := IntWalk.i64_in _ (by omega)
  have e3 : IntKind.i64.wrap (-(c : Int)) = -(c : Int) := IntWalk.i64_in _ (by omega)
  have RA := Lib.hid ra
  have RB := Lib.hid rb
  have RC := Lib.hid rc
  clear ra rb rc
  go_enter Tryz.func89, Tryz.ntmps89
  go_wp2_with fail
  refine RA.out.mono ?_
  rintro e w1 ⟨rfl, rfl⟩
  go_wp2_with fail
  refine RB.out.mono ?_
  rintro e w1 ⟨rfl, rfl⟩
  go_wp2_with fail
  refine RC.out.mono ?_
  rintro e w1 ⟨rfl, rfl⟩
  go_wp2_with fail
  go_ret
  refine ⟨?_, rfl⟩
  show Ending.returned (Value.int IntKind.u32 _) = _
  rw [w_xor, w_xor]
  rfl
set_option maxHeartbeats 400000 in
theorem bytes_any (x : W) (w : World) :
    Calls Tryz.prog 69 #[wv x] w fun e w' => e = .returned (.slice (some ⟨w.heap.size, 0, none⟩) 4 4) ∧ w' = w.alloc (.cells ((be4 x).map bv).toArray 5) := by
  unfold wv
  go_enter Tryz.func69, Tryz.ntmps69
  go_wp2_with fail
  go_ret
  refine ⟨rfl, ?_⟩
  have hb : ∀ n : Nat, bv (UInt8.ofNat n) = .int .u8 ((n : Int) % 256) := fun n => by simp [bv]
  have hx := x.isLt
  simp only [be4, List.map_cons, List.map_nil, hb]
  have h1 : ((x.toNat / 2 ^ 24 : Nat) : Int) % 256 = (x.toNat : Int) / 16777216 := by omega
  have h2 : ((x.toNat / 2 ^ 16 : Nat) : Int) % 256 = (x.toNat : Int) / 65536 % 256 := by omega
  have h3 : ((x.toNat / 2 ^ 8 : Nat) : Int) % 256 = (x.toNat : Int) / 256 % 256 := by omega
  have h4 : ((x.toNat / 2 ^ 0 : Nat) : Int) % 256 = (x.toNat : Int) % 256 := by omega
  rw [h1, h2, h3, h4]
def bw (x : UInt8) : W := BitVec.ofNat 32 x.toNat
theorem bw_nat (x : UInt8) : (x.toNat : Int) = ((bw x).toNat : Int) := by
  have := x.toNat_lt
  rw [bw, BitVec.toNat_ofNat, Nat.mod_eq_of_lt (by omega)]
theorem w_shlk (x : W) (n : Nat) (m : Int) (hm : m = 2 ^ n) : (x.toNat : Int) * m % 4294967296 = ((x <<< n).toNat : Int) := by rw [hm]; exact w_shl x n
set_option maxHeartbeats 400000 in
theorem word_any {g o n c : Nat} {x0 x1 x2 x3 : UInt8} {w : World} (hn : 4 ≤ n) (h0 : w.cell? ⟨g, o, none⟩ = some (bv x0)) (h1 : w.cell? ⟨g, o + 1, none⟩ = some (bv x1)) (h2 : w.cell? ⟨g, o + 2, none⟩ = some (bv x2)) (h3 : w.cell? ⟨g, o + 3, none⟩ = some (bv x3)) :
    Calls Tryz.prog 96 #[.slice (some ⟨g, o, none⟩) n c] w fun e w' => e = .returned (wv ((bw x0 <<< 24) ||| (bw x1 <<< 16) ||| (bw x2 <<< 8) ||| bw x3)) ∧ ∃ q, w' = w.drewN q := by
  unfold bv at *
  rw [bw_nat] at h0 h1 h2 h3
  go_enter Tryz.func96, Tryz.ntmps96
  go_wp2_with fail
  go_quiet (fail)
  go_wp2_with fail
  go_ret
  refine ⟨?_, _, rfl⟩
  show Ending.returned (Value.int IntKind.u32 _) = _
  rw [w_shlk (bw x0) 24 16777216 (by decide), w_shlk (bw x1) 16 65536 (by decide), w_shlk (bw x2) 8 256 (by decide), w_or, w_or, w_or]
  rfl
end Go.Proofs.YtmgbcjjemlcfgaaGreatDoor
