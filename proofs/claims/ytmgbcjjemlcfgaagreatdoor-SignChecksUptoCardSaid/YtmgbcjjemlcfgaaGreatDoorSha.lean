/- What is proved here: SHA-256 in plain Lean, and laws on words of 32 bits as the walk writes them. No program in sight. No conditions. -/
import Derived.Test.YtmgbcjjemlcfgaaGreatDoorLib
import Derived.Lib.Bits
namespace Go.Proofs.YtmgbcjjemlcfgaaGreatDoor
open Go.RowKit

abbrev W := BitVec 32
/-- A word as a value. -/
def wv (x : W) : Value := .int .u32 (x.toNat : Int)
def bv (x : UInt8) : Value := .int .u8 (x.toNat : Int)
def shaK : List W := [
  0x428a2f98, 0x71374491, 0xb5c0fbcf, 0xe9b5dba5, 0x3956c25b, 0x59f111f1, 0x923f82a4, 0xab1c5ed5,
  0xd807aa98, 0x12835b01, 0x243185be, 0x550c7dc3, 0x72be5d74, 0x80deb1fe, 0x9bdc06a7, 0xc19bf174,
  0xe49b69c1, 0xefbe4786, 0x0fc19dc6, 0x240ca1cc, 0x2de92c6f, 0x4a7484aa, 0x5cb0a9dc, 0x76f988da,
  0x983e5152, 0xa831c66d, 0xb00327c8, 0xbf597fc7, 0xc6e00bf3, 0xd5a79147, 0x06ca6351, 0x14292967,
  0x27b70a85, 0x2e1b2138, 0x4d2c6dfc, 0x53380d13, 0x650a7354, 0x766a0abb, 0x81c2c92e, 0x92722c85,
  0xa2bfe8a1, 0xa81a664b, 0xc24b8b70, 0xc76c51a3, 0xd192e819, 0xd6990624, 0xf40e3585, 0x106aa070,
  0x19a4c116, 0x1e376c08, 0x2748774c, 0x34b0bcb5, 0x391c0cb3, 0x4ed8aa4a, 0x5b9cca4f, 0x682e6ff3,
  0x748f82ee, 0x78a5636f, 0x84c87814, 0x8cc70208, 0x90befffa, 0xa4506ceb, 0xbef9a3f7, 0xc67178f2]
def sha0 : List W := [0x6a09e667, 0xbb67ae85, 0x3c6ef372, 0xa54ff53a, 0x510e527f, 0x9b05688c, 0x1f83d9ab, 0x5be0cd19]
def rr (x : W) (n : Nat) : W := (x >>> n) ||| (x <<< (32 - n))
def smix (x : W) (a b c : Nat) : W := rr x a ^^^ rr x b ^^^ rr x c
def ssig (x : W) (a b c : Nat) : W := rr x a ^^^ rr x b ^^^ (x >>> c)
def sch (e f g : W) : W := (e &&& f) ^^^ (~~~e &&& g)
def smaj (a b c : W) : W := (a &&& b) ^^^ (a &&& c) ^^^ (b &&& c)
def byteAt (b : List UInt8) (i : Nat) : W := BitVec.ofNat 32 (b.getD i 0).toNat
def wordAt (b : List UInt8) (i : Nat) : W := (byteAt b (4 * i) <<< 24) ||| (byteAt b (4 * i + 1) <<< 16) ||| (byteAt b (4 * i + 2) <<< 8) ||| byteAt b (4 * i + 3)
/-- The first n words of the schedule of a block. -/
def sched (b : List UInt8) : Nat → List W
  | 0 => []
  | n + 1 =>
    let w := sched b n
    w ++ [if n < 16 then wordAt b n else w.getD (n - 16) 0 + ssig (w.getD (n - 15) 0) 7 18 3 + w.getD (n - 7) 0 + ssig (w.getD (n - 2) 0) 17 19 10]
theorem sched_len (b : List UInt8) (n : Nat) : (sched b n).length = n := by
  induction n with
  | zero => rfl
  | succ n ih => simp [sched, ih]
theorem sched_get (b : List UInt8) (n m i : Nat) (h : i < n) (hm : n ≤ m) : (sched b m)[i]? = (sched b n)[i]? := by
  induction m with
  | zero => omega
  | succ m ih =>
    by_cases hnm : n = m + 1
    · subst hnm; rfl
    · rw [← ih (by omega), sched, List.getElem?_append_left (by rw [sched_len]; omega)]

structure St where
  a : W
  b : W
  c : W
  d : W
  e : W
  f : W
  g : W
  h : W
def St.vals (s : St) : List Value := [wv s.a, wv s.b, wv s.c, wv s.d, wv s.e, wv s.f, wv s.g, wv s.h]
def rnd (s : St) (k w : W) : St :=
  let t := s.h + smix s.e 6 11 25 + sch s.e s.f s.g + k + w
  let u := smix s.a 2 13 22 + smaj s.a s.b s.c
  ⟨t + u, s.a, s.b, s.c, s.d + t, s.e, s.f, s.g⟩
def rnds (s : St) (w : List W) : Nat → St
  | 0 => s
  | n + 1 => rnd (rnds s w n) (shaK.getD n 0) (w.getD n 0)
def St.add (s t : St) : St := ⟨s.a + t.a, s.b + t.b, s.c + t.c, s.d + t.d, s.e + t.e, s.f + t.f, s.g + t.g, s.h + t.h⟩
def comp (s : St) (blk : List UInt8) : St := s.add (rnds s (sched blk 64) 64)
def st0 : St := ⟨0x6a09e667, 0xbb67ae85, 0x3c6ef372, 0xa54ff53a, 0x510e527f, 0x9b05688c, 0x1f83d9ab, 0x5be0cd19⟩
def comps (s : St) (m : List UInt8) : Nat → St
  | 0 => s
  | n + 1 => comp (comps s m n) ((m.drop (64 * n)).take 64)
def padN (n : Nat) : Nat := (120 - (n + 1) % 64) % 64
def be8 (n : Nat) : List UInt8 := [7, 6, 5, 4, 3, 2, 1, 0].map fun i => UInt8.ofNat (n / 2 ^ (8 * i))
def padded (m : List UInt8) : List UInt8 := m ++ 0x80 :: List.replicate (padN m.length) 0 ++ be8 (8 * m.length)
def be4 (x : W) : List UInt8 := [24, 16, 8, 0].map fun i => UInt8.ofNat (x.toNat / 2 ^ i)
def shaL (m : List UInt8) : List UInt8 :=
  let p := padded m
  let s := comps st0 p (p.length / 64)
  be4 s.a ++ be4 s.b ++ be4 s.c ++ be4 s.d ++ be4 s.e ++ be4 s.f ++ be4 s.g ++ be4 s.h
theorem padded_len (m : List UInt8) : (padded m).length % 64 = 0 := by
  simp [padded, be8, padN]; omega

example : shaL "abc".toUTF8.toList = [0xba, 0x78, 0x16, 0xbf, 0x8f, 0x01, 0xcf, 0xea, 0x41, 0x41, 0x40, 0xde, 0x5d, 0xae, 0x22, 0x23, 0xb0, 0x03, 0x61, 0xa3, 0x96, 0x17, 0x7a, 0x9c, 0xb4, 0x10, 0xff, 0x61, 0xf2, 0x00, 0x15, 0xad] := by decide +kernel
/-! ### Words as the walk writes them -/
theorem w_ofInt (x : W) : BitVec.ofInt 32 (x.toNat : Int) = x := by simp
theorem w_back (x : W) : IntKind.u32.wrap (x.toNat : Int) = (x.toNat : Int) := by
  have := x.isLt
  simp [IntKind.wrap, IntKind.bits, IntKind.signed]; omega
theorem w_and (x y : W) : bits .and .u32 (x.toNat : Int) (y.toNat : Int) = ((x &&& y).toNat : Int) := by
  show IntKind.u32.wrap ((BitVec.ofInt 32 (x.toNat : Int) &&& BitVec.ofInt 32 (y.toNat : Int)).toNat : Int) = _
  rw [w_ofInt, w_ofInt, w_back]
theorem w_or (x y : W) : bits .or .u32 (x.toNat : Int) (y.toNat : Int) = ((x ||| y).toNat : Int) := by
  show IntKind.u32.wrap ((BitVec.ofInt 32 (x.toNat : Int) ||| BitVec.ofInt 32 (y.toNat : Int)).toNat : Int) = _
  rw [w_ofInt, w_ofInt, w_back]
theorem w_xor (x y : W) : bits .xor .u32 (x.toNat : Int) (y.toNat : Int) = ((x ^^^ y).toNat : Int) := by
  show IntKind.u32.wrap ((BitVec.ofInt 32 (x.toNat : Int) ^^^ BitVec.ofInt 32 (y.toNat : Int)).toNat : Int) = _
  rw [w_ofInt, w_ofInt, w_back]
theorem w_not (x : W) : bits .xor .u32 4294967295 (x.toNat : Int) = ((~~~x).toNat : Int) := by
  show IntKind.u32.wrap ((BitVec.ofInt 32 4294967295 ^^^ BitVec.ofInt 32 (x.toNat : Int)).toNat : Int) = _
  rw [w_ofInt, w_back, show BitVec.ofInt 32 4294967295 = BitVec.allOnes 32 from by decide, BitVec.allOnes_xor]
theorem w_shr (x : W) (n : Nat) : (x.toNat : Int) / 2 ^ n = ((x >>> n).toNat : Int) := by
  rw [BitVec.toNat_ushiftRight, Nat.shiftRight_eq_div_pow]
  push_cast
  rfl
theorem w_shl (x : W) (n : Nat) : (x.toNat : Int) * 2 ^ n % 4294967296 = ((x <<< n).toNat : Int) := by
  rw [BitVec.toNat_shiftLeft, Nat.shiftLeft_eq, Int.natCast_emod, Int.natCast_mul, show ((2 ^ n : Nat) : Int) = 2 ^ n from Int.natCast_pow 2 n]
  rw [show ((2 ^ 32 : Nat) : Int) = 4294967296 from by decide]
theorem w_add (x y : W) : ((x.toNat : Int) + (y.toNat : Int)) % 4294967296 = ((x + y).toNat : Int) := by
  rw [BitVec.toNat_add, Int.natCast_emod, Int.natCast_add]
  rw [show ((2 ^ 32 : Nat) : Int) = 4294967296 from by decide]
theorem w_add' (x y : W) : IntKind.u32.wrap ((x.toNat : Int) + (y.toNat : Int)) = ((x + y).toNat : Int) := by
  rw [← w_add]
  simp [IntKind.wrap, IntKind.bits, IntKind.signed]
end Go.Proofs.YtmgbcjjemlcfgaaGreatDoor
