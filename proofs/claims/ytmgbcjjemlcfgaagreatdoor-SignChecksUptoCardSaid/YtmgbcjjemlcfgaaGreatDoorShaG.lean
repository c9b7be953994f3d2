/- What is proved here: the padding of the reference's SHA-256. Conditions: what is summed is shorter than 2^45 bytes. -/
import Derived.Test.YtmgbcjjemlcfgaaGreatDoorShaE
namespace Go.Proofs.YtmgbcjjemlcfgaaGreatDoor
open Go.RowKit

def strLen : Value → Nat
  | .string t => t.size
  | _ => 0
def Pad1 (s : ByteArray) (k : Nat) (v : Value) : Prop := ∃ (i : Nat) (t : ByteArray), v = .string t ∧ t.data.toList = s.data.toList ++ [0x80] ++ List.replicate i 0 ∧ t.size = s.size + 1 + i ∧ i ≤ k
def Pad2 (s : ByteArray) (k j : Nat) (v : Value) : Prop := ∃ (t : ByteArray), v = .string t ∧ t.data.toList = s.data.toList ++ [0x80] ++ List.replicate k 0 ++ (be8 (8 * s.size)).take j ∧ t.size = s.size + 1 + k + j
theorem append_list (a b : ByteArray) : (a ++ b).data.toList = a.data.toList ++ b.data.toList := by simp
theorem app_size (a : ByteArray) (x : UInt8) : (a ++ ⟨#[x]⟩ : ByteArray).size = a.size + 1 := by
  rw [ByteArray.size_append]; rfl
theorem be8_take (n : Nat) {j : Nat} (h : j < 8) : (be8 n).take (j + 1) = (be8 n).take j ++ [UInt8.ofNat (n / 2 ^ (8 * (7 - j)))] := by
  rcases eight h with rfl | rfl | rfl | rfl | rfl | rfl | rfl | rfl <;> rfl
theorem pad2_step {s t : ByteArray} {k j : Nat} (ht : t.data.toList = s.data.toList ++ [0x80] ++ List.replicate k 0 ++ (be8 (8 * s.size)).take j) (hz : t.size = s.size + 1 + k + j) (hj : j < 8) :
    Pad2 s k (j + 1) (.string (t ++ ⟨[UInt8.ofNat (8 * s.size / 2 ^ (8 * (7 - j)))].toArray⟩)) := by
  refine ⟨_, rfl, ?_, ?_⟩
  · rw [append_list, ht, be8_take _ hj]
    simp
  · rw [ByteArray.size_append, hz]
    show _ + 1 = _
    omega
set_option maxRecDepth 100000 in
set_option maxHeartbeats 1000000 in
theorem padded_any (s : ByteArray) (w : World) (hs : s.size ≤ 35184372088832) :
    Calls Tryz.prog 48 #[.string s] w fun e w' => (∃ t : ByteArray, e = .returned (.string t) ∧ t.data.toList = padded s.data.toList) ∧ Only NoneOf w w' := by
  obtain ⟨k, ek⟩ : ∃ k, k = padN s.size := ⟨_, rfl⟩
  have bk : k < 64 := by rw [ek]; unfold padN; omega
  have EK := Lib.hid ek
  clear ek
  go_enter Tryz.func48, Tryz.ntmps48
  go_wp2_with fail
  go_loop [3] (fun v => Pad1 s k v) (fun v => s.size + 65 - strLen v)
  case atStart => exact ⟨0, _, rfl, by simp, by rw [app_size], by omega⟩
  case round =>
    obtain ⟨i, t, rfl, ht, hz, hi⟩ := hrel
    have HT := Lib.hid ht
    have HZ := Lib.hid hz
    have bt : t.size ≤ 35184372088900 := by omega
    clear ht hz
    by_cases hlt : i < k
    · have htest : ((t.size : Int) % 64 != 56) = true := by
        have h1 := HZ.out; have h2 := EK.out; unfold padN at h2
        have : ¬ ((t.size : Int) % 64 = 56) := by omega
        simpa using this
      go_wp2_with fail
      go_round
      case rel => exact ⟨i + 1, _, rfl, by rw [append_list, HT.out, List.replicate_succ']; simp, by have := HZ.out; rw [app_size]; omega, by omega⟩
      case measure => have := HZ.out; have h2 : (⟨#[0]⟩ : ByteArray).size = 1 := rfl; simp [strLen]; omega
    · obtain rfl : i = k := by omega
      have htest : ((t.size : Int) % 64 != 56) = false := by
        have h1 := HZ.out; have h2 := EK.out; unfold padN at h2
        have : ((t.size : Int) % 64 = 56) := by omega
        simpa using this
      go_wp2_with fail
      have hp2 : Pad2 s i 0 (.string t) := ⟨t, rfl, by rw [HT.out]; simp, by have := HZ.out; omega⟩
      go_loopw [3, 5] (fun v3 v5 wr => ∃ j : Nat, j ≤ 8 ∧ v5 = .int .i64 (7 - (j : Int)) ∧ Pad2 s i j v3 ∧ Only NoneOf w wr) (fun _ v _ => (intOf v + 1).toNat)
      case atStart => exact ⟨0, by omega, rfl, hp2, Only.refl _ _⟩
      case round =>
        clear hp2 HT HZ bt
        obtain ⟨j, hj, rfl, ⟨u, rfl, hu, huz⟩, ho⟩ := hrel
        have HU := Lib.hid hu
        have HUZ := Lib.hid huz
        have HO := Lib.hid ho
        have bu : u.size ≤ 35184372088910 := by omega
        clear hu huz ho
        by_cases h8 : j < 8
        · obtain ⟨b, eb⟩ : ∃ b, b = UInt8.ofNat (8 * s.size / 2 ^ (8 * (7 - j))) := ⟨_, rfl⟩
          have hst := fun h1 h2 => pad2_step (s := s) (t := u) (k := i) (j := j) h1 h2 h8
          rw [← eb] at hst
          have HST := Lib.hid (hst HU.out HUZ.out)
          have EB := Lib.hid eb
          clear hst eb HU HUZ
          have tok : True := trivial
          rcases eight h8 with rfl | rfl | rfl | rfl | rfl | rfl | rfl | rfl
          all_goals
            go_wp2_with (have _t := tok; refine wpList_convert_back rfl 53 9 5 (.tmp 28) rfl wr.heap.size 0 1 1 rfl [b] rfl (bytesAt_one _ _ _ _ ?hv) Tryz.underlying53 Tryz.underlying5 Tryz.underlying9 ?_; clear tok _t)
            case hv => rw [EB.out]; simp; omega
            go_roundw
            case rel => exact ⟨_, by omega, by go_num, HST.out, HO.out.alloc _⟩
            case measure => simp [intOf]
        · obtain rfl : j = 8 := by omega
          go_wp2_with fail
          go_ret
          refine ⟨⟨u, rfl, ?_⟩, HO.out⟩
          have e2 : (be8 (8 * s.size)).take 8 = be8 (8 * s.size) := rfl
          have hl : s.data.toList.length = s.size := by simp
          rw [HU.out, e2, padded, hl, ← EK.out]
          simp
end Go.Proofs.YtmgbcjjemlcfgaaGreatDoor
