/- What is proved here: a text hashed into the field. Conditions: the modulus is positive; the text is short. -/
import Derived.Test.YtmgbcjjemlcfgaaGreatDoorFldA
import Derived.Deep.RegionHeld3
namespace Go.Proofs.YtmgbcjjemlcfgaaGreatDoor
open Go.RowKit Go.Shelf
/-- The bytes as a number of the field. -/
def accF (p : Int) (l : List UInt8) : Int := l.foldl (fun acc b => (acc * 256 % p + (b.toNat : Int)) % p) 0
theorem accF_snoc (p : Int) (l : List UInt8) (b : UInt8) : accF p (l ++ [b]) = (accF p l * 256 % p + (b.toNat : Int)) % p := by simp [accF]
theorem accF_in (p : Int) (hp : 0 < p) (l : List UInt8) : 0 ≤ accF p l ∧ accF p l < p := by
  have gen : ∀ (l : List UInt8) (a : Int), 0 ≤ a ∧ a < p → 0 ≤ l.foldl (fun acc b => (acc * 256 % p + (b.toNat : Int)) % p) a ∧ l.foldl (fun acc b => (acc * 256 % p + (b.toNat : Int)) % p) a < p := by
    intro l
    induction l with
    | nil => intro a h; exact h
    | cons b r ih => intro a _; exact ih _ ⟨Int.emod_nonneg _ (by omega), Int.emod_lt_of_pos _ hp⟩
  exact gen l 0 ⟨by omega, hp⟩
theorem only_drewN {S : Nat → Prop} {w w' : World} (h : Only S w w') (n : Nat) : Only S w (w'.drewN n) := ⟨h.os, h.tape, h.output, h.size, h.block⟩
def hashF (p : Int) (l : List UInt8) : Int := accF p (shaL l)
set_option maxRecDepth 100000 in
set_option maxHeartbeats 400000 in
theorem fHash_any (s : ByteArray) (p : Int) (hs : s.size ≤ 35184372088832) (hp0 : 0 < p) (hp : p ≤ 9223372036854775807) (w : World) :
    Calls Tryz.prog 41 #[.string s, .int .i64 p] w fun e w' => e = .returned (.int .i64 (hashF p s.data.toList)) ∧ Only NoneOf w w' := by
  have hp1 : ¬ p < 1 := by omega
  go_enter Tryz.func41, Tryz.ntmps41
  go_wp2_with fail
  refine (sum_any s w hs).mono ?_
  rintro e w1 ⟨rfl, ho1⟩
  obtain ⟨h, eh⟩ : ∃ h, h = shaL s.data.toList := ⟨_, rfl⟩
  rw [← eh]
  have hl : h.length = 32 := by rw [eh]; exact shaL_len _
  have hres : hashF p s.data.toList = accF p h := by rw [eh]; rfl
  have HRES := Lib.hid hres
  have hi41 : (Tryz.prog.info? 51).map (·.size) = some (h.map bv).toArray.size := by rw [List.size_toArray, List.length_map, hl]; kernel_rfl
  have hone : (h.map bv).toArray.all (·.oneCell') = true := all_oneCell_toArray (bvs_one _)
  have hthr : (w1.alloc (.cells (Array.replicate 32 (.int .u8 0)) 51)).there w1.heap.size 0 (h.map bv).toArray.size := (Blk.new w1 _ _).there 0 _ (by rw [List.size_toArray, List.length_map, hl]; simp)
  obtain ⟨X, eX⟩ : ∃ X, X = (w1.alloc (.cells (Array.replicate 32 (.int .u8 0)) 51)).setCells w1.heap.size 0 (h.map bv).toArray.toList := ⟨_, rfl⟩
  have hX : Only NoneOf w X := by rw [eX]; exact only_setCells ((Only.refl NoneOf w).trans (ho1.alloc _)) _ _ (.inr ho1.size) _
  have hblk : Blk X w1.heap.size 51 (h.map bv).toArray := by rw [eX]; simpa using (Blk.new w1 51 (Array.replicate 32 (.int .u8 0))).filled (h.map bv).toArray.toList (by simp [hl])
  have HI41 := Lib.hid hi41
  have HONE := Lib.hid hone
  have HTH := Lib.hid hthr
  have HL := Lib.hid hl
  have HX := Lib.hid hX
  have HB := Lib.hid hblk
  have HEX := Lib.hid eX
  obtain ⟨B, eB⟩ : ∃ B, B = w1.heap.size := ⟨_, rfl⟩
  clear eh hl hi41 hone hthr hX hblk ho1 eX hres
  have tok1 : True := trivial
  go_wp2_with (have _t := tok1; refine wpList_store_mid rfl 51 (.tmp 5) (.tmp 11) rfl w1.heap.size 0 (h.map bv).toArray rfl rfl HTH.out HI41.out HONE.out ?_; clear tok1 _t)
  refine wp_world HEX.out ?_
  rw [← eB]
  rw [← eB] at HB
  clear HEX HTH eB
  go_wp2_with fail
  go_loopw [12, 6] (fun v12 v6 wr => ∃ k : Nat, v12 = .int .i64 k ∧ k ≤ 32 ∧ v6 = .int .i64 (accF p (h.take k)) ∧ Blk wr B 51 (h.map bv).toArray ∧ Only NoneOf X wr) (fun v _ _ => 32 - (intOf v).toNat)
  case atStart => exact ⟨0, rfl, by omega, by simp [accF], HB.out, Only.refl _ _⟩
  case round =>
    obtain ⟨k, rfl, hk, rfl, hb, ho⟩ := hrel
    by_cases hlt : k < 32
    · obtain ⟨b, eb⟩ : ∃ b, h[k]? = some b := ⟨_, List.getElem?_eq_getElem (by have := HL.out; omega)⟩
      have hnext : accF p (h.take (k + 1)) = (accF p (h.take k) * 256 % p + (b.toNat : Int)) % p := by rw [List.take_add_one, eb, Option.toList_some, accF_snoc]
      have hin := accF_in p hp0 (h.take k)
      have hin2 := accF_in p hp0 (h.take (k + 1))
      obtain ⟨c, ec⟩ : ∃ c, c = accF p (h.take k) := ⟨_, rfl⟩
      obtain ⟨c2, ec2⟩ : ∃ c2, c2 = accF p (h.take (k + 1)) := ⟨_, rfl⟩
      rw [← ec] at hnext hin ⊢
      rw [← ec2] at hnext hin2
      obtain ⟨m, em⟩ : ∃ m, m = c * 256 % p := ⟨_, rfl⟩
      have hm : 0 ≤ m ∧ m < p := by rw [em]; exact ⟨Int.emod_nonneg _ (by omega), Int.emod_lt_of_pos _ hp0⟩
      have hb255 : b.toNat < 256 := b.toNat_lt
      obtain ⟨bn, ebn⟩ : ∃ bn, bn = b.toNat := ⟨_, rfl⟩
      have hmul := fun W => fMul_any c 256 p (by omega) (by omega) (by omega) (by omega) hp0 hp W
      rw [← em] at hnext hmul
      rw [← ebn] at hnext hb255
      have hadd := fun W => fAdd_any m (bn : Int) p (by omega) (by omega) (by omega) (by omega) hp0 hp W
      rw [← hnext] at hadd
      have hcell : wr.cell? ⟨B, k, none⟩ = some (.int .u8 (bn : Int)) := by
        rw [hb.cell, List.getElem?_toArray, List.getElem?_map, eb, ebn]; rfl
      have hbi : (bn : Int) < 256 := by omega
      have k32 : (k : Int) < 32 := by omega
      have wbn : IntKind.i64.wrap (bn : Int) = (bn : Int) := IntWalk.i64_in _ (by omega)
      have k0 : 0 ≤ (k : Int) := by omega
      have HMUL := Lib.hid hmul
      have HADD := Lib.hid hadd
      have HBB := Lib.hid hb
      have HO := Lib.hid ho
      have EC2 := Lib.hid ec2
      have HIN2 := Lib.hid hin2
      clear hnext hin hin2 ec ec2 em hm eb ebn hmul hadd hb ho
      go_wp2_with fail
      go_region_held3 (fun w' => w'.cell? ⟨B, k, none⟩ = some (.int .u8 (bn : Int))) (first | assumption | exact hcell | go_keep)
        (first
          | (go_at_call 21; refine (HMUL.out _).mono ?_; rintro e w9 ⟨rfl, n9, rfl⟩)
          | (go_at_call 28; refine (HADD.out _).mono ?_; rintro e w9 ⟨rfl, hw9⟩; rw [hw9]; clear hw9))
      all_goals
        go_wp2_with fail
        go_roundw
        case rel => exact ⟨k + 1, by go_num, by omega, by rw [EC2.out], HBB.out, only_drewN HO.out _⟩
        case measure => simp [intOf]; omega
    · obtain rfl : k = 32 := by omega
      have hall : h.take 32 = h := List.take_of_length_le (by rw [HL.out]; exact Nat.le_refl _)
      have HO := Lib.hid ho
      have HALL := Lib.hid hall
      clear hall ho hb
      go_wp2_with fail
      go_ret
      exact ⟨by rw [HRES.out]; show Ending.returned (.int .i64 (accF p (h.take 32))) = _; rw [HALL.out], HX.out.trans HO.out⟩
end Go.Proofs.YtmgbcjjemlcfgaaGreatDoor
