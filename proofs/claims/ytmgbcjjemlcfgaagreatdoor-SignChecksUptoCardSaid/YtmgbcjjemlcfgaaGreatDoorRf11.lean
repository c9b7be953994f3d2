/- What is proved here: the reference's sums and products in the field, texts hashed into it. Conditions: the modulus is positive; texts are short. -/
import Derived.Test.YtmgbcjjemlcfgaaGreatDoorFldB
import Derived.Deep.OwnRows
import Derived.Deep.RegionLaw
namespace Go.Proofs.YtmgbcjjemlcfgaaGreatDoor
open Go.RowKit Go.Shelf
theorem rresidue_any (a p : Int) (_h0 : -9223372036854775808 ≤ a) (_h1 : a ≤ 9223372036854775807) (hp0 : 0 < p) (hp : p ≤ 9223372036854775807) (w : World) :
    Calls Tryz.prog 32 #[.int .i64 a, .int .i64 p] w fun e w' => e = .returned (.int .i64 (a % p)) ∧ w' = w := by
  obtain ⟨m, em⟩ : ∃ m, m = a.tmod p := ⟨_, rfl⟩
  have hm1 : -p < m ∧ m < p := by
    rw [em]; exact ⟨Int.lt_tmod_of_pos a hp0, Int.tmod_lt_of_pos a hp0⟩
  have hm2 : a % p = if m < 0 then m + p else m := by
    rw [em, Int.tmod_eq_emod]
    have := Int.emod_nonneg a (show p ≠ 0 by omega)
    have := Int.emod_lt_of_pos a hp0
    have hab : (p.natAbs : Int) = p := by omega
    split <;> split <;> omega
  have e1 : IntKind.i64.wrap (a.tmod p) = m := by rw [← em]; exact IntWalk.i64_in _ (by omega)
  have e2 : IntKind.i64.wrap m = m := IntWalk.i64_in _ (by omega)
  have e0 : ¬ p = 0 := by omega
  obtain ⟨g, eg⟩ : ∃ g, g = a % p := ⟨_, rfl⟩
  rw [← eg] at hm2 ⊢
  have em' := em.symm
  clear eg em
  go_enter Tryz.func32, Tryz.ntmps32
  go_wp2_with fail
  · go_ret
    exact ⟨ret_int (by rw [hm2]; split <;> omega), rfl⟩
  · go_ret
    exact ⟨ret_int (by rw [hm2]; split <;> omega), rfl⟩
theorem rsum11_any (a b p : Int) (ha : 0 ≤ a ∧ a < p) (hb : 0 ≤ b ∧ b < p) (hp : p ≤ 9223372036854775807) (w : World) :
    Calls Tryz.prog 38 #[.int .i64 a, .int .i64 b, .int .i64 p] w fun e w' => e = .returned (.int .i64 ((a + b) % p)) ∧ w' = w := by
  obtain ⟨g, eg⟩ : ∃ g, g = (a + b) % p := ⟨_, rfl⟩
  have hg : g = if p - b ≤ a then a - (p - b) else a + b := by
    rw [eg]
    split
    · have : a + b = (a - (p - b)) + p := by omega
      rw [this, Int.add_emod_right, Int.emod_eq_of_lt (by omega) (by omega)]
    · exact Int.emod_eq_of_lt (by omega) (by omega)
  rw [← eg]
  obtain ⟨ha0, ha1⟩ := ha
  obtain ⟨hb0, hb1⟩ := hb
  have HG := Lib.hid hg
  clear eg hg
  by_cases h : p - b ≤ a
  · go_enter Tryz.func38, Tryz.ntmps38
    go_wp2_with fail
    go_ret
    exact ⟨ret_int (by rw [HG.out, if_pos h]), rfl⟩
  · go_enter Tryz.func38, Tryz.ntmps38
    go_wp2_with fail
    go_ret
    exact ⟨ret_int (by rw [HG.out, if_neg (by omega)]), rfl⟩
theorem mod_in {a p : Int} (h : 0 < p) : 0 ≤ a % p ∧ a % p < p := ⟨Int.emod_nonneg _ (by omega), Int.emod_lt_of_pos _ h⟩
theorem radd_any (a b p : Int) (h0 : -9223372036854775808 ≤ a) (h1 : a ≤ 9223372036854775807) (k0 : -9223372036854775808 ≤ b) (k1 : b ≤ 9223372036854775807) (hp0 : 0 < p) (hp : p ≤ 9223372036854775807) (w : World) :
    Calls Tryz.prog 34 #[.int .i64 a, .int .i64 b, .int .i64 p] w fun e w' => e = .returned (.int .i64 ((a + b) % p)) ∧ w' = w := by
  have hs := rsum11_any (a % p) (b % p) p (mod_in hp0) (mod_in hp0) hp
  rw [show (a % p + b % p) % p = (a + b) % p by rw [← Int.add_emod]] at hs
  have ha := rresidue_any a p h0 h1 hp0 hp
  have hb := rresidue_any b p k0 k1 hp0 hp
  obtain ⟨x, ex⟩ : ∃ x, x = a % p := ⟨_, rfl⟩
  obtain ⟨y, ey⟩ : ∃ y, y = b % p := ⟨_, rfl⟩
  obtain ⟨z, ez⟩ : ∃ z, z = (a + b) % p := ⟨_, rfl⟩
  rw [← ex] at ha hs
  rw [← ey] at hb hs
  rw [← ez] at hs ⊢
  have HS := Lib.hid hs
  have HA := Lib.hid ha
  have HB := Lib.hid hb
  have hp1 : ¬ p < 1 := by omega
  clear hs ha hb ex ey ez
  go_enter Tryz.func34, Tryz.ntmps34
  go_wp2_with fail
  refine (HA.out _).mono ?_
  rintro e w' ⟨rfl, hw⟩
  rw [hw]
  clear hw
  go_wp2_with fail
  refine (HB.out _).mono ?_
  rintro e w' ⟨rfl, hw⟩
  rw [hw]
  clear hw
  go_wp2_with fail
  refine (HS.out _).mono ?_
  rintro e w' ⟨rfl, hw⟩
  rw [hw]
  clear hw
  go_wp2_with fail
  go_ret
  exact ⟨rfl, rfl⟩
/-- What holds between two rounds of the product. -/
def MulI (p g : Int) (x y o : Int) : Prop := 0 ≤ x ∧ x < p ∧ 0 ≤ y ∧ y < p ∧ 0 ≤ o ∧ o < p ∧ (o + x * y) % p = g
theorem mulI_odd {p g x y o : Int} (hp : 0 < p) (h : MulI p g x y o) (hy : y % 2 = 1) : MulI p g ((x + x) % p) (y / 2) ((o + x) % p) := by
  obtain ⟨x0, x1, y0, y1, o0, o1, e⟩ := h
  refine ⟨(mod_in hp).1, (mod_in hp).2, by omega, by omega, (mod_in hp).1, (mod_in hp).2, ?_⟩
  rw [← e, Int.add_emod, Int.mul_emod, Int.emod_emod, Int.emod_emod, ← Int.mul_emod, ← Int.add_emod]
  congr 1
  have : y = 2 * (y / 2) + 1 := by omega
  conv => rhs; rw [this]
  rw [Int.mul_add, Int.mul_one, ← Int.mul_assoc, Int.mul_comm x 2, ← Int.two_mul]
  omega
theorem mulI_even {p g x y o : Int} (hp : 0 < p) (h : MulI p g x y o) (hy : y % 2 = 0) : MulI p g ((x + x) % p) (y / 2) o := by
  obtain ⟨x0, x1, y0, y1, o0, o1, e⟩ := h
  refine ⟨(mod_in hp).1, (mod_in hp).2, by omega, by omega, o0, o1, ?_⟩
  rw [← e, Int.add_emod, Int.mul_emod, Int.emod_emod, ← Int.mul_emod, ← Int.add_emod]
  congr 1
  have : y = 2 * (y / 2) := by omega
  conv => rhs; rw [this]
  rw [← Int.mul_assoc, Int.mul_comm x 2, ← Int.two_mul]
set_option maxHeartbeats 400000 in
theorem rmul_any (a b p : Int) (h0 : -9223372036854775808 ≤ a) (h1 : a ≤ 9223372036854775807) (k0 : -9223372036854775808 ≤ b) (k1 : b ≤ 9223372036854775807) (hp0 : 0 < p) (hp : p ≤ 9223372036854775807) (w : World) :
    Calls Tryz.prog 24 #[.int .i64 a, .int .i64 b, .int .i64 p] w fun e w' => e = .returned (.int .i64 (a * b % p)) ∧ w' = w := by
  have ha := rresidue_any a p h0 h1 hp0 hp
  have hb := rresidue_any b p k0 k1 hp0 hp
  obtain ⟨x, ex⟩ : ∃ x, x = a % p := ⟨_, rfl⟩
  obtain ⟨y, ey⟩ : ∃ y, y = b % p := ⟨_, rfl⟩
  obtain ⟨g, eg⟩ : ∃ g, g = a * b % p := ⟨_, rfl⟩
  have hI : MulI p g x y 0 := by
    refine ⟨by rw [ex]; exact (mod_in hp0).1, by rw [ex]; exact (mod_in hp0).2, by rw [ey]; exact (mod_in hp0).1, by rw [ey]; exact (mod_in hp0).2, by omega, hp0, ?_⟩
    rw [Int.zero_add, ex, ey, ← Int.mul_emod, eg]
  rw [← ex] at ha
  rw [← ey] at hb
  rw [← eg]
  have HA := Lib.hid ha
  have HB := Lib.hid hb
  have HI := Lib.hid hI
  have hp1 : ¬ p < 1 := by omega
  clear ha hb ex ey eg hI
  go_enter Tryz.func24, Tryz.ntmps24
  go_wp2_with fail
  refine (HA.out _).mono ?_
  rintro e w' ⟨rfl, hw⟩
  rw [hw]
  clear hw
  go_wp2_with fail
  refine (HB.out _).mono ?_
  rintro e w' ⟨rfl, hw⟩
  rw [hw]
  clear hw
  go_wp2_with fail
  go_loop [7, 8, 9] (fun x y o => ∃ u v t : Int, x = .int .i64 u ∧ y = .int .i64 v ∧ o = .int .i64 t ∧ MulI p g u v t) (fun _ y _ => (intOf y).toNat)
  case atStart => exact ⟨x, y, 0, rfl, rfl, rfl, HI.out⟩
  case round =>
    obtain ⟨u, v, t, rfl, rfl, rfl, hM⟩ := hrel
    have HM := Lib.hid hM
    obtain ⟨u0, u1, v0, v1, t0, t1, e⟩ := hM
    by_cases hv : v = 0
    · subst hv
      have ht : t = g := by
        rw [Int.mul_zero, Int.add_zero, Int.emod_eq_of_lt t0 t1] at e
        exact e
      clear e
      go_wp2_with fail
      go_ret
      exact ⟨rfl, rfl⟩
    · have hv2 : 0 < v := by omega
      have hdd := rsum11_any u u p ⟨u0, u1⟩ ⟨u0, u1⟩ hp w
      have hss := rsum11_any t u p ⟨t0, t1⟩ ⟨u0, u1⟩ hp w
      have HDD := Lib.hid hdd
      have HSS := Lib.hid hss
      clear e hdd hss
      by_cases ho : v % 2 = 1
      · go_wp2_with fail
        refine HSS.out.mono ?_
        rintro e w' ⟨rfl, hw⟩
        rw [hw]
        clear hw
        have HN := Lib.hid (mulI_odd hp0 HM.out ho)
        go_wp2_with fail
        refine HDD.out.mono ?_
        rintro e w' ⟨rfl, hw⟩
        rw [hw]
        clear hw
        go_wp2_with fail
        go_round
        case rel => exact ⟨_, _, _, rfl, rfl, rfl, HN.out⟩
        case measure => simp [intOf]; omega
      · have ho2 : v % 2 = 0 := by omega
        have HN := Lib.hid (mulI_even hp0 HM.out ho2)
        clear ho
        go_wp2_with fail
        refine HDD.out.mono ?_
        rintro e w' ⟨rfl, hw⟩
        rw [hw]
        clear hw
        go_wp2_with fail
        go_round
        case rel => exact ⟨_, _, _, rfl, rfl, rfl, HN.out⟩
        case measure => simp [intOf]; omega
set_option maxRecDepth 100000 in
set_option maxHeartbeats 400000 in
theorem rhash_any (s : ByteArray) (p : Int) (hs : s.size ≤ 35184372088832) (hp0 : 0 < p) (hp : p ≤ 9223372036854775807) (w : World) :
    Calls Tryz.prog 15 #[.string s, .int .i64 p] w fun e w' => e = .returned (.int .i64 (hashF p s.data.toList)) ∧ Only NoneOf w w' := by
  have hp1 : ¬ p < 1 := by omega
  go_enter Tryz.func15, Tryz.ntmps15
  go_wp2_with fail
  refine (rsum_any s w hs).mono ?_
  rintro e w1 ⟨rfl, ho1⟩
  obtain ⟨h, eh⟩ : ∃ h, h = shaL s.data.toList := ⟨_, rfl⟩
  rw [← eh]
  have hl : h.length = 32 := by rw [eh]; exact shaL_len _
  have hres : hashF p s.data.toList = accF p h := by rw [eh]; rfl
  have HRES := Lib.hid hres
  have hi41 : (Tryz.prog.info? 51).map (·.size) = some (h.map bv).toArray.size := by rw [List.size_toArray, List.length_map, hl]; kernel_rfl
  have hone : (h.map bv).toArray.all (·.oneCell') = true := all_oneCell_toArray (bvs_one _)
  have hthr : (w1.alloc (.cells (Array.replicate 32 (.int .u8 0)) 51)).there w1.heap.size 0 (h.map bv).toArray.size := (Blk.new w1 _ _).there 0 _ (by rw [List.size_toArray, List.length_map, hl]; simp)
  obtain ⟨X, eX⟩ : ∃ X, X = (w1.alloc (.cells (Array.replicate 32 (.int .u8 0)) 51)).setCells w1.heap.size 0 (h.map bv).toArray.toList := ⟨_, rfl⟩
  have hX : Only NoneOf w X := by rw [eX]; exact only_setCells ((Only.refl NoneOf w).trans (ho1.alloc _)) _ _ (.inr ho1.size) _
  have hblk : Blk X w1.heap.size 51 (h.map bv).toArray := by rw [eX]; simpa using (Blk.new w1 51 (Array.replicate 32 (.int .u8 0))).filled (h.map bv).toArray.toList (by simp [hl])
  have HI41 := Lib.hid hi41
  have HONE := Lib.hid hone
  have HTH := Lib.hid hthr
  have HL := Lib.hid hl
  have HX := Lib.hid hX
  have HB := Lib.hid hblk
  have HEX := Lib.hid eX
  obtain ⟨B, eB⟩ : ∃ B, B = w1.heap.size := ⟨_, rfl⟩
  clear eh hl hi41 hone hthr hX hblk ho1 eX hres
  have tok1 : True := trivial
  go_wp2_with (have _t := tok1; refine wpList_store_mid rfl 51 (.tmp 5) (.tmp 11) rfl w1.heap.size 0 (h.map bv).toArray rfl rfl HTH.out HI41.out HONE.out ?_; clear tok1 _t)
  refine wp_world HEX.out ?_
  rw [← eB]
  rw [← eB] at HB
  clear HEX HTH eB
  go_wp2_with fail
  go_loopw [7, 6] (fun v12 v6 wr => ∃ k : Nat, v12 = .int .i64 k ∧ k ≤ 32 ∧ v6 = .int .i64 (accF p (h.take k)) ∧ Blk wr B 51 (h.map bv).toArray ∧ Only NoneOf X wr) (fun v _ _ => 32 - (intOf v).toNat)
  case atStart => exact ⟨0, rfl, by omega, by simp [accF], HB.out, Only.refl _ _⟩
  case round =>
    obtain ⟨k, rfl, hk, rfl, hb, ho⟩ := hrel
    by_cases hlt : k < 32
    · obtain ⟨b, eb⟩ : ∃ b, h[k]? = some b := ⟨_, List.getElem?_eq_getElem (by have := HL.out; omega)⟩
      have hnext : accF p (h.take (k + 1)) = (accF p (h.take k) * 256 % p + (b.toNat : Int)) % p := by rw [List.take_add_one, eb, Option.toList_some, accF_snoc]
      have hin := accF_in p hp0 (h.take k)
      have hin2 := accF_in p hp0 (h.take (k + 1))
      obtain ⟨c, ec⟩ : ∃ c, c = accF p (h.take k) := ⟨_, rfl⟩
      obtain ⟨c2, ec2⟩ : ∃ c2, c2 = accF p (h.take (k + 1)) := ⟨_, rfl⟩
      rw [← ec] at hnext hin ⊢
      rw [← ec2] at hnext hin2
      obtain ⟨m, em⟩ : ∃ m, m = c * 256 % p := ⟨_, rfl⟩
      have hm : 0 ≤ m ∧ m < p := by rw [em]; exact ⟨Int.emod_nonneg _ (by omega), Int.emod_lt_of_pos _ hp0⟩
      have hb255 : b.toNat < 256 := b.toNat_lt
      obtain ⟨bn, ebn⟩ : ∃ bn, bn = b.toNat := ⟨_, rfl⟩
      have hmul := fun W => rmul_any c 256 p (by omega) (by omega) (by omega) (by omega) hp0 hp W
      rw [← em] at hnext hmul
      rw [← ebn] at hnext hb255
      have hadd := fun W => radd_any m (bn : Int) p (by omega) (by omega) (by omega) (by omega) hp0 hp W
      rw [← hnext] at hadd
      have hcell : wr.cell? ⟨B, k, none⟩ = some (.int .u8 (bn : Int)) := by
        rw [hb.cell, List.getElem?_toArray, List.getElem?_map, eb, ebn]; rfl
      have hbi : (bn : Int) < 256 := by omega
      have k32 : (k : Int) < 32 := by omega
      have wbn : IntKind.i64.wrap (bn : Int) = (bn : Int) := IntWalk.i64_in _ (by omega)
      have k0 : 0 ≤ (k : Int) := by omega
      have HMUL := Lib.hid hmul
      have HADD := Lib.hid hadd
      have HBB := Lib.hid hb
      have HO := Lib.hid ho
      have EC2 := Lib.hid ec2
      have HIN2 := Lib.hid hin2
      clear hnext hin hin2 ec ec2 em hm eb ebn hmul hadd hb ho
      go_wp2_with fail
      go_region_held3 (fun w' => w'.cell? ⟨B, k, none⟩ = some (.int .u8 (bn : Int))) (first | assumption | exact hcell | go_keep)
        (first
          | (go_at_call 24; refine (HMUL.out _).mono ?_; rintro e w9 ⟨rfl, hw9⟩; rw [hw9]; clear hw9)
          | (go_at_call 34; refine (HADD.out _).mono ?_; rintro e w9 ⟨rfl, hw9⟩; rw [hw9]; clear hw9))
      all_goals
        go_wp2_with fail
        go_roundw
        case rel => exact ⟨k + 1, by go_num, by omega, by rw [EC2.out], HBB.out, only_drewN HO.out _⟩
        case measure => simp [intOf]; omega
    · obtain rfl : k = 32 := by omega
      have hall : h.take 32 = h := List.take_of_length_le (by rw [HL.out]; exact Nat.le_refl _)
      have HO := Lib.hid ho
      have HALL := Lib.hid hall
      clear hall ho hb
      go_wp2_with fail
      go_ret
      exact ⟨by rw [HRES.out]; show Ending.returned (.int .i64 (accF p (h.take 32))) = _; rw [HALL.out], HX.out.trans HO.out⟩
end Go.Proofs.YtmgbcjjemlcfgaaGreatDoor
