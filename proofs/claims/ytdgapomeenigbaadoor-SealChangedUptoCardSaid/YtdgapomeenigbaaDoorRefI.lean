/- What is proved here: the reference of sealing: the combined text, the sealed text, and the opened one. Conditions: the texts are short. -/
import Derived.Test.YtdgapomeenigbaaDoorRefH
import Derived.Test.YtdgapomeenigbaaDoorPlainB
import Derived.Test.YtdgapomeenigbaaDoorStream
import Derived.BigRegion
namespace Go.Proofs.YtdgapomeenigbaaDoor
open Go.RowKit Go.Shelf
/-- The bytes when k have been combined. -/
def mixed14 (key : Int) (l : List UInt8) (k : Nat) : List UInt8 := (combL key l).take k ++ List.replicate (l.length - k) 0
theorem mixed14_len (key : Int) (l : List UInt8) (k : Nat) (h : k ≤ l.length) : (mixed14 key l k).length = l.length := by simp [mixed14, combL_len]; omega
theorem mixed14_set {key : Int} {l : List UInt8} {k : Nat} {x : UInt8} (hx : l[k]? = some x) : ((mixed14 key l k).map bv).toArray.setIfInBounds k (bv (x ^^^ sbyte key k)) = ((mixed14 key l (k + 1)).map bv).toArray := by
  have hk : k < l.length := (List.getElem?_eq_some_iff.1 hx).1
  have hc : (combL key l)[k]? = some (x ^^^ sbyte key k) := by rw [combL_get, hx]; rfl
  have hl : ((combL key l).take k).length = k := by rw [List.length_take, combL_len]; omega
  rw [List.setIfInBounds_toArray, ← List.map_set, mixed14, mixed14, List.set_append_right _ _ (by omega), hl, Nat.sub_self, show l.length - k = (l.length - (k + 1)) + 1 by omega, List.replicate_succ, List.set_cons_zero, List.take_add_one, hc]
  simp
theorem mixed14_all (key : Int) (l : List UInt8) : mixed14 key l l.length = combL key l := by
  simp only [mixed14, Nat.sub_self, List.replicate_zero, List.append_nil]
  rw [List.take_of_length_le (by rw [combL_len]; exact Nat.le_refl _)]
def CmbI (w : World) (O B : Nat) (key : Int) (l : List UInt8) (k : Nat) (wr : World) : Prop :=
  Blk wr O 5 ((mixed14 key l k).map bv).toArray ∧ (k % 32 = 0 → ∃ h : List UInt8, h.length = 32 ∧ Blk wr B 41 (h.map bv).toArray) ∧ (k % 32 ≠ 0 → Blk wr B 41 ((shaL (streamS key (k / 32))).map bv).toArray) ∧ Only NoneOf w wr
set_option maxRecDepth 100000 in
set_option maxHeartbeats 1000000 in
theorem combined_any (key : Int) (h0 : -9223372036854775808 ≤ key) (h1 : key ≤ 9223372036854775807) (s : ByteArray) (hs : s.size ≤ 17592186044416) (w : World) :
    Calls Tryd.prog 24 #[.int .i64 key, .string s] w (RetStr (combL key s.data.toList) w) := by
  have HN := Lib.hid (number14_any key h0 h1)
  have HL := Lib.hid (itoa_len h0 h1)
  have hmk := run_make_row' (P := Tryd.prog) 32 5 (.int .u8 0) 1 Tryd.underlying32 info_u8 rfl .i64 .i64 s.size (by omega) (by omega) w
  rw [madeBytes] at hmk
  have hl : s.data.toList.length = s.size := by simp
  have hm0 : ((mixed14 key s.data.toList 0).map bv).toArray = Array.replicate s.size (bv 0) := by
    simp only [mixed14, List.take_zero, List.nil_append, Nat.sub_zero, hl]
    simp
  have HM0 := Lib.hid hm0
  have HSL := Lib.hid hl
  clear h0 h1 hl hm0
  go_enter Tryd.func24, Tryd.ntmps24
  go_wp2_with fail
  clear hmk
  obtain ⟨O, eO⟩ : ∃ O, O = w.heap.size := ⟨_, rfl⟩
  obtain ⟨l, el⟩ : ∃ l, l = s.data.toList := ⟨_, rfl⟩
  have hstart : CmbI w O (O + 1) key l 0 ((w.alloc (.cells (Array.replicate s.size (bv 0)) 5)).alloc (.cells (Array.replicate 32 (.int .u8 0)) 41)) := by
    refine ⟨?_, fun _ => ⟨List.replicate 32 0, by simp, ?_⟩, fun e => absurd rfl e, ((Only.refl _ _).alloc _).alloc _⟩
    · rw [eO, el, HM0.out]; exact (Blk.new w _ _).alloc _
    · rw [eO]
      have h := Blk.new (w.alloc (.cells (Array.replicate s.size (bv 0)) 5)) 41 (Array.replicate 32 (.int .u8 0))
      rw [World.size_alloc] at h
      have e : ((List.replicate 32 (0 : UInt8)).map bv).toArray = Array.replicate 32 (.int .u8 0) := rfl
      rw [e]
      exact h
  have HST := Lib.hid hstart
  have hsl : l.length = s.size := by rw [el]; exact HSL.out
  have HLL := Lib.hid hsl
  rw [← eO, ← el]
  have EO := Lib.hid eO
  have EL := Lib.hid el
  clear eO el hstart hsl HM0 HSL
  go_loopw [7] (fun v wr => ∃ k : Nat, v = .int .i64 k ∧ k ≤ s.size ∧ CmbI w O (O + 1) key l k wr) (fun v _ => s.size - (intOf v).toNat)
  case atStart => exact ⟨0, rfl, Nat.zero_le _, HST.out⟩
  case round =>
    obtain ⟨k, rfl, hk, hI⟩ := hrel
    by_cases hlt : k < s.size
    · obtain ⟨r, er⟩ : ∃ r, r = k % 32 := ⟨_, rfl⟩
      obtain ⟨d, ed⟩ : ∃ d, d = k / 32 := ⟨_, rfl⟩
      have er2 : (k : Int) % 32 = (r : Int) := by omega
      have ed2 : (k : Int) / 32 = (d : Int) := by omega
      have er3 : (k : Int).tmod 32 = (r : Int) := by rw [Int.tmod_eq_emod_of_nonneg (by omega)]; omega
      have hr32 : r < 32 := by omega
      have hd : d ≤ 17592186044416 := by omega
      obtain ⟨x, ex⟩ : ∃ x, x = s[k] := ⟨_, rfl⟩
      have hx : l[k]? = some x := by
        rw [EL.out, List.getElem?_eq_getElem (by simpa using hlt), ex]
        rfl
      have HXX := Lib.hid hx
      have EX := Lib.hid ex
      have ER := Lib.hid er
      have ED := Lib.hid ed
      have hO := hI.1
      have HOB := Lib.hid hO
      have HON := Lib.hid hI.2.2.2
      have hk2 : (k : Int) < (s.size : Int) := by omega
      have k0 : 0 ≤ (k : Int) := by omega
      have KL := Lib.hid hk
      obtain ⟨g, eg⟩ : ∃ g, g = shaL (streamS key d) := ⟨_, rfl⟩
      have hg : g.length = 32 := by rw [eg]; exact shaL_len _
      have EG := Lib.hid eg
      have HG := Lib.hid hg
      clear eg hg
      by_cases hr0 : r = 0
      · obtain ⟨h, hh, hhb⟩ := hI.2.1 (by omega)
        have HHB := Lib.hid hhb
        have HH := Lib.hid hh
        have hr02 : ((r : Int) == 0) = true := by simp; omega
        clear hI hO ex er ed hhb hh hx hr0
        go_wp2_with fail
        refine (HN.out _).mono ?_
        rintro e w1 ⟨t1, rfl, ht1, ho1⟩
        have zt1 : t1.size ≤ 21 := by rw [size_list, ht1]; exact HL.out
        have HT1 := Lib.hid ht1
        have HO1 := Lib.hid ho1
        clear ht1 ho1
        go_wp2_with fail
        refine (number14_any (d : Int) (by omega) (by omega) _).mono ?_
        rintro e w2 ⟨t2, rfl, ht2, ho2⟩
        have zt2 : t2.size ≤ 21 := by rw [size_list, ht2]; exact itoa_len (by omega) (by omega)
        have HT2 := Lib.hid ht2
        have HO2 := Lib.hid ho2
        clear ht2 ho2
        go_wp2_with fail
        refine (rsum_any _ _ ?hs).mono ?_
        case hs =>
          have z6 : (⟨#[115, 116, 114, 101, 97, 109, 47]⟩ : ByteArray).size = 7 := rfl
          have z1 : (⟨#[47]⟩ : ByteArray).size = 1 := rfl
          simp only [ByteArray.size_append]; omega
        rintro e w3 ⟨rfl, ho3⟩
        have e1 : shaL ((⟨#[115, 116, 114, 101, 97, 109, 47]⟩ ++ t1 ++ ⟨#[47]⟩ ++ t2 : ByteArray).data.toList) = shaL (streamS key d) := by
          rw [append_list, append_list, append_list, HT1.out, HT2.out]; rfl
        rw [e1, ← EG.out]
        have hg := HG.out
        have hi41 : (Tryd.prog.info? 41).map (·.size) = some (g.map bv).toArray.size := by rw [List.size_toArray, List.length_map, hg]; kernel_rfl
        have hone : (g.map bv).toArray.all (·.oneCell') = true := all_oneCell_toArray (bvs_one _)
        have h123 := HO1.out.trans (HO2.out.trans ho3)
        have hb3 := HHB.out.only h123 (fun e => e)
        have hth := hb3.there 0 (g.map bv).toArray.size (by simp [HH.out, hg])
        have hfill : Blk (w3.setCells (O + 1) 0 (g.map bv).toArray.toList) (O + 1) 41 (g.map bv).toArray := hb3.filled _ (by simp [HH.out, hg])
        have hob := Blk.farCells (b := O + 1) (by omega) (g.map bv).toArray.toList 0 (HOB.out.only h123 (fun e => e))
        have hon : Only NoneOf w (w3.setCells (O + 1) 0 (g.map bv).toArray.toList) := only_setCells (HON.out.trans h123) _ _ (.inr (by rw [EO.out]; omega)) _
        have HI41 := Lib.hid hi41
        have HONE := Lib.hid hone
        have HTH := Lib.hid hth
        have HFILL := Lib.hid hfill
        have HOBX := Lib.hid hob
        have HONX := Lib.hid hon
        clear e1 hg hi41 hone h123 hb3 hth hfill hob hon ho3
        have tok1 : True := trivial
        go_wp2_with (have _t := tok1; refine wpList_store_mid rfl 41 (.tmp 6) (.tmp 28) rfl (O + 1) 0 (g.map bv).toArray rfl rfl HTH.out HI41.out HONE.out ?_; clear tok1 _t)
        go_frame
        refine wp_gen (fun X => Blk X (O + 1) 41 (g.map bv).toArray ∧ Blk X O 5 ((mixed14 key l k).map bv).toArray ∧ Only NoneOf w X) ⟨HFILL.out, HOBX.out, HONX.out⟩ ?_
        rintro X ⟨hB, hO, hN⟩
        have HBX := Lib.hid hB
        have HOX := Lib.hid hO
        have HNX := Lib.hid hN
        clear hB hO hN
        obtain ⟨y, ey⟩ : ∃ y, g[r]? = some y := ⟨_, List.getElem?_eq_getElem (by have := HG.out; omega)⟩
        have cy : X.cell? ⟨O + 1, r, none⟩ = some (.int .u8 (y.toNat : Int)) := by
          rw [HBX.out.cell, List.getElem?_toArray, List.getElem?_map, ey]; rfl
        have cz : X.cell? ⟨O, k, none⟩ = some (.int .u8 0) := by
          rw [HOX.out.cell, List.getElem?_toArray, List.getElem?_map, mixed14, List.getElem?_append_right (by rw [List.length_take, combL_len]; have := HLL.out; omega), List.getElem?_replicate, if_pos (by rw [List.length_take, combL_len]; have := HLL.out; omega)]
          rfl
        have fz := HOX.out.frozen k
        have hsb : y = sbyte key k := by
          unfold sbyte
          rw [← ED.out, ← ER.out, ← EG.out, ey]
          rfl
        have HSB := Lib.hid hsb
        have r0 : 0 ≤ (r : Int) := by omega
        have r32 : (r : Int) < 32 := by omega
        clear hsb ey
        go_region
        go_wp2_with fail
        go_roundw
        case rel =>
          refine ⟨k + 1, by go_num, by omega, ?_⟩
          have hset := HOX.out.drew.set_ k (bv (x ^^^ y))
          have hon2 := HNX.out.drew.setCell (p := ⟨O, k, none⟩) (.inr (by rw [EO.out]; exact Nat.le_refl _)) (bv (x ^^^ y))
          have hb2 := HBX.out.drew.far (p := ⟨O, k, none⟩) (by show O + 1 ≠ O; omega) (bv (x ^^^ y))
          rw [HSB.out, mixed14_set HXX.out] at hset
          rw [← EX.out, b_xor, HSB.out]
          rw [HSB.out] at hon2 hb2
          refine ⟨hset, fun _ => ⟨g, HG.out, hb2⟩, fun hne => ?_, hon2⟩
          rw [show (k + 1) / 32 = d by have := ED.out; omega, ← EG.out]
          exact hb2
        case measure => simp [intOf]; omega
      · have hr02 : ((r : Int) == 0) = false := by simp; omega
        have hB0 := hI.2.2.1 (by omega)
        rw [← ed, ← EG.out] at hB0
        have HB0 := Lib.hid hB0
        clear hI hO ex er ed hx hr0 hB0
        go_wp2_with fail
        refine wp_gen (fun X => Blk X (O + 1) 41 (g.map bv).toArray ∧ Blk X O 5 ((mixed14 key l k).map bv).toArray ∧ Only NoneOf w X) ⟨HB0.out, HOB.out, HON.out⟩ ?_
        rintro X ⟨hB, hO, hN⟩
        have HBX := Lib.hid hB
        have HOX := Lib.hid hO
        have HNX := Lib.hid hN
        clear hB hO hN
        obtain ⟨y, ey⟩ : ∃ y, g[r]? = some y := ⟨_, List.getElem?_eq_getElem (by have := HG.out; omega)⟩
        have cy : X.cell? ⟨O + 1, r, none⟩ = some (.int .u8 (y.toNat : Int)) := by
          rw [HBX.out.cell, List.getElem?_toArray, List.getElem?_map, ey]; rfl
        have cz : X.cell? ⟨O, k, none⟩ = some (.int .u8 0) := by
          rw [HOX.out.cell, List.getElem?_toArray, List.getElem?_map, mixed14, List.getElem?_append_right (by rw [List.length_take, combL_len]; have := HLL.out; omega), List.getElem?_replicate, if_pos (by rw [List.length_take, combL_len]; have := HLL.out; omega)]
          rfl
        have fz := HOX.out.frozen k
        have hsb : y = sbyte key k := by
          unfold sbyte
          rw [← ED.out, ← ER.out, ← EG.out, ey]
          rfl
        have HSB := Lib.hid hsb
        have r0 : 0 ≤ (r : Int) := by omega
        have r32 : (r : Int) < 32 := by omega
        clear hsb ey
        go_region
        go_wp2_with fail
        go_roundw
        case rel =>
          refine ⟨k + 1, by go_num, by omega, ?_⟩
          have hset := HOX.out.drew.set_ k (bv (x ^^^ y))
          have hon2 := HNX.out.drew.setCell (p := ⟨O, k, none⟩) (.inr (by rw [EO.out]; exact Nat.le_refl _)) (bv (x ^^^ y))
          have hb2 := HBX.out.drew.far (p := ⟨O, k, none⟩) (by show O + 1 ≠ O; omega) (bv (x ^^^ y))
          rw [HSB.out, mixed14_set HXX.out] at hset
          rw [← EX.out, b_xor, HSB.out]
          rw [HSB.out] at hon2 hb2
          refine ⟨hset, fun _ => ⟨g, HG.out, hb2⟩, fun hne => ?_, hon2⟩
          rw [show (k + 1) / 32 = d by have := ED.out; omega, ← EG.out]
          exact hb2
        case measure => simp [intOf]; omega
    · obtain rfl : k = s.size := by omega
      have hby : BytesAt wr O 0 (combL key l) := by
        have h := hI.1
        rw [← HLL.out, mixed14_all] at h
        exact blk_bytes h
      have HBY := Lib.hid hby
      have HON := Lib.hid hI.2.2.2
      have hcl : (combL key l).length = s.size := by rw [combL_len]; exact HLL.out
      have HCL := Lib.hid hcl
      have hk2 : ¬ (s.size : Int) < (s.size : Int) := by omega
      clear hI hby hcl
      have tok : True := trivial
      go_wp2_with (have _t := tok; refine wpList_convert_back rfl 32 9 5 (.tmp 40) rfl O 0 s.size s.size rfl (combL key l) HCL.out HBY.out Tryd.underlying32 Tryd.underlying5 Tryd.underlying9 ?_; clear tok _t)
      go_ret
      exact RetStr.mk (by rw [← EL.out]) HON.out
end Go.Proofs.YtdgapomeenigbaaDoor
