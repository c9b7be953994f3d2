/- What is proved here: the reference's hash as text. Conditions: none. -/
import Derived.Test.YtclpebgjmgfigaaGreatDoorEvN
namespace Go.Proofs.YtclpebgjmgfigaaGreatDoor
open Go.RowKit Go.Shelf
theorem hexC_ext : ∀ n : Nat, n < 16 → ((⟨#[48, 49, 50, 51, 52, 53, 54, 55, 56, 57, 97, 98, 99, 100, 101, 102]⟩ : ByteArray).extract n (n + 1)).data.toList = [hexC n] := by decide +kernel
set_option maxRecDepth 100000 in
set_option maxHeartbeats 2000000 in
theorem rtext09_any (h : List UInt8) (hl : h.length = 32) (w : World) : Calls Tryz.prog 35 #[hv h] w (RetStr (hexL h) w) := by
  unfold hv
  have hb0 : Blk (w.alloc (.cells (h.map bv).toArray 25)) w.heap.size 25 (h.map bv).toArray := Blk.new w _ _
  have ho0 : Only NoneOf w (w.alloc (.cells (h.map bv).toArray 25)) := (Only.refl _ _).alloc _
  obtain ⟨B, eB⟩ : ∃ B, B = w.heap.size := ⟨_, rfl⟩
  have HB0 := Lib.hid hb0
  have HO0 := Lib.hid ho0
  have HL := Lib.hid hl
  clear hb0 ho0 hl
  go_enter Tryz.func35, Tryz.ntmps35
  go_wp2_with fail
  refine wp_gen (fun Y => Blk Y w.heap.size 25 (h.map bv).toArray ∧ Only NoneOf w Y) ⟨HB0.out, HO0.out⟩ ?_
  rintro Y ⟨hb, ho⟩
  have HB := Lib.hid hb
  have HO := Lib.hid ho
  clear hb ho HB0 HO0
  rw [← eB] at HB ⊢
  clear eB
  go_loopw [3, 4] (fun v i wr => ∃ (k : Nat) (s : ByteArray), i = .int .i64 k ∧ v = .string s ∧ k ≤ 32 ∧ s.data.toList = hexL (h.take k) ∧ Blk wr B 25 (h.map bv).toArray ∧ Only NoneOf w wr) (fun _ i _ => 32 - (intOf i).toNat)
  case atStart => exact ⟨0, ⟨#[]⟩, rfl, rfl, by omega, rfl, HB.out, HO.out⟩
  case round =>
    obtain ⟨k, s, rfl, rfl, hk, hs, hb, ho⟩ := hrel
    by_cases hlt : k < 32
    · obtain ⟨x, hx⟩ : ∃ x, h[k]? = some x := ⟨_, List.getElem?_eq_getElem (by have := HL.out; omega)⟩
      have hc : wr.cell? ⟨B, k, none⟩ = some (.int .u8 (x.toNat : Int)) := by rw [hb.cell, List.getElem?_toArray, List.getElem?_map, hx]; rfl
      have hx256 := x.toNat_lt
      have ik : (k : Int) < 32 := by omega
      have HBK := Lib.hid hb
      have HOK := Lib.hid ho
      have HSK := Lib.hid hs
      clear hb ho hs
      go_upto_region 5 with (fail)
      have hsz : s.size ≤ 64 := by rw [size_list, HSK.out, hexL_len, List.length_take]; omega
      have hs1 : s.size + 1 ≤ 9223372036854775807 := by omega
      have hs2 : s.size + 1 + 1 ≤ 9223372036854775807 := by omega
      have hnx : hexL (h.take (k + 1)) = hexL (h.take k) ++ [hexC (x.toNat / 16)] ++ [hexC (x.toNat % 16)] := by
        rw [List.take_add_one, hx, Option.toList_some, hexL_snoc]
      have HNX := Lib.hid hnx
      have HX := Lib.hid hx256
      clear hnx
      go_region
      go_wp2_with fail
      go_roundw
      case rel =>
        refine ⟨k + 1, _, by go_num, rfl, by omega, ?_, HBK.out.drew, HOK.out.drew⟩
        rw [HNX.out, ByteArray.data_append, ByteArray.data_append, Array.toList_append, Array.toList_append, HSK.out, hexC_ext _ (by omega), hexC_ext _ (by omega)]
      case measure => simp [intOf]; omega
    · obtain rfl : k = 32 := by omega
      have ik : ¬ ((32 : Nat) : Int) < 32 := by omega
      have HOK := Lib.hid ho
      have hall : h.take 32 = h := List.take_of_length_le (by rw [HL.out]; exact Nat.le_refl _)
      rw [hall] at hs
      have HSK := Lib.hid hs
      clear hb ho hs hall
      go_wp2_with fail
      refine ⟨rfl, _, results_tmp rfl _ _ _, ?_⟩
      exact RetStr.mk HSK.out HOK.out
end Go.Proofs.YtclpebgjmgfigaaGreatDoor
