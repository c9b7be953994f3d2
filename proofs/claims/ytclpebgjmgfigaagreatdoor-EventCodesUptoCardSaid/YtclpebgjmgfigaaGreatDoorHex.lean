/- What is proved here: a builder of strings takes a byte; a hash's text in hexadecimal, by the program. Condition: what the builder holds is shorter than 2^47 bytes. -/
import Derived.Test.YtclpebgjmgfigaaGreatDoorB1
import Derived.Test.YtclpebgjmgfigaaGreatDoorEvA
import Derived.Deep.MidRow
namespace Go.Proofs.YtclpebgjmgfigaaGreatDoor
open Go.RowKit Go.Shelf
set_option maxRecDepth 100000 in
set_option maxHeartbeats 1000000 in
theorem bwb_any {B b : Nat} {l : List UInt8} {c : UInt8} {w : World} (h : Lib.IsBuilder 99 5 B b (Lib.byteCells l) w) (hlen : l.length + 1 ≤ 140737488355328) (hBw : B ≤ w.heap.size) :
    Calls Tryz.prog 56 #[.pointer (some ⟨b, 0, none⟩), .int .u8 (c.toNat : Int)] w fun e w' => e = .returned .nilIface ∧ Lib.IsBuilder 99 5 B b (Lib.byteCells (l ++ [c])) w' ∧ Below B w w' := by
  obtain ⟨i0, hi, hz0, hz1, hz2⟩ := info_parts Tryz.info5
  have H := Lib.hid h
  clear h
  go_enter Tryz.func56, Tryz.ntmps56
  go_wp2_with fail
  refine (bcheck_any H.out).mono ?_
  rintro e w1 ⟨rfl, h1, hb1⟩
  obtain ⟨hB, v, hbk, hown, hne⟩ := h1
  have c0 : w1.cell? ⟨b, 0, none⟩ = some (.pointer (some ⟨b, 0, none⟩)) := by rw [Lib.cell_of_heap hbk]; rfl
  have c1 : w1.cell? ⟨b, 1, none⟩ = some v := by rw [Lib.cell_of_heap hbk]; rfl
  have hlt : b < w1.heap.size := (Array.getElem?_eq_some_iff.1 hbk).1
  have hsz := hb1.size
  have HBK := Lib.hid hbk
  have HOWN := Lib.hid hown
  have HNE := Lib.hid hne
  have HB1 := Lib.hid hb1
  rw [Lib.byteCells_length] at HOWN
  clear hbk hown hne hb1
  go_wp2_with (at_builtin; refine wpList_append_own _ rfl _ _ 39 rfl B 5 i0 (.int .u8 0) 1 1 Tryz.underlying39 hi hz0 hz1 hz2 rfl (by decide) _ _ _ rfl (HOWN.out.alloc _) ⟨w1.heap.size, 0, none⟩ 1 1 [.int .u8 (c.toNat : Int)] rfl rfl (fun j u hj => by match j, hj with | 0, hj => simp at hj; subst hj; simp [Addr.add]) (fun u hu => by simp at hu; subst hu; rfl) (by unfold maxLen; omega) (by omega) (by simp; omega) ?_; intro v' w2 hown' hgrow _; have hb2 : w2.heap[b]? = some (.cells #[.pointer (some ⟨b, 0, none⟩), v] 99 (0, 0)) := (by rw [hgrow.block b (by simp; omega) (fun e => HNE.out e.symm), Lib.alloc_old w1 _ b hlt]; exact HBK.out); obtain ⟨ao, cap, hv', hcc, hcm⟩ := own_form' hown'; subst hv'; have d0 : w2.cell? ⟨b, 0, none⟩ = some (.pointer (some ⟨b, 0, none⟩)) := (by rw [Lib.cell_of_heap hb2]; rfl); have d1 : w2.cell? ⟨b, 1, none⟩ = some v := (by rw [Lib.cell_of_heap hb2]; rfl); have f1 : w2.frozen? ⟨b, 1, none⟩ = false := Lib.frozen_of_heap hb2 1; have HB2 := Lib.hid hb2; have HOW2 := Lib.hid hown'; have HGR := Lib.hid hgrow; clear hb2 hown' hgrow)
  go_ret
  refine ⟨rfl, .inr ?_, ?_⟩
  · refine Lib.BuilderAt.put (T := 99) (e := 5) hB HB2.out (bs' := Lib.byteCells (l ++ [c])) ?_ (by decide)
    have h := HOW2.out
    have e : Lib.byteCells (l ++ [c]) = Lib.byteCells l ++ [.int .u8 (c.toNat : Int)] := by simp [Lib.byteCells]
    rw [Lib.byteCells_length, List.length_append, e]
    exact h
  · exact ((HB1.out.alloc (by have := HB1.out.size; omega) _).grown HGR.out (by have := HB1.out.size; simp; omega) (fun k hk => (HOWN.out.lt k hk).1)).setCell (p := ⟨b, 1, none⟩) hB _
theorem hexL_snoc (l : List UInt8) (c : UInt8) : hexL (l ++ [c]) = hexL l ++ [hexC (c.toNat / 16)] ++ [hexC (c.toNat % 16)] := by
  induction l with
  | nil => rfl
  | cons x l ih => simp only [List.cons_append, hexL, ih]
abbrev hexD : ByteArray := ⟨#[48, 49, 50, 51, 52, 53, 54, 55, 56, 57, 97, 98, 99, 100, 101, 102]⟩
theorem hexD_idx : ∀ n : Nat, (h : n < hexD.size) → hexD[n]'h = hexC n := by decide
set_option maxRecDepth 100000 in
set_option maxHeartbeats 1000000 in
theorem dtext_any (h : List UInt8) (hl : h.length = 32) (w : World) : Calls Tryz.prog 31 #[hv h] w (RetStr (hexL h) w) := by
  unfold hv
  have hi : (Tryz.prog.info? 25).map (·.size) = some (h.map bv).length := by rw [List.length_map, hl]; kernel_rfl
  have hr : ((w.alloc (.cells (h.map bv).toArray 25)).alloc (.cells #[.pointer none, .slice none 0 0] 99)).rangeAt w.heap.size 0 (h.map bv) := fun j v hj => by
    have hb := (Blk.new w 25 (h.map bv).toArray).alloc (.cells #[.pointer none, .slice none 0 0] 99)
    rw [Nat.zero_add, hb.cell]
    simpa using hj
  have hb0 := Lib.fresh_isBuilder 99 5 (w.alloc (.cells (h.map bv).toArray 25))
  have ho0 : Only NoneOf w ((w.alloc (.cells (h.map bv).toArray 25)).alloc (.cells #[.pointer none, .slice none 0 0] 99)) := ((Only.refl _ _).alloc _).alloc _
  have HI := Lib.hid hi
  have HR := Lib.hid hr
  have HB0 := Lib.hid hb0
  have HO0 := Lib.hid ho0
  have HL := Lib.hid hl
  clear hi hr hb0 ho0 hl
  have tok : True := trivial
  go_enter Tryz.func31, Tryz.ntmps31
  go_wp2_with (have _t := tok; refine wpList_load_mid rfl 25 (.tmp 1) rfl w.heap.size 0 rfl (h.map bv) _ HR.out Tryz.underlying25 rfl HI.out ?_; clear tok _t)
  obtain ⟨Y, eY⟩ : ∃ Y, Y = (w.alloc (.cells (h.map bv).toArray 25)).alloc (.cells #[.pointer none, .slice none 0 0] 99) := ⟨_, rfl⟩
  have hb1 := HB0.out
  have ho1 := HO0.out
  rw [← eY] at hb1 ho1
  rw [← eY]
  rw [World.size_alloc] at hb1
  obtain ⟨B, eB⟩ : ∃ B, B = w.heap.size + 1 := ⟨_, rfl⟩
  rw [← eB] at hb1 ⊢
  have HB1 := Lib.hid hb1
  have HO1 := Lib.hid ho1
  have hBw : w.heap.size ≤ B := by omega
  have hBY : B ≤ Y.heap.size := by rw [eY, eB]; simp
  clear hb1 ho1 eY eB HB0 HO0 HR
  go_loopw [7] (fun i wr => ∃ k : Nat, i = .int .i64 k ∧ k ≤ 32 ∧ Lib.IsBuilder 99 5 B B (Lib.byteCells (hexL (h.take k))) wr ∧ Only NoneOf w wr ∧ B ≤ wr.heap.size) (fun i _ => 32 - (intOf i).toNat)
  case atStart => exact ⟨0, rfl, by omega, by simpa [hexL, Lib.byteCells] using HB1.out, HO1.out, hBY⟩
  case round =>
    obtain ⟨k, rfl, hk, hb, ho, hB⟩ := hrel
    have HB := Lib.hid hb
    have HO := Lib.hid ho
    clear hb ho
    by_cases hlt : k < 32
    · obtain ⟨x, hx⟩ : ∃ x, h[k]? = some x := ⟨_, List.getElem?_eq_getElem (by have := HL.out; omega)⟩
      have hix : ∀ W, (Instr.index 25 (.agg (h.map bv).toArray) (.int .i64 (k : Int))).run Tryz.prog W = .ok (.int .u8 (x.toNat : Int)) W := fun W => run_index_arr (v := bv x) Tryz.underlying25 size_u8 (fun W => by kernel_rfl) hlt (by rw [List.getElem?_toArray, List.getElem?_map, hx]; rfl) W
      have hnx : hexL (h.take (k + 1)) = hexL (h.take k) ++ [hexC (x.toNat / 16)] ++ [hexC (x.toNat % 16)] := by
        rw [List.take_add_one, hx, Option.toList_some, hexL_snoc]
      have hlk : (hexL (h.take k)).length ≤ 64 := by rw [hexL_len, List.length_take]; omega
      have hx256 := x.toNat_lt
      have ik : (k : Int) < 32 := by omega
      have HNX := Lib.hid hnx
      clear hnx hx
      go_wp2_with fail
      refine (bwb_any HB.out (by omega) hB).mono ?_
      rintro e w1 ⟨rfl, hb1, hbel1⟩
      rw [hexD_idx] at hb1
      have ho1 := HO.out.below' hbel1 hBw
      have hB1 : B ≤ w1.heap.size := Nat.le_trans hB hbel1.size
      have HB1 := Lib.hid hb1
      have HO1 := Lib.hid ho1
      clear hb1 ho1 hbel1
      go_wp2_with fail
      refine (bwb_any HB1.out (by rw [List.length_append, List.length_singleton]; omega) hB1).mono ?_
      rintro e w2 ⟨rfl, hb2, hbel2⟩
      rw [hexD_idx, ← HNX.out] at hb2
      have ho2 := HO1.out.below' hbel2 hBw
      have hB2 : B ≤ w2.heap.size := Nat.le_trans hB1 hbel2.size
      have HB2 := Lib.hid hb2
      have HO2 := Lib.hid ho2
      clear hb2 ho2 hbel2
      go_wp2_with fail
      go_roundw
      case rel => exact ⟨k + 1, by go_num, by omega, HB2.out, HO2.out, hB2⟩
      case measure => simp [intOf]; omega
    · have hall : h.take k = h := List.take_of_length_le (by have := HL.out; omega)
      rw [hall] at HB
      have ik : ¬ (k : Int) < 32 := by omega
      clear hall
      go_wp2_with fail
      refine (Tryz.Builder_String_any B B _ wr HB.out hB).mono ?_
      rintro e w1 ⟨rfl, hbel⟩
      have HO1 := Lib.hid (HO.out.below' hbel hBw)
      clear hbel
      go_wp2_with fail
      go_ret
      exact RetStr.mk (by simp) HO1.out
end Go.Proofs.YtclpebgjmgfigaaGreatDoor
