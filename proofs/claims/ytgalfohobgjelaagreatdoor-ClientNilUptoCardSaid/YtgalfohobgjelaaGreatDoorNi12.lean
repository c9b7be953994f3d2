/- What is proved here: several parts. the reference's hash as text. Conditions: none. · texts of heads and of votes, and signed votes, by the program and by the reference. Conditions: the numbers are ints, roots have 32 bytes; for the program the table of powers of ten reads as its initialiser lays it. -/
import Derived.Test.YtgalfohobgjelaaGreatDoorNi04
import Derived.Test.YtgalfohobgjelaaGreatDoorNi08
import Derived.Test.YtgalfohobgjelaaGreatDoorNi09
import Derived.Test.YtgalfohobgjelaaGreatDoorNi11
import Derived.Deep.DeepCutAuto
import Derived.Deep.RegionHeld3
namespace Go.Proofs.YtgalfohobgjelaaGreatDoor
open Go.RowKit Go.Shelf
theorem hexC_ext : ∀ n : Nat, n < 16 → ((⟨#[48, 49, 50, 51, 52, 53, 54, 55, 56, 57, 97, 98, 99, 100, 101, 102]⟩ : ByteArray).extract n (n + 1)).data.toList = [hexC n] := by decide +kernel
set_option maxRecDepth 100000 in
set_option maxHeartbeats 2000000 in
theorem rtext09_any (h : List UInt8) (hl : h.length = 32) (w : World) : Calls Tryz.prog 93 #[hv h] w (RetStr (hexL h) w) := by
  unfold hv
  have hb0 : Blk (w.alloc (.cells (h.map bv).toArray 35)) w.heap.size 35 (h.map bv).toArray := Blk.new w _ _
  have ho0 : Only NoneOf w (w.alloc (.cells (h.map bv).toArray 35)) := (Only.refl _ _).alloc _
  obtain ⟨B, eB⟩ : ∃ B, B = w.heap.size := ⟨_, rfl⟩
  have HB0 := Lib.hid hb0
  have HO0 := Lib.hid ho0
  have HL := Lib.hid hl
  clear hb0 ho0 hl
  go_enter Tryz.func93, Tryz.ntmps93
  go_wp2_with fail
  refine wp_gen (fun Y => Blk Y w.heap.size 35 (h.map bv).toArray ∧ Only NoneOf w Y) ⟨HB0.out, HO0.out⟩ ?_
  rintro Y ⟨hb, ho⟩
  have HB := Lib.hid hb
  have HO := Lib.hid ho
  clear hb ho HB0 HO0
  rw [← eB] at HB ⊢
  clear eB
  go_loopw [3, 4] (fun v i wr => ∃ (k : Nat) (s : ByteArray), i = .int .i64 k ∧ v = .string s ∧ k ≤ 32 ∧ s.data.toList = hexL (h.take k) ∧ Blk wr B 35 (h.map bv).toArray ∧ Only NoneOf w wr) (fun _ i _ => 32 - (intOf i).toNat)
  case atStart => exact ⟨0, ⟨#[]⟩, rfl, rfl, by omega, rfl, HB.out, HO.out⟩
  case round =>
    obtain ⟨k, s, rfl, rfl, hk, hs, hb, ho⟩ := hrel
    by_cases hlt : k < 32
    · obtain ⟨x, hx⟩ : ∃ x, h[k]? = some x := ⟨_, List.getElem?_eq_getElem (by have := HL.out; omega)⟩
      have hc : wr.cell? ⟨B, k, none⟩ = some (.int .u8 (x.toNat : Int)) := by rw [hb.cell, List.getElem?_toArray, List.getElem?_map, hx]; rfl
      have hx256 := x.toNat_lt
      have ik : (k : Int) < 32 := by omega
      have HBK := Lib.hid hb
      have HOK := Lib.hid ho
      have HSK := Lib.hid hs
      clear hb ho hs
      go_upto_region 5 with (fail)
      have hsz : s.size ≤ 64 := by rw [size_list, HSK.out, hexL_len, List.length_take]; omega
      have hs1 : s.size + 1 ≤ 9223372036854775807 := by omega
      have hs2 : s.size + 1 + 1 ≤ 9223372036854775807 := by omega
      have hnx : hexL (h.take (k + 1)) = hexL (h.take k) ++ [hexC (x.toNat / 16)] ++ [hexC (x.toNat % 16)] := by
        rw [List.take_add_one, hx, Option.toList_some, hexL_snoc]
      have HNX := Lib.hid hnx
      have HX := Lib.hid hx256
      clear hnx
      go_region
      go_wp2_with fail
      go_roundw
      case rel =>
        refine ⟨k + 1, _, by go_num, rfl, by omega, ?_, HBK.out.drew, HOK.out.drew⟩
        rw [HNX.out, ByteArray.data_append, ByteArray.data_append, Array.toList_append, Array.toList_append, HSK.out, hexC_ext _ (by omega), hexC_ext _ (by omega)]
      case measure => simp [intOf]; omega
    · obtain rfl : k = 32 := by omega
      have ik : ¬ ((32 : Nat) : Int) < 32 := by omega
      have HOK := Lib.hid ho
      have hall : h.take 32 = h := List.take_of_length_le (by rw [HL.out]; exact Nat.le_refl _)
      rw [hall] at hs
      have HSK := Lib.hid hs
      clear hb ho hs hall
      go_wp2_with fail
      refine ⟨rfl, _, results_tmp rfl _ _ _, ?_⟩
      exact RetStr.mk HSK.out HOK.out
end Go.Proofs.YtgalfohobgjelaaGreatDoor
namespace Go.Proofs.YtgalfohobgjelaaGreatDoor
open Go.RowKit Go.Shelf
attribute [local go_sem ↓ high] hdLoad_eq vtLoad_eq rootLoad_eq sgLoad_eq vtNew_eq vtStore_eq
def hdT (h : Hd) : ByteArray := ⟨(hdText h).toArray⟩
theorem hdT_list (h : Hd) : (hdT h).data.toList = hdText h := by simp [hdT]
theorem hdT_size {h : Hd} (ok : h.Ok) : (hdT h).size ≤ 100 := by
  have l1 := itoa_len ok.size.1 ok.size.2
  have l2 := hexL_len h.root
  rw [ok.root] at l2
  rw [size_list, hdT_list]; simp [hdText]; omega
/-- What lies there of a head. -/
structure HtS (w : World) (B : Nat) (h : Hd) (W : World) : Prop where
  at_ : HdAt W B h
  only : Only NoneOf w W
def vtText (v : Vt) : List UInt8 := hdText v.head ++ [32] ++ textOf v.r v.s
def vtT (v : Vt) : ByteArray := ⟨(vtText v).toArray⟩
/-- A vote built, under a name that the walk does not open. -/
def vtBd (parts : Array (Nat × Value)) : Sem Value := Instr.build 43 parts
theorem vtBd_eq (parts : Array (Nat × Value)) : Instr.build 43 parts = vtBd parts := rfl
set_option maxRecDepth 100000 in
theorem vtBd_built (who n r s : Int) : ∀ (l : List UInt8), l.length = 32 → Tryz.prog.built 43 [(0, .int .i64 who), (1, .agg (hdC ⟨n, l⟩).toArray), (2, .agg #[.int .i64 r, .int .i64 s])] = some (vtC ⟨who, ⟨n, l⟩, r, s⟩).toArray
  | [x0, x1, x2, x3, x4, x5, x6, x7, x8, x9, x10, x11, x12, x13, x14, x15, x16, x17, x18, x19, x20, x21, x22, x23, x24, x25, x26, x27, x28, x29, x30, x31], _ => by kernel_rfl
theorem vtBd_run (r s who : Int) (h : Hd) (hl : h.root.length = 32) (W : World) : (vtBd #[(0, .int .i64 who), (1, .agg (hdC h).toArray), (2, .agg #[.int .i64 r, .int .i64 s])]).run Tryz.prog W = .ok (.agg (vtC ⟨who, h, r, s⟩).toArray) W :=
  run_build (P := Tryz.prog) W 43 _ _ (vtBd_built who h.size r s h.root hl)
/-- What lies there when a vote is made. -/
structure VoS (w : World) (B : Nat) (h : Hd) (W : World) : Prop where
  at_ : HdAt W B h
  out : ∃ cs, cs.size = 36 ∧ Blk W (B + 1) tVt cs
  only : Only NoneOf w W
noncomputable def voteOf (who sec : Int) (h : Hd) : Vt := ⟨who, h, (gp (nonce (expo sec) (hdText h)) : Int), (sigS sec (hdText h) (nonce (expo sec) (hdText h)) : Int)⟩
set_option maxRecDepth 100000 in
set_option maxHeartbeats 1000000 in
theorem number_any (n : Int) (h0 : -9223372036854775808 ≤ n) (h1 : n ≤ 9223372036854775807) (w : World) : Calls Tryz.prog 92 #[.int .i64 n] w (RetStr (Lib.itoa n) w) := by
  obtain ⟨T1, hT1⟩ : ∃ A : ByteArray, A.data.toList = Lib.itoa n := ⟨⟨(Lib.itoa n).toArray⟩, by simp⟩
  have f1 : ∀ W, Calls Tryz.prog 114 #[.agg #[.int .i64 n, .int .i64 1]] W (fun e' w' => e' = .returned (.string T1) ∧ Only NoneOf W w') := fun W => (text_one n h0 h1 W).mono (by rintro e' w' ⟨t, rfl, ht, ho⟩; exact ⟨by rw [bytes_ext (ht.trans hT1.symm)], ho⟩)
  have HF := Lib.hid f1
  have HT := Lib.hid hT1
  clear f1 hT1
  go_enter Tryz.func92, Tryz.ntmps92
  go_wp2_with fail
  refine (HF.out _).mono ?_
  rintro e1 w1 ⟨rfl, ho1⟩
  have HO := Lib.hid ho1
  clear ho1
  go_wp2_with fail
  go_ret
  exact RetStr.mk HT.out HO.out
set_option maxRecDepth 100000 in
set_option maxHeartbeats 2000000 in
theorem qtext_any (h : Hd) (ok : h.Ok) (w : World) (ht : Tab w) : Calls Tryz.prog 131 #[.agg (hdC h).toArray] w fun e w' => e = .returned (.string (hdT h)) ∧ Only NoneOf w w' := by
  obtain ⟨s0, s1⟩ := ok.size
  have hl := ok.root
  obtain ⟨T1, hT1⟩ : ∃ A : ByteArray, A.data.toList = Lib.itoa h.size := ⟨⟨(Lib.itoa h.size).toArray⟩, by simp⟩
  obtain ⟨T2, hT2⟩ : ∃ A : ByteArray, A.data.toList = hexL h.root := ⟨⟨(hexL h.root).toArray⟩, by simp⟩
  have z1 : T1.size ≤ 21 := by rw [size_list, hT1]; exact itoa_len s0 s1
  have z2 : T2.size ≤ 64 := by rw [size_list, hT2, hexL_len, hl]; omega
  have f1 : ∀ W, Only NoneOf w W → Calls Tryz.prog 154 #[.int .i64 h.size] W (fun e' w' => e' = .returned (.string T1) ∧ Only NoneOf W w') := fun W ho => (itoa_any h.size s0 s1 W (ht.none ho)).mono (by rintro e' w' ⟨t, rfl, ht, ho⟩; exact ⟨by rw [bytes_ext (ht.trans hT1.symm)], ho⟩)
  have f2 : ∀ W, Calls Tryz.prog 150 #[.agg (h.root.map bv).toArray] W (fun e' w' => e' = .returned (.string T2) ∧ Only NoneOf W w') := fun W => (dtext_any h.root hl W).mono (by rintro e' w' ⟨t, rfl, ht, ho⟩; exact ⟨by rw [bytes_ext (ht.trans hT2.symm)], ho⟩)
  obtain ⟨B, eB⟩ : ∃ B, B = w.heap.size := ⟨_, rfl⟩
  obtain ⟨X, eX⟩ : ∃ X, X = w.alloc (.cells (hdC h).toArray tHd) := ⟨_, rfl⟩
  have hS1 : HdAt X B h := by rw [eX, eB]; exact Blk.new w _ _
  have hS : HtS w B h X.drew ∧ X.drew.rangeAt B 1 (h.root.map bv) := ⟨⟨hS1.drew, by rw [eX]; exact ((Only.refl _ _).alloc _).drew⟩, range_root (blk_range hS1.drew)⟩
  have c0 : ∀ W, HtS w B h W ∧ W.rangeAt B 1 (h.root.map bv) → W.cell? ⟨B, 0, none⟩ = some (.int .i64 h.size) := fun W hW => Blk.cell hW.1.at_ 0
  have hu := Tryz.underlying35
  have hi : (Tryz.prog.info? 35).map (·.size) = some (h.root.map bv).length := by rw [List.length_map, hl]; kernel_rfl
  have q1 : ¬ 9223372036854775807 < 5 + T1.size := by omega
  have q2 : ¬ 9223372036854775807 < 5 + T1.size + 1 := by omega
  have q3 : ¬ 9223372036854775807 < 5 + T1.size + 1 + T2.size := by omega
  have HA := Lib.hid f1
  have HB := Lib.hid f2
  have HT1 := Lib.hid hT1
  have HT2 := Lib.hid hT2
  have EX := Lib.hid eX
  have EB := Lib.hid eB
  have HKEEP : Hid (∀ W W', HtS w B h W ∧ W.rangeAt B 1 (h.root.map bv) → Only NoneOf W W' → HtS w B h W' ∧ W'.rangeAt B 1 (h.root.map bv)) := Lib.hid (fun W W' hW ho => ⟨⟨Blk.only hW.1.at_ ho (fun e => e), hW.1.only.trans ho⟩, rng_only hW.2 ho⟩)
  have HOUT : Hid (∀ W, HtS w B h W ∧ W.rangeAt B 1 (h.root.map bv) → Only NoneOf w W) := Lib.hid (fun W hW => hW.1.only)
  clear f1 f2 hT1 hT2 eX eB z1 z2 s0 s1 hl ok hS1 ht
  go_enter Tryz.func131, Tryz.ntmps131
  go_wp2_with fail
  rw [← EX.out, ← EB.out]
  clear EX EB
  go_region_held3 (fun w' => HtS w B h w' ∧ w'.rangeAt B 1 (h.root.map bv)) (first | assumption)
    (first
      | (go_at_call 154; refine (HA.out _ (HOUT.out _ (by assumption))).mono ?_; rintro e1 w1 ⟨rfl, ho1⟩; have hS1 := HKEEP.out _ _ (by assumption) ho1; clear ho1)
      | (go_at_call 150; refine (HB.out _).mono ?_; rintro e2 w2 ⟨rfl, ho2⟩; have hS2 := HKEEP.out _ _ (by assumption) ho2; clear ho2))
  all_goals
    go_wp2_with fail
    go_ret
    refine ⟨congrArg (fun s => Ending.returned (.string s)) (bytes_ext ?_), HOUT.out _ (by assumption)⟩
    simp only [ByteArray.data_append, Array.toList_append, HT1.out, HT2.out]
    simp [hdT, hdText]
set_option maxRecDepth 100000 in
set_option maxHeartbeats 2000000 in
theorem rqtext_any (h : Hd) (ok : h.Ok) (w : World) : Calls Tryz.prog 54 #[.agg (hdC h).toArray] w fun e w' => e = .returned (.string (hdT h)) ∧ Only NoneOf w w' := by
  obtain ⟨s0, s1⟩ := ok.size
  have hl := ok.root
  obtain ⟨T1, hT1⟩ : ∃ A : ByteArray, A.data.toList = Lib.itoa h.size := ⟨⟨(Lib.itoa h.size).toArray⟩, by simp⟩
  obtain ⟨T2, hT2⟩ : ∃ A : ByteArray, A.data.toList = hexL h.root := ⟨⟨(hexL h.root).toArray⟩, by simp⟩
  have z1 : T1.size ≤ 21 := by rw [size_list, hT1]; exact itoa_len s0 s1
  have z2 : T2.size ≤ 64 := by rw [size_list, hT2, hexL_len, hl]; omega
  have f1 : ∀ W, Calls Tryz.prog 92 #[.int .i64 h.size] W (fun e' w' => e' = .returned (.string T1) ∧ Only NoneOf W w') := fun W => (number_any h.size s0 s1 W).mono (by rintro e' w' ⟨t, rfl, ht, ho⟩; exact ⟨by rw [bytes_ext (ht.trans hT1.symm)], ho⟩)
  have f2 : ∀ W, Calls Tryz.prog 93 #[.agg (h.root.map bv).toArray] W (fun e' w' => e' = .returned (.string T2) ∧ Only NoneOf W w') := fun W => (rtext09_any h.root hl W).mono (by rintro e' w' ⟨t, rfl, ht, ho⟩; exact ⟨by rw [bytes_ext (ht.trans hT2.symm)], ho⟩)
  obtain ⟨B, eB⟩ : ∃ B, B = w.heap.size := ⟨_, rfl⟩
  obtain ⟨X, eX⟩ : ∃ X, X = w.alloc (.cells (hdC h).toArray tHd) := ⟨_, rfl⟩
  have hS1 : HdAt X B h := by rw [eX, eB]; exact Blk.new w _ _
  have hS : HtS w B h X.drew ∧ X.drew.rangeAt B 1 (h.root.map bv) := ⟨⟨hS1.drew, by rw [eX]; exact ((Only.refl _ _).alloc _).drew⟩, range_root (blk_range hS1.drew)⟩
  have c0 : ∀ W, HtS w B h W ∧ W.rangeAt B 1 (h.root.map bv) → W.cell? ⟨B, 0, none⟩ = some (.int .i64 h.size) := fun W hW => Blk.cell hW.1.at_ 0
  have hu := Tryz.underlying35
  have hi : (Tryz.prog.info? 35).map (·.size) = some (h.root.map bv).length := by rw [List.length_map, hl]; kernel_rfl
  have q1 : ¬ 9223372036854775807 < 5 + T1.size := by omega
  have q2 : ¬ 9223372036854775807 < 5 + T1.size + 1 := by omega
  have q3 : ¬ 9223372036854775807 < 5 + T1.size + 1 + T2.size := by omega
  have HA := Lib.hid f1
  have HB := Lib.hid f2
  have HT1 := Lib.hid hT1
  have HT2 := Lib.hid hT2
  have EX := Lib.hid eX
  have EB := Lib.hid eB
  have HKEEP : Hid (∀ W W', HtS w B h W ∧ W.rangeAt B 1 (h.root.map bv) → Only NoneOf W W' → HtS w B h W' ∧ W'.rangeAt B 1 (h.root.map bv)) := Lib.hid (fun W W' hW ho => ⟨⟨Blk.only hW.1.at_ ho (fun e => e), hW.1.only.trans ho⟩, rng_only hW.2 ho⟩)
  have HOUT : Hid (∀ W, HtS w B h W ∧ W.rangeAt B 1 (h.root.map bv) → Only NoneOf w W) := Lib.hid (fun W hW => hW.1.only)
  clear f1 f2 hT1 hT2 eX eB z1 z2 s0 s1 hl ok hS1
  go_enter Tryz.func54, Tryz.ntmps54
  go_wp2_with fail
  rw [← EX.out, ← EB.out]
  clear EX EB
  go_region_held3 (fun w' => HtS w B h w' ∧ w'.rangeAt B 1 (h.root.map bv)) (first | assumption)
    (first
      | (go_at_call 92; refine (HA.out _).mono ?_; rintro e1 w1 ⟨rfl, ho1⟩; have hS1 := HKEEP.out _ _ (by assumption) ho1; clear ho1)
      | (go_at_call 93; refine (HB.out _).mono ?_; rintro e2 w2 ⟨rfl, ho2⟩; have hS2 := HKEEP.out _ _ (by assumption) ho2; clear ho2))
  all_goals
    go_wp2_with fail
    go_ret
    refine ⟨congrArg (fun s => Ending.returned (.string s)) (bytes_ext ?_), HOUT.out _ (by assumption)⟩
    simp only [ByteArray.data_append, Array.toList_append, HT1.out, HT2.out]
    simp [hdT, hdText]
set_option maxRecDepth 100000 in
set_option maxHeartbeats 2000000 in
theorem qwritten_any (v : Vt) (ok : v.Ok) (w : World) (ht : Tab w) : Calls Tryz.prog 88 #[.agg (vtC v).toArray] w fun e w' => e = .returned (.string (vtT v)) ∧ Only NoneOf w w' := by
  have hl := ok.head.root
  obtain ⟨T1, hT1⟩ : ∃ A : ByteArray, A = hdT v.head := ⟨_, rfl⟩
  obtain ⟨T2, hT2⟩ : ∃ A : ByteArray, A.data.toList = textOf v.r v.s := ⟨⟨(textOf v.r v.s).toArray⟩, by simp⟩
  have z1 : T1.size ≤ 100 := by rw [hT1]; exact hdT_size ok.head
  have z2 : T2.size ≤ 43 := by
    have l1 := itoa_len ok.r.1 ok.r.2
    have l2 := itoa_len ok.s.1 ok.s.2
    rw [size_list, hT2]; simp [textOf]; omega
  have f1 : ∀ W, Only NoneOf w W → Calls Tryz.prog 131 #[.agg (hdC v.head).toArray] W (fun e' w' => e' = .returned (.string T1) ∧ Only NoneOf W w') := fun W ho => by rw [hT1]; exact qtext_any v.head ok.head W (ht.none ho)
  have f2 : ∀ W, Only NoneOf w W → Calls Tryz.prog 137 #[sgv v.r v.s] W (fun e' w' => e' = .returned (.string T2) ∧ Only NoneOf W w') := fun W ho => (stext_any v.r v.s ok.r ok.s W (ht.none ho)).mono (by rintro e' w' ⟨t, rfl, ht, ho⟩; exact ⟨by rw [bytes_ext (ht.trans hT2.symm)], ho⟩)
  obtain ⟨B, eB⟩ : ∃ B, B = w.heap.size := ⟨_, rfl⟩
  obtain ⟨X, eX⟩ : ∃ X, X = w.alloc (.cells (vtC v).toArray tVt) := ⟨_, rfl⟩
  have hS : VtAt X.drew B v ∧ Only NoneOf w X.drew := by rw [eX, eB]; exact ⟨(Blk.new w _ _).drew, ((Only.refl _ _).alloc _).drew⟩
  have c0 : ∀ W, VtAt W B v ∧ Only NoneOf w W → (hdLoad (.pointer (some ⟨B, 1, none⟩))).run Tryz.prog W = .ok (.agg (hdC v.head).toArray) W := fun W hW => hd_load (range_head (blk_range hW.1) hl) hl
  have c1 : ∀ W, VtAt W B v ∧ Only NoneOf w W → (sgLoad (.pointer (some ⟨B, 34, none⟩))).run Tryz.prog W = .ok (sgv v.r v.s) W := fun W hW => sg_load (range_sig (blk_range hW.1) hl)
  have q1 : ¬ 9223372036854775807 < T1.size + 1 := by omega
  have q2 : ¬ 9223372036854775807 < T1.size + 1 + T2.size := by omega
  have HA := Lib.hid f1
  have HB := Lib.hid f2
  have HT1 := Lib.hid hT1
  have HT2 := Lib.hid hT2
  have EX := Lib.hid eX
  have EB := Lib.hid eB
  have HKEEP : Hid (∀ W W', VtAt W B v ∧ Only NoneOf w W → Only NoneOf W W' → VtAt W' B v ∧ Only NoneOf w W') := Lib.hid (fun W W' hW ho => ⟨Blk.only hW.1 ho (fun e => e), hW.2.trans ho⟩)
  have HOUT : Hid (∀ W, VtAt W B v ∧ Only NoneOf w W → Only NoneOf w W) := Lib.hid (fun W hW => hW.2)
  clear f1 f2 hT1 hT2 eX eB z1 z2 hl ok ht
  go_enter Tryz.func88, Tryz.ntmps88
  go_wp2_with fail
  rw [← EX.out, ← EB.out]
  clear EX EB
  go_region_held3 (fun w' => VtAt w' B v ∧ Only NoneOf w w') (first | assumption)
    (first
      | (go_at_call 131; refine (HA.out _ (HOUT.out _ (by assumption))).mono ?_; rintro e1 w1 ⟨rfl, ho1⟩; have hS1 := HKEEP.out _ _ (by assumption) ho1; clear ho1)
      | (go_at_call 137; refine (HB.out _ (HOUT.out _ (by assumption))).mono ?_; rintro e2 w2 ⟨rfl, ho2⟩; have hS2 := HKEEP.out _ _ (by assumption) ho2; clear ho2))
  all_goals
    go_wp2_with fail
    go_ret
    refine ⟨congrArg (fun s => Ending.returned (.string s)) (bytes_ext ?_), HOUT.out _ (by assumption)⟩
    simp only [ByteArray.data_append, Array.toList_append, HT1.out, HT2.out]
    simp [hdT, vtT, vtText]
attribute [local go_sem ↓ high] vtBd_eq
set_option maxRecDepth 100000 in
set_option maxHeartbeats 2000000 in
theorem rqvote_any (who sec : Int) (h : Hd) (ok : h.Ok) (w : World) : Calls Tryz.prog 41 #[.int .i64 who, .int .i64 sec, .agg (hdC h).toArray] w fun e w' => e = .returned (.agg (vtC (voteOf who sec h)).toArray) ∧ Only NoneOf w w' := by
  have hl := ok.root
  obtain ⟨T1, hT1⟩ : ∃ A : ByteArray, A = hdT h := ⟨_, rfl⟩
  have z1 : T1.size ≤ 100 := by rw [hT1]; exact hdT_size ok
  obtain ⟨V, hV⟩ : ∃ V, V = voteOf who sec h := ⟨_, rfl⟩
  have hVl : V.head.root.length = 32 := by rw [hV]; exact hl
  have f1 : ∀ W, Calls Tryz.prog 54 #[.agg (hdC h).toArray] W (fun e' w' => e' = .returned (.string T1) ∧ Only NoneOf W w') := fun W => by rw [hT1]; exact rqtext_any h ok W
  have f2 : ∀ W, Calls Tryz.prog 70 #[.int .i64 sec, .string T1] W (fun e' w' => e' = .returned (.agg #[.int .i64 V.r, .int .i64 V.s]) ∧ Only NoneOf W w') := fun W => (rsign_any sec T1 W (by omega)).mono (by rintro e' w' ⟨rfl, ho⟩; exact ⟨by rw [hT1, hV, hdT_list]; rfl, ho⟩)
  have hbd : ∀ W, (vtBd #[(0, .int .i64 who), (1, .agg (hdC h).toArray), (2, .agg #[.int .i64 V.r, .int .i64 V.s])]).run Tryz.prog W = .ok (.agg (vtC V).toArray) W := fun W => by
    rw [vtBd_run V.r V.s who h hl W, hV]; rfl
  obtain ⟨B, eB⟩ : ∃ B, B = w.heap.size := ⟨_, rfl⟩
  obtain ⟨X, eX⟩ : ∃ X, X = (w.alloc (.cells (hdC h).toArray tHd)).alloc (.cells vt0C tVt) := ⟨_, rfl⟩
  have hS0 : VoS w B h X := by
    have h2 := Blk.new (w.alloc (.cells (hdC h).toArray tHd)) tVt vt0C
    rw [World.size_alloc, ← eB] at h2
    exact ⟨by rw [eX, eB]; exact (Blk.new w _ _).alloc _, ⟨vt0C, rfl, by rw [eX]; exact h2⟩, by rw [eX]; exact ((Only.refl _ _).alloc _).alloc _⟩
  have hS : VoS w B h X.drew := ⟨hS0.1.drew, ⟨_, hS0.2.choose_spec.1, hS0.2.choose_spec.2.drew⟩, hS0.3.drew⟩
  have c0 : ∀ W, VoS w B h W → (hdLoad (.pointer (some ⟨B, 0, none⟩))).run Tryz.prog W = .ok (.agg (hdC h).toArray) W := fun W hW => hd_load (blk_range hW.1) hl
  have hnw := vtNew_run
  have cst : ∀ W, VoS w B h W → (vtStore (.pointer (some ⟨B + 1, 0, none⟩)) (.agg (vtC V).toArray)).run Tryz.prog W = .ok () (W.setCells (B + 1) 0 (vtC V)) := fun W hW => by obtain ⟨cs, hc, hb⟩ := hW.2; exact vt_store hb hc hVl
  have HV := Lib.hid hV
  have HA := Lib.hid f1
  have HB := Lib.hid f2
  have EX := Lib.hid eX
  have EB := Lib.hid eB
  have HFIN : Hid (∀ W, VoS w B h W → Blk (W.setCells (B + 1) 0 (vtC V)) (B + 1) tVt (vtC V).toArray ∧ VoS w B h (W.setCells (B + 1) 0 (vtC V))) := Lib.hid (fun W hW => by
    obtain ⟨cs, hc, hb⟩ := hW.2
    have h1 := filled_whole (ds := vtC V) hb (by rw [vtC_len hVl, hc])
    exact ⟨h1, Blk.farCells (by omega) _ 0 hW.1, ⟨_, by rw [List.size_toArray, vtC_len hVl], h1⟩, only_setCells hW.3 (B + 1) 0 (.inr (by omega)) _⟩)
  have HKEEP : Hid (∀ W W', VoS w B h W → Only NoneOf W W' → VoS w B h W') := Lib.hid (fun W W' hW ho => ⟨Blk.only hW.1 ho (fun e => e), ⟨hW.2.choose, hW.2.choose_spec.1, Blk.only hW.2.choose_spec.2 ho (fun e => e)⟩, hW.3.trans ho⟩)
  have HOUT : Hid (∀ W, VoS w B h W → Only NoneOf w W) := Lib.hid (fun W hW => hW.3)
  have HINF : Hid ((Tryz.prog.info? tVt).map (·.size) = some (vtC V).toArray.size) := Lib.hid (by rw [List.size_toArray, vtC_len hVl]; kernel_rfl)
  clear f1 f2 hT1 hV eX eB z1 hl ok hS0 hVl
  go_enter Tryz.func41, Tryz.ntmps41
  go_wp2_with fail
  rw [← EX.out, ← EB.out]
  clear EX EB
  go_region_held3 (fun w' => VoS w B h w') (first | (with_reducible assumption) | (with_reducible exact (HFIN.out _ (by assumption)).2))
    (first
      | (go_at_call 54; refine (HA.out _).mono ?_; rintro e1 w1 ⟨rfl, ho1⟩; have hS1 := HKEEP.out _ _ (by assumption) ho1; clear ho1)
      | (go_at_call 70; refine (HB.out _).mono ?_; rintro e2 w2 ⟨rfl, ho2⟩; have hS2 := HKEEP.out _ _ (by assumption) ho2; clear ho2))
  all_goals
    obtain ⟨hb, hz⟩ := HFIN.out _ hS2
    have HZ := Lib.hid hz.3
    have HBB := Lib.hid hb
    clear hb hz c0 cst hbd hnw hS hS1 hS2
    go_wp2_with fail
    exact bodyPost_ret (v := .agg (vtC V).toArray) (results_blk rfl rfl HBB.out Tryz.underlying43 rfl HINF.out) rfl ⟨by rw [HV.out], HZ.out⟩
end Go.Proofs.YtgalfohobgjelaaGreatDoor
