/- What is proved here: the schedule of the program's SHA-256. Conditions: the block's 64 bytes can be read. -/
import Derived.Test.YtmgbcjjemlcfgaaGreatDoorMem
namespace Go.Proofs.YtmgbcjjemlcfgaaGreatDoor
open Go.RowKit

/-- The array of words, of which i are known. -/
def wrow (b : List UInt8) (i : Nat) : Array Value := ((sched b i).map wv ++ List.replicate (64 - i) (Value.int .u32 0)).toArray
theorem wrow_get {b : List UInt8} {i k : Nat} (h : k < i) : (wrow b i)[k]? = some (wv ((sched b i).getD k 0)) := by
  have hk : k < (sched b i).length := by rw [sched_len]; exact h
  rw [wrow, List.getElem?_toArray, List.getElem?_append_left (by simpa using hk), List.getElem?_map, List.getD_eq_getElem?_getD, List.getElem?_eq_getElem hk]
  rfl
theorem wrow_set {b : List UInt8} {i : Nat} (h : i < 64) (x : W) (hx : sched b (i + 1) = sched b i ++ [x]) : (wrow b i).setIfInBounds i (wv x) = wrow b (i + 1) := by
  have hl : ((sched b i).map wv).length = i := by rw [List.length_map, sched_len]
  rw [wrow, wrow, hx, List.setIfInBounds_toArray, List.set_append_right _ _ (by omega), hl, Nat.sub_self, show 64 - i = (64 - (i + 1)) + 1 by omega, List.replicate_succ, List.set_cons_zero, List.map_append, List.append_assoc]
  rfl
theorem wrow_zero {b : List UInt8} {i k : Nat} (h : i ≤ k) (hk : k < 64) : (wrow b i)[k]? = some (.int .u32 0) := by
  rw [wrow, List.getElem?_toArray, List.getElem?_append_right (by rw [List.length_map, sched_len]; exact h), List.length_map, sched_len, List.getElem?_replicate, if_pos (by omega)]
theorem wordAt_of {b : List UInt8} {i : Nat} {x0 x1 x2 x3 : UInt8} (e0 : b[4 * i]? = some x0) (e1 : b[4 * i + 1]? = some x1) (e2 : b[4 * i + 2]? = some x2) (e3 : b[4 * i + 3]? = some x3) :
    wordAt b i = (bw x0 <<< 24) ||| (bw x1 <<< 16) ||| (bw x2 <<< 8) ||| bw x3 := by
  simp [wordAt, byteAt, bw, List.getD_eq_getElem?_getD, e0, e1, e2, e3]
theorem wrow_size (b : List UInt8) {i : Nat} (h : i ≤ 64) : (wrow b i).size = 64 := by simp [wrow, sched_len]; omega
theorem wrow_full (b : List UInt8) : wrow b 64 = ((sched b 64).map wv).toArray := by simp [wrow]
theorem wv_one (x : W) : (wv x).oneCell' = true := rfl
theorem w_sum4 (a b c d : W) : ((a.toNat : Int) + (b.toNat : Int) + (c.toNat : Int) + (d.toNat : Int)) % 4294967296 = ((a + b + c + d).toNat : Int) := by
  rw [BitVec.toNat_add, BitVec.toNat_add, BitVec.toNat_add]
  have := a.isLt; have := b.isLt; have := c.isLt; have := d.isLt
  omega
theorem w_shrk (x : W) (n : Nat) (m : Int) (hm : m = 2 ^ n) : (x.toNat : Int) / m = ((x >>> n).toNat : Int) := by rw [hm]; exact w_shr x n
theorem sched_low {b : List UInt8} {i : Nat} (h : i < 16) : sched b (i + 1) = sched b i ++ [wordAt b i] := by
  show sched b i ++ [if i < 16 then _ else _] = _
  rw [if_pos h]
theorem sched_high {b : List UInt8} {i : Nat} (h : 16 ≤ i) : sched b (i + 1) = sched b i ++ [(sched b i).getD (i - 16) 0 + ssig ((sched b i).getD (i - 15) 0) 7 18 3 + (sched b i).getD (i - 7) 0 + ssig ((sched b i).getD (i - 2) 0) 17 19 10] := by
  show sched b i ++ [if i < 16 then _ else _] = _
  rw [if_neg (by omega)]
def ScRel (w : World) (b : List UInt8) (i : Nat) (wr : World) : Prop := Blk wr (w.heap.size + 1) 87 (wrow b i) ∧ Blk wr w.heap.size 87 (wrow b 0) ∧ Only NoneOf w wr
set_option maxRecDepth 100000 in
set_option maxHeartbeats 2000000 in
theorem schedule_any {g o n c : Nat} {b : List UInt8} {w : World} (hb : BytesAt w g o b) (hl : b.length = 64) (hn : 64 ≤ n) (hc : n ≤ c) (hcm : c ≤ 4611686018427387904) (_hg : g < w.heap.size) :
    Calls Tryz.prog 87 #[.slice (some ⟨g, o, none⟩) n c] w fun e w' => e = .returned (.agg ((sched b 64).map wv).toArray) ∧ Only NoneOf w w' := by
  have HB := Lib.hid hb
  have HL := Lib.hid hl
  have hr0 : ScRel w b 0 ((w.alloc (.cells (wrow b 0) 87)).alloc (.cells (wrow b 0) 87)) :=
    ⟨by have := Blk.new (w.alloc (.cells (wrow b 0) 87)) 87 (wrow b 0); simpa using this, (Blk.new w _ _).alloc _, ((Only.refl NoneOf w).alloc _).alloc _⟩
  have HR0 := Lib.hid hr0
  clear hb hl hr0
  go_enter Tryz.func87, Tryz.ntmps87
  go_wp2_with fail
  go_loopw [9] (fun v wr => ∃ i : Nat, v = .int .i64 i ∧ i ≤ 64 ∧ ScRel w b i wr) (fun v _ => 64 - (intOf v).toNat)
  case atStart => exact ⟨0, rfl, by omega, HR0.out⟩
  case round =>
    clear HR0
    obtain ⟨i, rfl, hi, hw, hres, ho⟩ := hrel
    have lb := hw.lt
    by_cases h64 : i < 64
    · by_cases h16 : i < 16
      · obtain ⟨x0, e0⟩ : ∃ x, b[4 * i]? = some x := ⟨_, List.getElem?_eq_getElem (by have := HL.out; omega)⟩
        obtain ⟨x1, e1⟩ : ∃ x, b[4 * i + 1]? = some x := ⟨_, List.getElem?_eq_getElem (by have := HL.out; omega)⟩
        obtain ⟨x2, e2⟩ : ∃ x, b[4 * i + 2]? = some x := ⟨_, List.getElem?_eq_getElem (by have := HL.out; omega)⟩
        obtain ⟨x3, e3⟩ : ∃ x, b[4 * i + 3]? = some x := ⟨_, List.getElem?_eq_getElem (by have := HL.out; omega)⟩
        have c0 := ho.cell_some (p := ⟨g, o + (4 * i), none⟩) (HB.out _ _ e0) (fun h => h)
        have c1 := ho.cell_some (p := ⟨g, o + (4 * i + 1), none⟩) (HB.out _ _ e1) (fun h => h)
        have c2 := ho.cell_some (p := ⟨g, o + (4 * i + 2), none⟩) (HB.out _ _ e2) (fun h => h)
        have c3 := ho.cell_some (p := ⟨g, o + (4 * i + 3), none⟩) (HB.out _ _ e3) (fun h => h)
        have h1 := word_any (n := n - 4 * i) (c := c - 4 * i) (by omega) c0 c1 c2 c3
        rw [← wordAt_of e0 e1 e2 e3] at h1
        have hs : sched b (i + 1) = sched b i ++ [wordAt b i] := sched_low h16
        have cz := (hw.cell i).trans (wrow_zero (Nat.le_refl i) h64)
        have fz := hw.frozen i
        have H1 := Lib.hid h1
        have HW := Lib.hid hw
        have HRES := Lib.hid hres
        have HO := Lib.hid ho
        have HS := Lib.hid hs
        clear h1 hw hres ho hs e0 e1 e2 e3 c0 c1 c2 c3
        go_wp2_with fail
        refine H1.out.mono ?_
        rintro e w1 ⟨rfl, q, rfl⟩
        unfold wv
        have hne : w.heap.size + 1 ≠ w.heap.size := by omega
        go_wp2_with fail
        go_roundw
        case rel =>
          refine ⟨i + 1, by go_num, by omega, ?_, ?_, ?_⟩
          · have := (HW.out.drewN q).set_ i (wv (wordAt b i))
            rw [wrow_set h64 _ HS.out] at this
            exact this
          · exact (HRES.out.drewN q).far (Ne.symm hne) _
          · exact (HO.out.drewN q).setCell (.inr (by simp)) _
        case measure => simp [intOf]; omega
      · have hk : 16 ≤ i := by omega
        clear h16
        obtain ⟨x, ex⟩ : ∃ x, x = (sched b i).getD (i - 15) 0 := ⟨_, rfl⟩
        obtain ⟨y, ey⟩ : ∃ y, y = (sched b i).getD (i - 2) 0 := ⟨_, rfl⟩
        obtain ⟨u, eu⟩ : ∃ u, u = (sched b i).getD (i - 16) 0 := ⟨_, rfl⟩
        obtain ⟨v, ev⟩ : ∃ v, v = (sched b i).getD (i - 7) 0 := ⟨_, rfl⟩
        have hs : sched b (i + 1) = sched b i ++ [u + ssig x 7 18 3 + v + ssig y 17 19 10] := by
          rw [ex, ey, eu, ev]; exact sched_high hk
        have cx : wr.cell? ⟨w.heap.size + 1, i - 15, none⟩ = some (.int .u32 (x.toNat : Int)) := by rw [ex]; exact (hw.cell _).trans (wrow_get (by omega))
        have cy : wr.cell? ⟨w.heap.size + 1, i - 2, none⟩ = some (.int .u32 (y.toNat : Int)) := by rw [ey]; exact (hw.cell _).trans (wrow_get (by omega))
        have cu : wr.cell? ⟨w.heap.size + 1, i - 16, none⟩ = some (.int .u32 (u.toNat : Int)) := by rw [eu]; exact (hw.cell _).trans (wrow_get (by omega))
        have cv : wr.cell? ⟨w.heap.size + 1, i - 7, none⟩ = some (.int .u32 (v.toNat : Int)) := by rw [ev]; exact (hw.cell _).trans (wrow_get (by omega))
        have cz := (hw.cell i).trans (wrow_zero (Nat.le_refl i) h64)
        have fz := hw.frozen i
        have HW := Lib.hid hw
        have HRES := Lib.hid hres
        have HO := Lib.hid ho
        have HS := Lib.hid hs
        clear hw hres ho hs ex ey eu ev
        have i15 : IntKind.i64.wrap ((i : Int) - 15) = (i : Int) - 15 := IntWalk.i64_in _ (by omega)
        have i2 : IntKind.i64.wrap ((i : Int) - 2) = (i : Int) - 2 := IntWalk.i64_in _ (by omega)
        have i16 : IntKind.i64.wrap ((i : Int) - 16) = (i : Int) - 16 := IntWalk.i64_in _ (by omega)
        have i7 : IntKind.i64.wrap ((i : Int) - 7) = (i : Int) - 7 := IntWalk.i64_in _ (by omega)
        have n15 : ((i : Int) - 15).toNat = i - 15 := by omega
        have n2 : ((i : Int) - 2).toNat = i - 2 := by omega
        have n16 : ((i : Int) - 16).toNat = i - 16 := by omega
        have n7 : ((i : Int) - 7).toNat = i - 7 := by omega
        have p15 : 0 ≤ (i : Int) - 15 := by omega
        have p2 : 0 ≤ (i : Int) - 2 := by omega
        have p16 : 0 ≤ (i : Int) - 16 := by omega
        have p7 : 0 ≤ (i : Int) - 7 := by omega
        have q15 : (i : Int) - 15 < 64 := by omega
        have q2 : (i : Int) - 2 < 64 := by omega
        have q16 : (i : Int) - 16 < 64 := by omega
        have q7 : (i : Int) - 7 < 64 := by omega
        go_wp2_with fail
        go_quiet (fail)
        go_wp2_with fail
        refine (rotl_any x 7 (by omega) (by omega) _).mono ?_
        rintro e w1 ⟨rfl, rfl⟩
        unfold wv
        go_wp2_with fail
        refine (rotl_any x 18 (by omega) (by omega) _).mono ?_
        rintro e w1 ⟨rfl, rfl⟩
        unfold wv
        go_wp2_with fail
        refine (rotl_any y 17 (by omega) (by omega) _).mono ?_
        rintro e w1 ⟨rfl, rfl⟩
        unfold wv
        go_wp2_with fail
        refine (rotl_any y 19 (by omega) (by omega) _).mono ?_
        rintro e w1 ⟨rfl, rfl⟩
        unfold wv
        go_wp2_with fail
        go_region
        go_wp2_with fail
        go_roundw
        case rel =>
          refine ⟨i + 1, by go_num, by omega, ?_, ?_, ?_⟩
          · have := ((HW.out.drewN nq).drew).set_ i (wv (u + ssig x 7 18 3 + v + ssig y 17 19 10))
            rw [wrow_set h64 _ HS.out] at this
            rw [w_shrk x 3 8 (by decide), w_shrk y 10 1024 (by decide), w_xor, w_xor, w_xor, w_xor, w_sum4]
            exact this
          · exact ((HRES.out.drewN nq).drew).far (by simp) _
          · exact ((HO.out.drewN nq).drew).setCell (.inr (by simp)) _
        case measure => simp [intOf]; omega
    · obtain rfl : i = 64 := by omega
      have HW := Lib.hid hw
      have HRES := Lib.hid hres
      have HO := Lib.hid ho
      clear hw hres ho
      have hz : (wrow b 64).size = 64 := wrow_size b (Nat.le_refl _)
      have hi70 : (Tryz.prog.info? 87).map (·.size) = some (wrow b 64).size := by rw [hz]; kernel_rfl
      have hth : wr.there w.heap.size 0 (wrow b 64).size := HRES.out.there 0 _ (by rw [hz, wrow_size b (by omega)]; omega)
      have hone : (wrow b 64).all (·.oneCell') = true := by rw [wrow_full]; exact all_oneCell_toArray (fun v hv => by obtain ⟨x, _, rfl⟩ := List.mem_map.1 hv; rfl)
      have HI := Lib.hid hi70
      have HT := Lib.hid hth
      have HN := Lib.hid hone
      have HZ := Lib.hid hz
      clear hi70 hth hone hz
      go_wp2_with (first
        | (refine wpList_load_row rfl 87 (.tmp 3) rfl (w.heap.size + 1) rfl 87 (wrow b 64) (0, 0) _ HW.out Tryz.underlying87 rfl HI.out ?_)
        | (refine wpList_store_mid rfl 87 (.tmp 2) (.tmp 61) rfl w.heap.size 0 (wrow b 64) rfl rfl HT.out HI.out HN.out ?_))
      have hb := HRES.out.filled (wrow b 64).toList (by simpa [sched_len] using HZ.out)
      refine bodyPost_ret (results_blk rfl rfl hb Tryz.underlying87 rfl HI.out) rfl ⟨?_, only_setCells HO.out _ _ (.inr (Nat.le_refl _)) _⟩
      rw [wrow_full]
end Go.Proofs.YtmgbcjjemlcfgaaGreatDoor
