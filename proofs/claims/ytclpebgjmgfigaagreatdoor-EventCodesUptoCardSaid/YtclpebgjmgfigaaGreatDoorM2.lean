/- What is proved here: several parts. the schedule of the program's SHA-256. Conditions: the block's 64 bytes can be read. · a block is added to the state of the program's SHA-256. Conditions: the block's 64 bytes can be read, and the state's cells. · a slice of bytes that the call has made (also out of a string), and what append lays behind it; no function of the program. No conditions. · how a walk takes a string turned into bytes, and an append to a slice of bytes that the call has made; no function of the program. No conditions. · slices.Chunk over a slice of bytes in pieces of 64, its iterator for every loop body that leaves two blocks alone. Conditions: the length is a multiple of 64. · the bytes of words, the padding and the start of the program's SHA-256. Conditions: what is summed is shorter than 2^45 bytes. · the program's SHA-256, whole. Conditions: what is summed is shorter than 2^45 bytes. -/
import Derived.Test.YtclpebgjmgfigaaGreatDoorM1
import Derived.Deep.AppendSrc
import Derived.Lib.AppendZerosOnto
import Derived.Laws.IdiomStrings
import Derived.RangeFuncNested
import Derived.RangeFuncBound
import Derived.RangeFuncCalls
import Derived.RangeFuncLeaves
import Derived.Shelf.Abstract
import Derived.Shelf.RegionOpen
import Derived.OwnWalkIn
import Derived.TacticsInMore
import Derived.LoopNIn
import Derived.LoopIn
import Derived.RegionIn
import Derived.Deep.RegionLaw
import Derived.Deep.RegionHeld3
namespace Go.Proofs.YtclpebgjmgfigaaGreatDoor
open Go.RowKit

/-- The array of words, of which i are known. -/
def wrow (b : List UInt8) (i : Nat) : Array Value := ((sched b i).map wv ++ List.replicate (64 - i) (Value.int .u32 0)).toArray
theorem wrow_get {b : List UInt8} {i k : Nat} (h : k < i) : (wrow b i)[k]? = some (wv ((sched b i).getD k 0)) := by
  have hk : k < (sched b i).length := by rw [sched_len]; exact h
  rw [wrow, List.getElem?_toArray, List.getElem?_append_left (by simpa using hk), List.getElem?_map, List.getD_eq_getElem?_getD, List.getElem?_eq_getElem hk]
  rfl
theorem wrow_set {b : List UInt8} {i : Nat} (h : i < 64) (x : W) (hx : sched b (i + 1) = sched b i ++ [x]) : (wrow b i).setIfInBounds i (wv x) = wrow b (i + 1) := by
  have hl : ((sched b i).map wv).length = i := by rw [List.length_map, sched_len]
  rw [wrow, wrow, hx, List.setIfInBounds_toArray, List.set_append_right _ _ (by omega), hl, Nat.sub_self, show 64 - i = (64 - (i + 1)) + 1 by omega, List.replicate_succ, List.set_cons_zero, List.map_append, List.append_assoc]
  rfl
theorem wrow_zero {b : List UInt8} {i k : Nat} (h : i ≤ k) (hk : k < 64) : (wrow b i)[k]? = some (.int .u32 0) := by
  rw [wrow, List.getElem?_toArray, List.getElem?_append_right (by rw [List.length_map, sched_len]; exact h), List.length_map, sched_len, List.getElem?_replicate, if_pos (by omega)]
theorem wordAt_of {b : List UInt8} {i : Nat} {x0 x1 x2 x3 : UInt8} (e0 : b[4 * i]? = some x0) (e1 : b[4 * i + 1]? = some x1) (e2 : b[4 * i + 2]? = some x2) (e3 : b[4 * i + 3]? = some x3) :
    wordAt b i = (bw x0 <<< 24) ||| (bw x1 <<< 16) ||| (bw x2 <<< 8) ||| bw x3 := by
  simp [wordAt, byteAt, bw, List.getD_eq_getElem?_getD, e0, e1, e2, e3]
theorem wrow_size (b : List UInt8) {i : Nat} (h : i ≤ 64) : (wrow b i).size = 64 := by simp [wrow, sched_len]; omega
theorem wrow_full (b : List UInt8) : wrow b 64 = ((sched b 64).map wv).toArray := by simp [wrow]
theorem wv_one (x : W) : (wv x).oneCell' = true := rfl
theorem w_sum4 (a b c d : W) : ((a.toNat : Int) + (b.toNat : Int) + (c.toNat : Int) + (d.toNat : Int)) % 4294967296 = ((a + b + c + d).toNat : Int) := by
  rw [BitVec.toNat_add, BitVec.toNat_add, BitVec.toNat_add]
  have := a.isLt; have := b.isLt; have := c.isLt; have := d.isLt
  omega
theorem w_shrk (x : W) (n : Nat) (m : Int) (hm : m = 2 ^ n) : (x.toNat : Int) / m = ((x >>> n).toNat : Int) := by rw [hm]; exact w_shr x n
theorem sched_low {b : List UInt8} {i : Nat} (h : i < 16) : sched b (i + 1) = sched b i ++ [wordAt b i] := by
  show sched b i ++ [if i < 16 then _ else _] = _
  rw [if_pos h]
theorem sched_high {b : List UInt8} {i : Nat} (h : 16 ≤ i) : sched b (i + 1) = sched b i ++ [(sched b i).getD (i - 16) 0 + ssig ((sched b i).getD (i - 15) 0) 7 18 3 + (sched b i).getD (i - 7) 0 + ssig ((sched b i).getD (i - 2) 0) 17 19 10] := by
  show sched b i ++ [if i < 16 then _ else _] = _
  rw [if_neg (by omega)]
def ScRel (w : World) (b : List UInt8) (i : Nat) (wr : World) : Prop := Blk wr (w.heap.size + 1) 138 (wrow b i) ∧ Blk wr w.heap.size 138 (wrow b 0) ∧ Only NoneOf w wr
set_option maxRecDepth 100000 in
set_option maxHeartbeats 2000000 in
theorem schedule_any {g o n c : Nat} {b : List UInt8} {w : World} (hb : BytesAt w g o b) (hl : b.length = 64) (hn : 64 ≤ n) (hc : n ≤ c) (hcm : c ≤ 4611686018427387904) (_hg : g < w.heap.size) :
    Calls Tryz.prog 96 #[.slice (some ⟨g, o, none⟩) n c] w fun e w' => e = .returned (.agg ((sched b 64).map wv).toArray) ∧ Only NoneOf w w' := by
  have HB := Lib.hid hb
  have HL := Lib.hid hl
  have hr0 : ScRel w b 0 ((w.alloc (.cells (wrow b 0) 138)).alloc (.cells (wrow b 0) 138)) :=
    ⟨by have := Blk.new (w.alloc (.cells (wrow b 0) 138)) 138 (wrow b 0); simpa using this, (Blk.new w _ _).alloc _, ((Only.refl NoneOf w).alloc _).alloc _⟩
  have HR0 := Lib.hid hr0
  clear hb hl hr0
  go_enter Tryz.func96, Tryz.ntmps96
  go_wp2_with fail
  go_loopw [9] (fun v wr => ∃ i : Nat, v = .int .i64 i ∧ i ≤ 64 ∧ ScRel w b i wr) (fun v _ => 64 - (intOf v).toNat)
  case atStart => exact ⟨0, rfl, by omega, HR0.out⟩
  case round =>
    clear HR0
    obtain ⟨i, rfl, hi, hw, hres, ho⟩ := hrel
    have lb := hw.lt
    by_cases h64 : i < 64
    · by_cases h16 : i < 16
      · obtain ⟨x0, e0⟩ : ∃ x, b[4 * i]? = some x := ⟨_, List.getElem?_eq_getElem (by have := HL.out; omega)⟩
        obtain ⟨x1, e1⟩ : ∃ x, b[4 * i + 1]? = some x := ⟨_, List.getElem?_eq_getElem (by have := HL.out; omega)⟩
        obtain ⟨x2, e2⟩ : ∃ x, b[4 * i + 2]? = some x := ⟨_, List.getElem?_eq_getElem (by have := HL.out; omega)⟩
        obtain ⟨x3, e3⟩ : ∃ x, b[4 * i + 3]? = some x := ⟨_, List.getElem?_eq_getElem (by have := HL.out; omega)⟩
        have c0 := ho.cell_some (p := ⟨g, o + (4 * i), none⟩) (HB.out _ _ e0) (fun h => h)
        have c1 := ho.cell_some (p := ⟨g, o + (4 * i + 1), none⟩) (HB.out _ _ e1) (fun h => h)
        have c2 := ho.cell_some (p := ⟨g, o + (4 * i + 2), none⟩) (HB.out _ _ e2) (fun h => h)
        have c3 := ho.cell_some (p := ⟨g, o + (4 * i + 3), none⟩) (HB.out _ _ e3) (fun h => h)
        have h1 := word_any (n := n - 4 * i) (c := c - 4 * i) (by omega) c0 c1 c2 c3
        rw [← wordAt_of e0 e1 e2 e3] at h1
        have hs : sched b (i + 1) = sched b i ++ [wordAt b i] := sched_low h16
        have cz := (hw.cell i).trans (wrow_zero (Nat.le_refl i) h64)
        have fz := hw.frozen i
        have H1 := Lib.hid h1
        have HW := Lib.hid hw
        have HRES := Lib.hid hres
        have HO := Lib.hid ho
        have HS := Lib.hid hs
        clear h1 hw hres ho hs e0 e1 e2 e3 c0 c1 c2 c3
        go_wp2_with fail
        refine H1.out.mono ?_
        rintro e w1 ⟨rfl, q, rfl⟩
        unfold wv
        have hne : w.heap.size + 1 ≠ w.heap.size := by omega
        go_wp2_with fail
        go_roundw
        case rel =>
          refine ⟨i + 1, by go_num, by omega, ?_, ?_, ?_⟩
          · have := (HW.out.drewN q).set_ i (wv (wordAt b i))
            rw [wrow_set h64 _ HS.out] at this
            exact this
          · exact (HRES.out.drewN q).far (Ne.symm hne) _
          · exact (HO.out.drewN q).setCell (.inr (by simp)) _
        case measure => simp [intOf]; omega
      · have hk : 16 ≤ i := by omega
        clear h16
        obtain ⟨x, ex⟩ : ∃ x, x = (sched b i).getD (i - 15) 0 := ⟨_, rfl⟩
        obtain ⟨y, ey⟩ : ∃ y, y = (sched b i).getD (i - 2) 0 := ⟨_, rfl⟩
        obtain ⟨u, eu⟩ : ∃ u, u = (sched b i).getD (i - 16) 0 := ⟨_, rfl⟩
        obtain ⟨v, ev⟩ : ∃ v, v = (sched b i).getD (i - 7) 0 := ⟨_, rfl⟩
        have hs : sched b (i + 1) = sched b i ++ [u + ssig x 7 18 3 + v + ssig y 17 19 10] := by
          rw [ex, ey, eu, ev]; exact sched_high hk
        have cx : wr.cell? ⟨w.heap.size + 1, i - 15, none⟩ = some (.int .u32 (x.toNat : Int)) := by rw [ex]; exact (hw.cell _).trans (wrow_get (by omega))
        have cy : wr.cell? ⟨w.heap.size + 1, i - 2, none⟩ = some (.int .u32 (y.toNat : Int)) := by rw [ey]; exact (hw.cell _).trans (wrow_get (by omega))
        have cu : wr.cell? ⟨w.heap.size + 1, i - 16, none⟩ = some (.int .u32 (u.toNat : Int)) := by rw [eu]; exact (hw.cell _).trans (wrow_get (by omega))
        have cv : wr.cell? ⟨w.heap.size + 1, i - 7, none⟩ = some (.int .u32 (v.toNat : Int)) := by rw [ev]; exact (hw.cell _).trans (wrow_get (by omega))
        have cz := (hw.cell i).trans (wrow_zero (Nat.le_refl i) h64)
        have fz := hw.frozen i
        have HW := Lib.hid hw
        have HRES := Lib.hid hres
        have HO := Lib.hid ho
        have HS := Lib.hid hs
        clear hw hres ho hs ex ey eu ev
        have i15 : IntKind.i64.wrap ((i : Int) - 15) = (i : Int) - 15 := IntWalk.i64_in _ (by omega)
        have i2 : IntKind.i64.wrap ((i : Int) - 2) = (i : Int) - 2 := IntWalk.i64_in _ (by omega)
        have i16 : IntKind.i64.wrap ((i : Int) - 16) = (i : Int) - 16 := IntWalk.i64_in _ (by omega)
        have i7 : IntKind.i64.wrap ((i : Int) - 7) = (i : Int) - 7 := IntWalk.i64_in _ (by omega)
        have n15 : ((i : Int) - 15).toNat = i - 15 := by omega
        have n2 : ((i : Int) - 2).toNat = i - 2 := by omega
        have n16 : ((i : Int) - 16).toNat = i - 16 := by omega
        have n7 : ((i : Int) - 7).toNat = i - 7 := by omega
        have p15 : 0 ≤ (i : Int) - 15 := by omega
        have p2 : 0 ≤ (i : Int) - 2 := by omega
        have p16 : 0 ≤ (i : Int) - 16 := by omega
        have p7 : 0 ≤ (i : Int) - 7 := by omega
        have q15 : (i : Int) - 15 < 64 := by omega
        have q2 : (i : Int) - 2 < 64 := by omega
        have q16 : (i : Int) - 16 < 64 := by omega
        have q7 : (i : Int) - 7 < 64 := by omega
        go_wp2_with fail
        go_quiet (fail)
        go_wp2_with fail
        refine (rotl_any x 7 (by omega) (by omega) _).mono ?_
        rintro e w1 ⟨rfl, rfl⟩
        unfold wv
        go_wp2_with fail
        refine (rotl_any x 18 (by omega) (by omega) _).mono ?_
        rintro e w1 ⟨rfl, rfl⟩
        unfold wv
        go_wp2_with fail
        refine (rotl_any y 17 (by omega) (by omega) _).mono ?_
        rintro e w1 ⟨rfl, rfl⟩
        unfold wv
        go_wp2_with fail
        refine (rotl_any y 19 (by omega) (by omega) _).mono ?_
        rintro e w1 ⟨rfl, rfl⟩
        unfold wv
        go_wp2_with fail
        go_region
        go_wp2_with fail
        go_roundw
        case rel =>
          refine ⟨i + 1, by go_num, by omega, ?_, ?_, ?_⟩
          · have := ((HW.out.drewN nq).drew).set_ i (wv (u + ssig x 7 18 3 + v + ssig y 17 19 10))
            rw [wrow_set h64 _ HS.out] at this
            rw [w_shrk x 3 8 (by decide), w_shrk y 10 1024 (by decide), w_xor, w_xor, w_xor, w_xor, w_sum4]
            exact this
          · exact ((HRES.out.drewN nq).drew).far (by simp) _
          · exact ((HO.out.drewN nq).drew).setCell (.inr (by simp)) _
        case measure => simp [intOf]; omega
    · obtain rfl : i = 64 := by omega
      have HW := Lib.hid hw
      have HRES := Lib.hid hres
      have HO := Lib.hid ho
      clear hw hres ho
      have hz : (wrow b 64).size = 64 := wrow_size b (Nat.le_refl _)
      have hi70 : (Tryz.prog.info? 138).map (·.size) = some (wrow b 64).size := by rw [hz]; kernel_rfl
      have hth : wr.there w.heap.size 0 (wrow b 64).size := HRES.out.there 0 _ (by rw [hz, wrow_size b (by omega)]; omega)
      have hone : (wrow b 64).all (·.oneCell') = true := by rw [wrow_full]; exact all_oneCell_toArray (fun v hv => by obtain ⟨x, _, rfl⟩ := List.mem_map.1 hv; rfl)
      have HI := Lib.hid hi70
      have HT := Lib.hid hth
      have HN := Lib.hid hone
      have HZ := Lib.hid hz
      clear hi70 hth hone hz
      go_wp2_with (first
        | (refine wpList_load_row rfl 138 (.tmp 3) rfl (w.heap.size + 1) rfl 138 (wrow b 64) (0, 0) _ HW.out Tryz.underlying138 rfl HI.out ?_)
        | (refine wpList_store_mid rfl 138 (.tmp 2) (.tmp 61) rfl w.heap.size 0 (wrow b 64) rfl rfl HT.out HI.out HN.out ?_))
      have hb := HRES.out.filled (wrow b 64).toList (by simpa [sched_len] using HZ.out)
      refine bodyPost_ret (results_blk rfl rfl hb Tryz.underlying138 rfl HI.out) rfl ⟨?_, only_setCells HO.out _ _ (.inr (Nat.le_refl _)) _⟩
      rw [wrow_full]
end Go.Proofs.YtclpebgjmgfigaaGreatDoor
namespace Go.Proofs.YtclpebgjmgfigaaGreatDoor
open Go.RowKit

def AddAt (G B : Nat) (s : St) (b : List UInt8) (w wr : World) : Prop :=
  Blk wr G 110 s.vals.toArray ∧ Blk wr B 138 (wrow b 64) ∧ Blk wr (B + 1) 138 (shaK.map wv).toArray ∧ Only NoneOf w wr
theorem krow_get {i : Nat} (h : i < 64) : (shaK.map wv).toArray[i]? = some (wv (shaK.getD i 0)) := by
  have hk : i < shaK.length := h
  rw [List.getElem?_toArray, List.getElem?_map, List.getD_eq_getElem?_getD, List.getElem?_eq_getElem hk]
  rfl
theorem w_not' (x : W) : bits .xor .u32 IntKind.u32.max (x.toNat : Int) = ((~~~x).toNat : Int) := w_not x
/-- The state when i words of t have been added. -/
def part (s t : St) (i : Nat) : List Value := (s.add t).vals.take i ++ s.vals.drop i
def AddTo (G : Nat) (s t : St) (i : Nat) (w wr : World) : Prop := Blk wr G 110 (part s t i).toArray ∧ Only (· = G) w wr
def sw (s : St) (i : Nat) : W := [s.a, s.b, s.c, s.d, s.e, s.f, s.g, s.h].getD i 0
theorem eight {i : Nat} (h : i < 8) : i = 0 ∨ i = 1 ∨ i = 2 ∨ i = 3 ∨ i = 4 ∨ i = 5 ∨ i = 6 ∨ i = 7 := by omega
theorem vals_get (s : St) {i : Nat} (h : i < 8) : s.vals.toArray[i]? = some (wv (sw s i)) := by
  rcases eight h with rfl | rfl | rfl | rfl | rfl | rfl | rfl | rfl <;> rfl
theorem part_get (s t : St) {i : Nat} (h : i < 8) : (part s t i).toArray[i]? = some (wv (sw s i)) := by
  rcases eight h with rfl | rfl | rfl | rfl | rfl | rfl | rfl | rfl <;> rfl
theorem part_set (s t : St) {i : Nat} (h : i < 8) : (part s t i).toArray.setIfInBounds i (wv (sw s i + sw t i)) = (part s t (i + 1)).toArray := by
  rcases eight h with rfl | rfl | rfl | rfl | rfl | rfl | rfl | rfl <;> rfl
theorem AddAt.drewN {G B : Nat} {s : St} {b : List UInt8} {w wr : World} (h : AddAt G B s b w wr) (n : Nat) : AddAt G B s b w (wr.drewN n) := ⟨h.1, h.2.1, h.2.2.1, h.2.2.2.drewN n⟩
theorem add_start {G : Nat} {s : St} {b : List UInt8} {w w2 : World} {zs : Array Value} (hz : zs.size = 64) (hs : Blk w G 110 s.vals.toArray) (ho : Only NoneOf w w2) (ks : List Value) (hk : ks = shaK.map wv) :
    AddAt G w2.heap.size s b w ((((w2.alloc (.cells zs 138)).alloc (.cells zs 138)).setCells w2.heap.size 0 (wrow b 64).toList).setCells (w2.heap.size + 1) 0 ks) := by
  subst hk
  have hg : G < w2.heap.size := Nat.lt_of_lt_of_le hs.lt ho.size
  have h0 := (Blk.new w2 138 zs).alloc (.cells zs 138)
  have h1 := Blk.new (w2.alloc (.cells zs 138)) 138 zs
  rw [World.size_alloc] at h1
  have hl : (wrow b 64).toList.length = zs.toList.length := by simpa [hz] using wrow_size b (Nat.le_refl 64)
  have hl2 : (shaK.map wv).length = zs.toList.length := by simp [hz]; decide +kernel
  refine ⟨?_, ?_, ?_, ?_⟩
  · exact (((((hs.only ho (fun h => h)).alloc _).alloc _).farCells (by omega) _ 0).farCells (by omega) _ 0)
  · have := (Blk.filled (xs := zs.toList) (by simpa using h0) _ hl).farCells (b := w2.heap.size + 1) (by omega) (shaK.map wv) 0
    simpa using this
  · exact Blk.filled (xs := zs.toList) (by simpa using h1.farCells (b := w2.heap.size) (by omega) (wrow b 64).toList 0) _ hl2
  · exact only_setCells (only_setCells ((ho.alloc _).alloc _) _ _ (.inr ho.size) _) _ _ (.inr (by have := ho.size; omega)) _
set_option maxRecDepth 100000 in
set_option maxHeartbeats 400000 in
theorem add_any {g o n c G : Nat} {b : List UInt8} {s : St} {w : World} (hs : Blk w G 110 s.vals.toArray) (hb : BytesAt w g o b) (hl : b.length = 64) (hn : 64 ≤ n) (hc : n ≤ c) (hcm : c ≤ 4611686018427387904) (hg : g < w.heap.size) :
    Calls Tryz.prog 62 #[.pointer (some ⟨G, 0, none⟩), .slice (some ⟨g, o, none⟩) n c] w fun e w' => (∃ v, e = .returned v) ∧ Blk w' G 110 (comp s b).vals.toArray ∧ Only (· = G) w w' := by
  have HSC := Lib.hid (schedule_any hb hl hn hc hcm hg)
  have HS := Lib.hid hs
  clear hs hb hl
  go_enter Tryz.func62, Tryz.ntmps62
  go_wp2_with fail
  refine HSC.out.mono ?_
  rintro e w1 ⟨rfl, ho1⟩
  have HO1 := Lib.hid ho1
  clear ho1
  go_wp2_with fail
  refine (drounds_any w1).mono ?_
  rintro e w2 ⟨rfl, ho2⟩
  have HO2 := Lib.hid (HO1.out.trans ho2)
  clear ho2 HO1
  have hk : (shaK.map wv).length = 64 := by decide +kernel
  have hzw : (wrow b 64).size = 64 := wrow_size b (Nat.le_refl _)
  have hzk : (shaK.map wv).toArray.size = 64 := hk
  have hiw : (Tryz.prog.info? 138).map (·.size) = some (wrow b 64).size := by rw [hzw]; kernel_rfl
  have hik : (Tryz.prog.info? 138).map (·.size) = some (shaK.map wv).toArray.size := by rw [hzk]; kernel_rfl
  have hnw : (wrow b 64).all (·.oneCell') = true := by rw [wrow_full]; exact all_oneCell_toArray (fun v hv => by obtain ⟨x, _, rfl⟩ := List.mem_map.1 hv; rfl)
  have hnk : (shaK.map wv).toArray.all (·.oneCell') = true := all_oneCell_toArray (fun v hv => by obtain ⟨x, _, rfl⟩ := List.mem_map.1 hv; rfl)
  have HK := Lib.hid hk
  have HZW := Lib.hid hzw
  have HIW := Lib.hid hiw
  have HIK := Lib.hid hik
  have HNW := Lib.hid hnw
  have HNK := Lib.hid hnk
  clear hk hzw hzk hiw hik hnw hnk
  rw [← wrow_full]
  have tok1 : True := trivial
  go_wp2_with (first
    | (have _t := tok1; refine wpList_store_mid rfl 138 (.tmp 4) (.tmp 20) rfl w2.heap.size 0 (wrow b 64) rfl rfl (there_old _ _ _ _ _ (by rw [HZW.out]; exact Nat.le_refl _)) HIW.out HNW.out ?_; clear tok1 _t)
    | (refine wpList_store_mid rfl 138 (.tmp 5) (.tmp 21) rfl (w2.heap.size + 1) 0 (shaK.map wv).toArray rfl rfl (there_old2 _ _ _ _ _ _ _ _ rfl (by simp [HK.out])) HIK.out HNK.out ?_))
  refine wp_gen (AddAt G w2.heap.size s b w) (add_start rfl HS.out HO2.out _ (by simp)) ?_
  obtain ⟨B, hB⟩ : ∃ B, B = w2.heap.size := ⟨_, rfl⟩
  rw [← hB]
  intro W3 h3
  clear HIW HIK HNW HNK HZW HK HO2 HS HSC hB
  have e0 : W3.cell? ⟨G, 0, none⟩ = some (.int .u32 (s.a.toNat : Int)) := (h3.1.cell 0).trans rfl
  have e1 : W3.cell? ⟨G, 1, none⟩ = some (.int .u32 (s.b.toNat : Int)) := (h3.1.cell 1).trans rfl
  have e2 : W3.cell? ⟨G, 2, none⟩ = some (.int .u32 (s.c.toNat : Int)) := (h3.1.cell 2).trans rfl
  have e3 : W3.cell? ⟨G, 3, none⟩ = some (.int .u32 (s.d.toNat : Int)) := (h3.1.cell 3).trans rfl
  have e4 : W3.cell? ⟨G, 4, none⟩ = some (.int .u32 (s.e.toNat : Int)) := (h3.1.cell 4).trans rfl
  have e5 : W3.cell? ⟨G, 5, none⟩ = some (.int .u32 (s.f.toNat : Int)) := (h3.1.cell 5).trans rfl
  have e6 : W3.cell? ⟨G, 6, none⟩ = some (.int .u32 (s.g.toNat : Int)) := (h3.1.cell 6).trans rfl
  have e7 : W3.cell? ⟨G, 7, none⟩ = some (.int .u32 (s.h.toNat : Int)) := (h3.1.cell 7).trans rfl
  have H3 := Lib.hid h3
  clear h3
  go_quiet (fail)
  clear e0 e1 e2 e3 e4 e5 e6 e7
  go_wp2_with fail
  go_loopw [6, 7, 8, 9, 10, 11, 12, 13, 54] (fun v6 v7 v8 v9 v10 v11 v12 v13 v54 wr => ∃ (i : Nat) (t : St), t = rnds s (sched b 64) i ∧ v6 = .int .u32 (t.a.toNat : Int) ∧ v7 = .int .u32 (t.b.toNat : Int) ∧ v8 = .int .u32 (t.c.toNat : Int) ∧ v9 = .int .u32 (t.d.toNat : Int) ∧ v10 = .int .u32 (t.e.toNat : Int) ∧ v11 = .int .u32 (t.f.toNat : Int) ∧ v12 = .int .u32 (t.g.toNat : Int) ∧ v13 = .int .u32 (t.h.toNat : Int) ∧ v54 = .int .i64 i ∧ i ≤ 64 ∧ AddAt G B s b w wr) (fun _ _ _ _ _ _ _ _ v _ => 64 - (intOf v).toNat)
  case atStart => exact ⟨0, s, rfl, rfl, rfl, rfl, rfl, rfl, rfl, rfl, rfl, rfl, by omega, H3.out.drewN _⟩
  case round =>
    clear H3
    obtain ⟨i, t, ht, rfl, rfl, rfl, rfl, rfl, rfl, rfl, rfl, rfl, hi, h4⟩ := hrel
    by_cases h64 : i < 64
    · obtain ⟨kk, ek⟩ : ∃ kk, kk = shaK.getD i 0 := ⟨_, rfl⟩
      obtain ⟨ww, ew⟩ : ∃ ww, ww = (sched b 64).getD i 0 := ⟨_, rfl⟩
      have ht' : rnd t kk ww = rnds s (sched b 64) (i + 1) := by rw [ht, ek, ew]; rfl
      have cw : wr.cell? ⟨B, i, none⟩ = some (.int .u32 (ww.toNat : Int)) := by rw [ew]; exact (h4.2.1.cell _).trans (wrow_get h64)
      have ck : wr.cell? ⟨B + 1, i, none⟩ = some (.int .u32 (kk.toNat : Int)) := by rw [ek]; exact (h4.2.2.1.cell _).trans (krow_get h64)
      have HT := Lib.hid ht'
      have H4 := Lib.hid h4
      clear ht ek ew ht' h4
      have m1 : ∀ w, Calls Tryz.prog 98 #[.int .u32 (t.e.toNat : Int), .int .i64 6, .int .i64 11, .int .i64 25] w fun e w' => e = .returned (.int .u32 ((smix t.e 6 11 25).toNat : Int)) ∧ w' = w := fun w => mixed_any t.e 6 11 25 (by omega) (by omega) (by omega) w
      have m2 : ∀ w, Calls Tryz.prog 98 #[.int .u32 (t.a.toNat : Int), .int .i64 2, .int .i64 13, .int .i64 22] w fun e w' => e = .returned (.int .u32 ((smix t.a 2 13 22).toNat : Int)) ∧ w' = w := fun w => mixed_any t.a 2 13 22 (by omega) (by omega) (by omega) w
      have M1 := Lib.hid m1
      have M2 := Lib.hid m2
      clear m1 m2
      go_wp2_with fail
      go_quiet ((go_at_call 98; exact Calls.quiet_of_same (M1.out _)))
      go_wp2_with fail
      refine (M2.out _).mono ?_
      rintro e w5 ⟨rfl, rfl⟩
      go_wp2_with fail
      go_roundw
      case rel =>
        have e5 : ∀ x0 x1 x2 x3 x4 : W, ((x0.toNat : Int) + (x1.toNat : Int) + (x2.toNat : Int) + (x3.toNat : Int) + (x4.toNat : Int)) % 4294967296 = ((x0 + x1 + x2 + x3 + x4).toNat : Int) := fun x0 x1 x2 x3 x4 => by
          rw [BitVec.toNat_add, BitVec.toNat_add, BitVec.toNat_add, BitVec.toNat_add]; omega
        have e2 : ∀ x0 x1 : W, ((x0.toNat : Int) + (x1.toNat : Int)) % 4294967296 = ((x0 + x1).toNat : Int) := w_add
        refine ⟨i + 1, rnd t kk ww, HT.out, ?_, rfl, rfl, rfl, ?_, rfl, rfl, rfl, by go_num, by omega, H4.out.drewN _⟩
        · rw [w_not', w_and, w_and, w_xor, w_and, w_and, w_and, w_xor, w_xor, e5, e2, e2]
          rfl
        · rw [w_not', w_and, w_and, w_xor, e5, e2]
          rfl
      case measure => simp [intOf]; omega
    · obtain rfl : i = 64 := by omega
      have hcomp : comp s b = s.add t := by rw [ht]; rfl
      have hs5 : ∀ w, (Go.sizeOf 109).run Tryz.prog w = .ok 1 w := fun _ => by kernel_rfl
      have ha5 : ∀ w, (isAgg 109).run Tryz.prog w = .ok false w := fun _ => by kernel_rfl
      have HC := Lib.hid hcomp
      have HS5 := Lib.hid hs5
      have HA5 := Lib.hid ha5
      have H4 := Lib.hid h4
      clear hcomp hs5 ha5 ht h4
      go_wp2_with fail
      go_loopw [114] (fun v wq => ∃ j : Nat, v = .int .i64 j ∧ j ≤ 8 ∧ AddTo G s t j w wq) (fun v _ => 8 - (intOf v).toNat)
      case atStart => exact ⟨0, rfl, by omega, H4.out.1, H4.out.2.2.2.mono (fun _ _ h => h.elim)⟩
      case round =>
        clear H4
        obtain ⟨j, rfl, hj, h5⟩ := hrel
        by_cases h8 : j < 8
        · have hix := run_index_arr (P := Tryz.prog) (cs := #[.int .u32 (t.a.toNat : Int), .int .u32 (t.b.toNat : Int), .int .u32 (t.c.toNat : Int), .int .u32 (t.d.toNat : Int), .int .u32 (t.e.toNat : Int), .int .u32 (t.f.toNat : Int), .int .u32 (t.g.toNat : Int), .int .u32 (t.h.toNat : Int)]) Tryz.underlying110 HS5.out HA5.out h8 (vals_get t h8)
          obtain ⟨x, ex⟩ : ∃ x, x = sw t j := ⟨_, rfl⟩
          obtain ⟨y, ey⟩ : ∃ y, y = sw s j := ⟨_, rfl⟩
          have cz := (h5.1.cell j).trans (part_get s t h8)
          have fz := h5.1.frozen j
          rw [← ex] at hix
          rw [← ey] at cz
          unfold wv at hix cz
          have hset := part_set s t h8
          rw [← ex, ← ey] at hset
          have HSET := Lib.hid hset
          have H5 := Lib.hid h5
          clear hset h5 ex ey
          go_wp2_with fail
          go_region
          go_wp2_with fail
          go_roundw
          case rel =>
            refine ⟨j + 1, by go_num, by omega, ?_, ?_⟩
            · have := (H5.out.1.drew).set_ j (wv (y + x))
              rw [HSET.out] at this
              rw [w_add]
              exact this
            · exact (H5.out.2.drew).setCell (.inl rfl) _
          case measure => simp [intOf]; omega
        · obtain rfl : j = 8 := by omega
          go_wp2_with fail
          go_end0
          exact ⟨⟨_, rfl⟩, by rw [HC.out]; exact h5.1, h5.2⟩
end Go.Proofs.YtclpebgjmgfigaaGreatDoor
namespace Go.Proofs.YtclpebgjmgfigaaGreatDoor
open Go.RowKit

/-- The slice value v lies in a block of bytes of its own, from its first cell on; its bytes are l. -/
def Buf (w : World) (e : TypeId) (v : Value) (l : List UInt8) : Prop :=
  ∃ (g cap : Nat) (cur : Array Value) (lo hi : Nat), v = .slice (some ⟨g, 0, none⟩) l.length cap ∧ w.heap[g]? = some (.cells cur e (lo, hi)) ∧ cur.size = cap ∧ l.length ≤ cap ∧ cap ≤ maxLen ∧ (cap ≤ lo ∨ hi = 0) ∧ cur.toList.take l.length = l.map bv

section
variable {w w' : World} {e : TypeId} {v : Value} {l : List UInt8}
theorem Buf.form (h : Buf w e v l) : ∃ g cap, v = .slice (some ⟨g, 0, none⟩) l.length cap ∧ g < w.heap.size ∧ l.length ≤ cap ∧ cap ≤ maxLen ∧ BytesAt w g 0 l := by
  obtain ⟨g, cap, cur, lo, hi, rfl, hh, hcs, hc, hm, _, ht⟩ := h
  refine ⟨g, cap, rfl, (Array.getElem?_eq_some_iff.1 hh).1, hc, hm, fun j x hx => ?_⟩
  have hj : j < l.length := (List.getElem?_eq_some_iff.1 hx).1
  have h1 : (cur.toList.take l.length)[j]? = some (bv x) := by rw [ht, List.getElem?_map, hx]; rfl
  rw [List.getElem?_take, if_pos hj] at h1
  rw [Nat.zero_add]
  unfold World.cell?
  simp only [hh]
  simpa using h1
theorem Buf.only {S : Nat → Prop} (h : Buf w e v l) (ho : Only S w w') (hn : ∀ k, v.ownBlock = some k → ¬ S k) : Buf w' e v l := by
  obtain ⟨g, cap, cur, lo, hi, rfl, hh, hr⟩ := h
  exact ⟨g, cap, cur, lo, hi, rfl, (ho.block g (Array.getElem?_eq_some_iff.1 hh).1 (hn g rfl)).trans hh, hr⟩
theorem Buf.drewN (h : Buf w e v l) (n : Nat) : Buf (w.drewN n) e v l := h
theorem Buf.lt (h : Buf w e v l) {k : Nat} (hk : v.ownBlock = some k) : k < w.heap.size := by
  obtain ⟨g, cap, cur, lo, hi, rfl, hh, _⟩ := h
  cases hk
  exact (Array.getElem?_eq_some_iff.1 hh).1
theorem byteCells_eq (s : ByteArray) : byteCells s = s.data.toList.map bv := rfl
theorem Buf.of_string (w : World) (e : TypeId) (s : ByteArray) (hs : s.size ≤ maxLen) :
    Buf (w.drew.alloc (.cells (bytesRow s (grownCap w s.size 0 e)) e ((bytesRow s (grownCap w s.size 0 e)).size, (bytesRow s (grownCap w s.size 0 e)).size + 1))) e (.slice (some ⟨w.heap.size, 0, none⟩) s.size (grownCap w s.size 0 e)) s.data.toList := by
  have hge := grownCap_ge w s.size 0 e
  have hsz : (bytesRow s (grownCap w s.size 0 e)).size = grownCap w s.size 0 e := by
    simp only [bytesRow, Array.size_append, Array.size_map, Array.size_replicate]
    have : s.data.size = s.size := rfl
    omega
  have hl : s.data.toList.length = s.size := by simp
  refine ⟨w.heap.size, grownCap w s.size 0 e, _, _, _, ?_, heap_alloc_new w.drew _, hsz, by rw [hl]; exact hge, grownCap_le_maxLen w _ _ _ hs, .inl (by rw [hsz]; exact Nat.le_refl _), ?_⟩
  · rw [hl]
  · simp only [bytesRow, Array.toList_append, Array.toList_map]
    rw [List.take_append_of_le_length (by simp), List.take_of_length_le (by simp)]
    rfl
theorem zero_u8 (n : Nat) : Builtin.zeroCells (Value.int .u8 0).cells n = ((List.replicate n (0 : UInt8)).map bv).toArray := by
  apply Array.ext'
  apply List.ext_getElem?
  intro i
  simp only [Builtin.zeroCells, Value.cells]
  by_cases h : i < n
  · simp [h, Nat.mod_one, bv]
  · simp [h]
end

section
variable {P : Program} {w : World} {e : TypeId} {v : Value} {l : List UInt8}
theorem Buf.firsts (h : Buf w e v l) {cap : Nat} {b : Option Addr} (_hv : v = .slice b l.length cap) : (Builtin.firstCells 1 l.length v).run P w.drew = .ok (l.map bv).toArray w.drew := by
  obtain ⟨g, cap', hv', _, _, _, hb⟩ := h.form
  rw [hv']
  refine run_firstCells_some (P := P) w.drew 1 l.length ⟨g, 0, none⟩ _ _ (l.map bv) (by simp) (fun j u hu => ?_)
  rw [List.getElem?_map] at hu
  cases hx : l[j]? with
  | none => rw [hx] at hu; cases hu
  | some x =>
    rw [hx] at hu
    cases hu
    rw [Addr.add_mid]
    exact hb j x hx
/-- What lies behind an append with room. -/
theorem Buf.stored (h : Buf w e v l) (news : List UInt8) {g cap : Nat} (hv : v = .slice (some ⟨g, 0, none⟩) l.length cap) (hroom : l.length + news.length ≤ cap) :
    Buf (w.setCells g (0 + l.length * 1) (news.map bv)) e (.slice (some ⟨g, 0, none⟩) (l.length + news.length) cap) (l ++ news) ∧ w.there g (0 + l.length * 1) news.length := by
  obtain ⟨g', cap', cur, lo, hi, hv', hh, hcs, hc, hm, hz, ht⟩ := h
  rw [hv] at hv'
  simp only [Value.slice.injEq, Option.some.injEq, Addr.mk.injEq, and_true, true_and] at hv'
  obtain ⟨rfl, rfl⟩ := hv'
  rw [Nat.zero_add, Nat.mul_one]
  have hheap : ∀ (vs : List Value) (o : Nat) (W : World) (xs : List Value), W.heap[g]? = some (.cells xs.toArray e (lo, hi)) → (W.setCells g o vs).heap[g]? = some (.cells (setMany xs o vs).toArray e (lo, hi)) := by
    intro vs
    induction vs with
    | nil => intro o W xs h; exact h
    | cons u r ih =>
      intro o W xs h
      refine ih (o + 1) (W.setCell ⟨g, o, none⟩ u) (xs.set o u) ?_
      simp [World.setCell, Array.getElem?_modify, h]
  have h1 := hheap (news.map bv) l.length w cur.toList (by simpa using hh)
  have hlen : l.length + (news.map bv).length ≤ cur.toList.length := by simp; omega
  rw [setMany_eq _ _ _ hlen] at h1
  refine ⟨⟨g, cap, _, lo, hi, by simp, h1, by simp; omega, by simp; omega, hm, hz, ?_⟩, fun j hj => ⟨?_, ?_⟩⟩
  · rw [List.toList_toArray, ht, List.append_assoc, ← List.append_assoc, ← List.map_append, List.take_append_of_le_length (by simp), List.take_of_length_le (by simp)]
  · unfold World.cell?
    simp only [hh]
    rw [if_neg (by simp), Array.getElem?_eq_getElem (by omega)]
    rfl
  · unfold World.frozen?
    simp only [hh]
    rcases hz with hz | hz
    · simp; omega
    · simp [hz]
theorem Buf.grown (_h : Buf w e v l) (news : List UInt8) (cap : Nat) (hcap : l.length + news.length ≤ cap) (hm : cap ≤ maxLen) :
    Buf (w.drew.alloc (.cells (((l.map bv ++ news.map bv).toArray) ++ Builtin.zeroCells (Value.int .u8 0).cells (cap - (l.length + news.length))) e)) e (.slice (some ⟨w.heap.size, 0, none⟩) (l.length + news.length) cap) (l ++ news) := by
  refine ⟨w.heap.size, cap, _, 0, 0, by simp, heap_alloc_new w.drew _, by rw [zero_u8]; simp; omega, by simp; omega, hm, .inr rfl, ?_⟩
  rw [Array.toList_append, List.toList_toArray, List.take_append_of_le_length (by simp), List.take_of_length_le (by simp), List.map_append]
theorem run_append_buf (t tx ty : TypeId) (i : TypeInfo) (ht : P.underlying t = some (.slice e)) (hi : P.info? e = some i) (hz : i.zero = some (.int .u8 0)) (hsz : i.size = 1) (hby : i.bytes = 1)
    (hb : Buf w e v l) (x : Value) (news : List UInt8) (hs : Src P 1 tx x news.length (news.map bv) w) (hn : l.length + news.length ≤ 140737488355328) :
    ∃ v' w', (Builtin.append_ #[t, tx] ty #[v, x]).run P w = .ok v' w' ∧ Buf w' e v' (l ++ news) ∧ w.grownBy w' v.ownBlock ∧ (v'.ownBlock = v.ownBlock ∨ v'.ownBlock = some w.heap.size) := by
  obtain ⟨g, cap, hv, hlt, hc, hm, hbt⟩ := hb.form
  have hs' : Src P i.size tx x news.length (news.map bv) w := by rw [hsz]; exact hs
  by_cases hroom : l.length + news.length ≤ cap
  · obtain ⟨h1, h2⟩ := hb.stored news hv hroom
    refine ⟨_, _, ?_, h1, ?_, .inl (by rw [hv]; rfl)⟩
    · rw [hv]
      have := run_append_room_src (P := P) w t tx ty e i ht hi g 0 l.length cap x news.length _ hs' hroom
        (fun j hj => by rw [hsz]; exact (h2 j (by simpa using hj)).1) (fun j hj => by rw [hsz]; exact (h2 j (by simpa using hj)).2)
      rw [hsz] at this
      exact this
    · have := only_setCells (Only.refl (fun k => v.ownBlock = some k) w) g (0 + l.length * 1) (.inl (by rw [hv]; rfl)) (news.map bv)
      exact this.grownBy (fun k hk => hk.symm)
  · have hr := run_append_grow_src (P := P) w t tx ty e i (.int .u8 0) ht hi hz (some ⟨g, 0, none⟩) l.length cap (l.map bv) (by rw [hsz, ← hv]; exact hb.firsts hv) x news.length _ hs' (by omega) (by omega) (growslice_fits (by omega) (by rw [hby]; omega))
    refine ⟨_, _, by rw [hv]; exact hr, hb.grown news _ (grownCap_ge _ _ _ _) (grownCap_le_maxLen _ _ _ _ (by unfold maxLen; omega)), ?_, .inr rfl⟩
    exact ⟨rfl, rfl, rfl, by simp, fun k hk _ => Below.heap_alloc w.drew _ k hk⟩
/-- 'append(v, make([]byte, k)...)'. -/
theorem run_append_zeros_buf (t tn ty : TypeId) (i : TypeInfo) (kn kq : IntKind) (ht : P.underlying t = some (.slice e)) (htn : P.underlying tn = some (.int kn)) (hi : P.info? e = some i) (hz : i.zero = some (.int .u8 0)) (hsz : i.size = 1) (hby : i.bytes = 1)
    (hb : Buf w e v l) (k : Nat) (hn : l.length + k ≤ 140737488355328) :
    ∃ v' w', (Builtin.append_ #[t, tn] ty #[v, .int kq (k : Int)]).run P w = .ok v' w' ∧ Buf w' e v' (l ++ List.replicate k 0) ∧ w.grownBy w' v.ownBlock ∧ (v'.ownBlock = v.ownBlock ∨ v'.ownBlock = some w.heap.size) := by
  obtain ⟨g, cap, hv, hlt, hc, hm, hbt⟩ := hb.form
  have hlk : (List.replicate k (0 : UInt8)).length = k := by simp
  have hw : IntKind.i64.wrap (k : Int) = k := by rw [IntKind.wrap_i64]; omega
  have h48i : ¬ (281474976710656 < (k : Int)) := by omega
  have hneg : ¬ ((k : Int) < 0) := by omega
  by_cases hroom : l.length + k ≤ cap
  · obtain ⟨h1, h2⟩ := hb.stored (List.replicate k 0) hv (by rw [hlk]; exact hroom)
    rw [hlk] at h1 h2
    refine ⟨_, _, ?_, h1, ?_, .inl (by rw [hv]; rfl)⟩
    · rw [hv]
      have hst := run_storeCells_cells (P := P) g (0 + l.length * 1) ((List.replicate k (0 : UInt8)).map bv) 0 w (fun j hj => by rw [Nat.add_zero]; exact (h2 j (by simpa using hj)).1) (fun j hj => by rw [Nat.add_zero]; exact (h2 j (by simpa using hj)).2) (fun u hu => by obtain ⟨_, _, rfl⟩ := List.mem_map.1 hu; rfl)
      simp only [Nat.add_zero, Nat.zero_add, Nat.mul_one] at hst ⊢
      by_cases hk : k = 0
      · subst hk
        have hw0 : IntKind.i64.wrap 0 = 0 := rfl
        simp [Builtin.append_, run_underlying ht, run_underlying htn, sizeOf, typeInfo, zeroValue, hi, hz, hby, asInt, asIntOf, hw0, hc, storeCells] at hst ⊢
        rfl
      · simp [Builtin.append_, run_underlying ht, run_underlying htn, sizeOf, typeInfo, zeroValue, hi, hz, hsz, hby, asInt, asIntOf, hw, hneg, h48i, hroom, hk, Addr.add_lit, zero_u8]
        simp at hst
        simp [hst]
    · have := only_setCells (Only.refl (fun k => v.ownBlock = some k) w) g (0 + l.length * 1) (.inl (by rw [hv]; rfl)) ((List.replicate k (0 : UInt8)).map bv)
      exact this.grownBy (fun k hk => hk.symm)
  · have hr := Lib.run_append_grow_zeros (P := P) w t tn ty e i (.int .u8 0) kq kn ht htn hi hz (some ⟨g, 0, none⟩) l.length cap (l.map bv) (by rw [hsz, ← hv]; exact hb.firsts hv) k (by omega) (by omega) (by omega) (by omega) (by rw [hby]; omega) (growslice_fits (by omega) (by rw [hby]; omega))
    have h2 := hb.grown (List.replicate k 0) (grownCap w (l.length + k) cap e) (by rw [hlk]; exact grownCap_ge _ _ _ _) (grownCap_le_maxLen _ _ _ _ (by unfold maxLen; omega))
    rw [hlk] at h2
    have e1 : (l.map bv).toArray ++ ((List.replicate k (0 : UInt8)).map bv).toArray = (l.map bv ++ (List.replicate k (0 : UInt8)).map bv).toArray := Array.ext' (by simp)
    rw [zero_u8 k, ← hv, e1] at hr
    refine ⟨_, _, hr, ?_, ⟨rfl, rfl, rfl, by simp, fun k hk _ => Below.heap_alloc w.drew _ k hk⟩, .inr rfl⟩
    exact h2
end
end Go.Proofs.YtclpebgjmgfigaaGreatDoor
namespace Go.Proofs.YtclpebgjmgfigaaGreatDoor
open Go.RowKit

theorem BytesAt.new (w : World) (t : TypeId) (l : List UInt8) : BytesAt (w.alloc (.cells (l.map bv).toArray t)) w.heap.size 0 l := fun j x hx => by
  rw [Nat.zero_add, (Blk.new w t _).cell, List.getElem?_toArray, List.getElem?_map, hx]
  rfl
theorem src_bytes {P : Program} {tx e : TypeId} (hk : P.underlying tx = some (.slice e)) {W : World} {g c n : Nat} {l : List UInt8} (h : BytesAt W g 0 l) (hn : l.length = n) : Src P 1 tx (.slice (some ⟨g, 0, none⟩) n c) l.length (l.map bv) W := by
  subst hn
  refine Src.ofSlice W hk ⟨g, 0, none⟩ l.length c (l.map bv) (by simp) (fun j u hu => ?_) (fun u hu => by obtain ⟨_, _, rfl⟩ := List.mem_map.1 hu; rfl)
  rw [List.getElem?_map] at hu
  cases hx : l[j]? with
  | none => rw [hx] at hu; cases hu
  | some x =>
    rw [hx] at hu
    cases hu
    rw [Addr.add_mid]
    exact h j x hx
theorem Buf.bytes {w : World} {e : TypeId} {g n c : Nat} {l : List UInt8} (h : Buf w e (.slice (some ⟨g, 0, none⟩) n c) l) : BytesAt w g 0 l := by
  obtain ⟨_, _, hv, _, _, _, hb⟩ := h.form
  simp only [Value.slice.injEq, Option.some.injEq, Addr.mk.injEq, and_true] at hv
  rw [hv.1]
  exact hb
theorem Buf.alloc {w : World} {e : TypeId} {v : Value} {l : List UInt8} (h : Buf w e v l) (o : Obj) : Buf (w.alloc o) e v l := h.only ((Only.refl NoneOf w).alloc o) (fun _ _ h => h)
/-- What a row that grows leaves alone: all that lay at first. -/
theorem only_grow {w w1 w2 : World} {g : Nat} {n c : Nat} (ho : Only NoneOf w w1) (hg : w1.grownBy w2 (Value.slice (some ⟨g, 0, none⟩) n c).ownBlock) (hge : w.heap.size ≤ g) : Only NoneOf w w2 :=
  ho.grown hg (fun k hk => .inr (by cases hk; exact hge))
section
variable {P : Program} {w : World} {ops : Array Oper} {rest : List Oper} {o : Oper} {a : Act} {Q : Exit → Act → World → Prop}
theorem wpList_convert_string (hgd : o.guard = none) (src dst e : TypeId) (x : Operand) (ho : o.op = .convert src dst x) (s : ByteArray) (hx : a.eval x = .string s)
    (hs : P.underlying src = some .string) (hd : P.underlying dst = some (.slice e)) (he : P.underlying e = some (.int .u8)) (hm : s.size ≤ maxLen) (B0 : World) (nB : Nat) (hB : B0.heap.size = nB) (ho0 : Only NoneOf B0 w)
    (h : ∀ g cap w', Hid (Buf w' e (.slice (some ⟨g, 0, none⟩) s.size cap) s.data.toList) → Hid (Only NoneOf B0 w') → nB ≤ g → g < w'.heap.size → s.size ≤ cap → cap ≤ maxLen → wpList P ops Q rest (a.put o.dst (.slice (some ⟨g, 0, none⟩) s.size cap)) w') : wpList P ops Q (o :: rest) a w := by
  refine wpList_plain hgd fun K hK => ?_
  unfold Oper.wp execOp
  simp only [ho, hx, Sem.run_bind, Result.andThen_ok, run_bytes_of_string w src dst e s hs hd he]
  have hb := Buf.of_string w e s hm
  exact hK _ _ (h _ _ _ hb (ho0.drew.alloc _) (by rw [← hB]; exact ho0.size) (by simp) (grownCap_ge _ _ _ _) (grownCap_le_maxLen _ _ _ _ hm))
theorem wpList_append_buf (hgd : o.guard = none) (s x : Operand) (t tx : TypeId) (ho : o.op = .call { callee := .builtin .append, args := #[s, x], argTypes := #[t, tx] })
    (e : TypeId) (i : TypeInfo) (ht : P.underlying t = some (.slice e)) (hi : P.info? e = some i) (hz : i.zero = some (.int .u8 0)) (hsz : i.size = 1) (hby : i.bytes = 1)
    (g0 q0 cap0 : Nat) (l : List UInt8) (hv : a.eval s = .slice (some ⟨g0, 0, none⟩) q0 cap0) (hb : Buf w e (.slice (some ⟨g0, 0, none⟩) q0 cap0) l) (B0 : World) (nB : Nat) (hB : B0.heap.size = nB) (ho0 : Only NoneOf B0 w) (hge : nB ≤ g0) (vx : Value) (hx : a.eval x = vx) (news : List UInt8) (hs : Src P 1 tx vx news.length (news.map bv) w) (hn : l.length + news.length ≤ 140737488355328)
    (L : List UInt8) (N : Nat) (hL : l ++ news = L) (hN : L.length = N)
    (h : ∀ g cap w', Hid (Buf w' e (.slice (some ⟨g, 0, none⟩) N cap) L) → Hid (Only NoneOf B0 w') → nB ≤ g → g < w'.heap.size → N ≤ cap → cap ≤ maxLen → wpList P ops Q rest (a.put o.dst (.slice (some ⟨g, 0, none⟩) N cap)) w') : wpList P ops Q (o :: rest) a w := by
  obtain ⟨v', w', hr, h1, h2, h3⟩ := run_append_buf (P := P) t tx o.type i ht hi hz hsz hby hb vx news hs hn
  obtain ⟨g, cap, rfl, hg, hc, hm, _⟩ := h1.form
  rw [hL, hN] at *
  refine Lib.wpList_append_run w hgd s x t tx ho _ vx hv hx _ w' hr (h g cap w' h1 (only_grow ho0 h2 (by omega)) ?_ hg hc hm)
  rcases h3 with h3 | h3
  · cases h3; exact hge
  · cases h3; rw [← hB]; exact ho0.size
theorem wpList_append_zeros (hgd : o.guard = none) (s x : Operand) (t tn : TypeId) (ho : o.op = .call { callee := .builtin .append, args := #[s, x], argTypes := #[t, tn] })
    (e : TypeId) (i : TypeInfo) (kn kq : IntKind) (ht : P.underlying t = some (.slice e)) (htn : P.underlying tn = some (.int kn)) (hi : P.info? e = some i) (hz : i.zero = some (.int .u8 0)) (hsz : i.size = 1) (hby : i.bytes = 1)
    (g0 q0 cap0 : Nat) (l : List UInt8) (hv : a.eval s = .slice (some ⟨g0, 0, none⟩) q0 cap0) (hb : Buf w e (.slice (some ⟨g0, 0, none⟩) q0 cap0) l) (B0 : World) (nB : Nat) (hB : B0.heap.size = nB) (ho0 : Only NoneOf B0 w) (hge : nB ≤ g0) (k : Nat) (hx : a.eval x = .int kq (k : Int)) (hn : l.length + k ≤ 140737488355328)
    (L : List UInt8) (N : Nat) (hL : l ++ List.replicate k 0 = L) (hN : L.length = N)
    (h : ∀ g cap w', Hid (Buf w' e (.slice (some ⟨g, 0, none⟩) N cap) L) → Hid (Only NoneOf B0 w') → nB ≤ g → g < w'.heap.size → N ≤ cap → cap ≤ maxLen → wpList P ops Q rest (a.put o.dst (.slice (some ⟨g, 0, none⟩) N cap)) w') : wpList P ops Q (o :: rest) a w := by
  obtain ⟨v', w', hr, h1, h2, h3⟩ := run_append_zeros_buf (P := P) t tn o.type i kn kq ht htn hi hz hsz hby hb k hn
  obtain ⟨g, cap, rfl, hg, hc, hm, _⟩ := h1.form
  rw [hL, hN] at *
  refine Lib.wpList_append_run w hgd s x t tn ho _ _ hv hx _ w' hr (h g cap w' h1 (only_grow ho0 h2 (by omega)) ?_ hg hc hm)
  rcases h3 with h3 | h3
  · cases h3; exact hge
  · cases h3; rw [← hB]; exact ho0.size
theorem wpList_copy_bytes (hgd : o.guard = none) (d s : Operand) (dT sT : TypeId) (ho : o.op = .call { callee := .builtin .copy, args := #[d, s], argTypes := #[dT, sT] })
    (elem : TypeId) (hu : P.underlying dT = some (.slice elem)) (hz : (P.info? elem).map (·.size) = some 1)
    (b off dLen dCap : Nat) (ad : Addr) (sLen sCap : Nat) (hd : a.eval d = .slice (some ⟨b, off, none⟩) dLen dCap) (hsv : a.eval s = .slice (some ad) sLen sCap)
    (cs : List Value) (hn : cs.length = Nat.min sLen dLen) (hsrc : ∀ j v, cs[j]? = some v → w.cell? (ad.add j) = some v) (hth : w.there b off cs.length) (h1 : ∀ v ∈ cs, v.oneCell' = true)
    (h : wpList P ops Q rest (a.put o.dst (goInt cs.length)) (w.setCells b off cs)) : wpList P ops Q (o :: rest) a w := by
  refine wpList_plain hgd fun K hK => ?_
  have hrun := run_copy_cells (P := P) w dT sT o.type elem b off dLen dCap ad sLen sCap cs hu hz hn hsrc (fun j hj => (hth j hj).1) (fun j hj => (hth j hj).2) h1
  unfold Oper.wp
  simp [execOp, ho, resolve, invoke, builtin, hd, hsv, hrun, Result.andThen]
  exact hK _ _ h
theorem wpList_convert_back (hgd : o.guard = none) (src dst e : TypeId) (x : Operand) (ho : o.op = .convert src dst x) (g of n cap : Nat) (hx : a.eval x = .slice (some ⟨g, of, none⟩) n cap) (l : List UInt8) (hl : l.length = n) (hb : BytesAt w g of l)
    (hs : P.underlying src = some (.slice e)) (he : P.underlying e = some (.int .u8)) (hd : P.underlying dst = some .string)
    (h : wpList P ops Q rest (a.put o.dst (.string ⟨l.toArray⟩)) w) : wpList P ops Q (o :: rest) a w := by
  subst hl
  refine wpList_plain hgd fun K hK => ?_
  have hr := run_convert_bytes_back (P := P) w src dst e ⟨g, of, none⟩ cap l hs he hd (fun j hj => by
    rw [Addr.add_mid]
    exact hb j _ (List.getElem?_eq_getElem hj))
  unfold Oper.wp execOp
  simp only [ho, hx, Sem.run_bind, Result.andThen_ok, hr]
  exact hK _ _ h
theorem bytesAt_one (w : World) (t : TypeId) (v : Int) (b : UInt8) (hv : v = (b.toNat : Int)) : BytesAt (w.alloc (.cells #[.int .u8 v] t)) w.heap.size 0 [b] := by
  subst hv
  exact BytesAt.new w t [b]
theorem step_copy_bytes {K : Act → World → Prop} {E : Prop} (hgd : o.guard = none) (d s : Operand) (dT sT : TypeId) (ho : o.op = .call { callee := .builtin .copy, args := #[d, s], argTypes := #[dT, sT] })
    (elem : TypeId) (hu : P.underlying dT = some (.slice elem)) (hz : (P.info? elem).map (·.size) = some 1)
    (b off dLen dCap : Nat) (ad : Addr) (sLen sCap : Nat) (hd : a.eval d = .slice (some ⟨b, off, none⟩) dLen dCap) (hsv : a.eval s = .slice (some ad) sLen sCap)
    (cs : List Value) (hn : cs.length = Nat.min sLen dLen) (hsrc : ∀ j v, cs[j]? = some v → w.cell? (ad.add j) = some v) (hth : w.there b off cs.length) (h1 : ∀ v ∈ cs, v.oneCell' = true)
    (h : K (a.put o.dst (goInt cs.length)) (w.setCells b off cs)) : if Region.wanted o (yielded ops a.tmps) = true then Oper.wp P o a w K Q else E := by
  have hw : Region.wanted o (yielded ops a.tmps) = true := by simp [Region.wanted, hgd]
  rw [if_pos hw]
  have hrun := run_copy_cells (P := P) w dT sT o.type elem b off dLen dCap ad sLen sCap cs hu hz hn hsrc (fun j hj => (hth j hj).1) (fun j hj => (hth j hj).2) h1
  unfold Oper.wp
  simp [execOp, ho, resolve, invoke, builtin, hd, hsv, hrun, Result.andThen]
  exact h
theorem bvs_one (l : List UInt8) : ∀ v ∈ l.map bv, v.oneCell' = true := fun v hv => by obtain ⟨_, _, rfl⟩ := List.mem_map.1 hv; rfl
theorem bytes_src {w : World} {g o : Nat} {l : List UInt8} (h : BytesAt w g o l) : ∀ j v, (l.map bv)[j]? = some v → w.cell? ((⟨g, o, none⟩ : Addr).add j) = some v := fun j u hu => by
  rw [List.getElem?_map] at hu
  cases hx : l[j]? with
  | none => rw [hx] at hu; cases hu
  | some x =>
    rw [hx] at hu
    cases hu
    rw [Addr.add_mid]
    exact h j x hx
end
end Go.Proofs.YtclpebgjmgfigaaGreatDoor
namespace Go.Proofs.YtclpebgjmgfigaaGreatDoor
open Go.RowKit Go.Shelf
attribute [local go_sem] Oper.semAt_some

/-- Two blocks lie as they lay. -/
def Kept2 (A B : Nat) (W W' : World) : Prop := W'.heap[A]? = W.heap[A]? ∧ W'.heap[B]? = W.heap[B]?
theorem kept2_t {A B : Nat} {X Y Z : World} (h : Kept2 A B X Y) (k : Kept2 A B Y Z) : Kept2 A B X Z := ⟨k.1.trans h.1, k.2.trans h.2⟩
theorem kept2_b {A B : Nat} {w : World} (hA : A < w.heap.size) (hB : B < w.heap.size) (W : World) (l : Nat) (o o' : Obj) (hl : w.heap.size ≤ l) (_ : W.heap[l]? = some o) (_ : o.isCells = false) (_ : o.isWalk = false) : Kept2 A B W (W.putObj l o') :=
  ⟨World.putObj_heap_other (by omega), World.putObj_heap_other (by omega)⟩
theorem Kept2.refl (A B : Nat) (W : World) : Kept2 A B W W := ⟨rfl, rfl⟩
theorem Kept2.cell {A B : Nat} {W W' : World} (h : Kept2 A B W W') (o : Nat) : W'.cell? ⟨A, o, none⟩ = W.cell? ⟨A, o, none⟩ ∧ W'.cell? ⟨B, o, none⟩ = W.cell? ⟨B, o, none⟩ :=
  ⟨World.cell?_of_block h.1, World.cell?_of_block h.2⟩
/-- A piece. -/
def piece (g k : Nat) : Value := .slice (some ⟨g, 64 * k, none⟩) 64 64
set_option maxHeartbeats 400000 in
theorem chunk_any (a : Option Addr) (n c : Nat) (w : World) :
    Calls Tryz.prog 61 #[.slice a n c, .int .i64 64] w fun e w' => e = .returned (.func (.func 95) #[] #[.pointer (some ⟨w.heap.size, 0, none⟩), .pointer (some ⟨w.heap.size + 1, 0, none⟩)]) ∧ w' = (w.alloc (.cells #[.slice a n c] 39)).alloc (.cells #[.int .i64 64] 3) := by
  go_enter Tryz.func61, Tryz.ntmps61
  go_wp2_with fail
  go_ret
  exact ⟨rfl, rfl⟩
theorem fin_take {m k : Nat} (h : k < m) : (List.finRange m).take (k + 1) = (List.finRange m).take k ++ [⟨k, h⟩] := by
  rw [List.take_succ_eq_append_getElem (by simpa using h)]
  simp
theorem fin_all (m : Nat) : (List.finRange m).take m = List.finRange m := List.take_of_length_le (by simp)
set_option maxRecDepth 100000 in
set_option maxHeartbeats 1000000 in
theorem chunk1_in (n : Nat) (l A B g m cap : Nat) (hc : 64 * m ≤ cap) (hcm : cap ≤ 9223372036854775807) (J Jx : List (Fin m) → World → Prop)
    (hY : ∀ pre x W, J pre W → pre.length < m → YieldAt Fence.wide (n - 1) Tryz.prog l #[piece g x.val] W fun e W' =>
      (e = .returned (.bool true) ∧ J (pre ++ [x]) W' ∧ Kept2 A B W W') ∨ (e = .returned (.bool false) ∧ Jx (pre ++ [x]) W'))
    (W : World) (hJ : AbidesFrom W.heap.size J) (hA : W.cell? ⟨A, 0, none⟩ = some (.slice (some ⟨g, 0, none⟩) (64 * m) cap)) (hB : W.cell? ⟨B, 0, none⟩ = some (.int .i64 64)) (h0 : J [] W) :
    CallsIn Fence.wide n Tryz.prog 95 #[.func (.yield l) #[] #[], .pointer (some ⟨A, 0, none⟩), .pointer (some ⟨B, 0, none⟩)] W fun e W' => (∃ v, e = .returned v) ∧
      ((∃ ys, ys = List.finRange m ∧ J ys W') ∨ (∃ pre, (∃ k, k ≤ m ∧ pre = (List.finRange m).take k) ∧ Jx pre W')) := by
  refine callsIn_of_wp Tryz.func95 rfl trivial ?_ rfl
  simp only [Tryz.ntmps95, List.size_toArray, List.length_cons, List.length_nil, Nat.reduceAdd, Nat.reduceSub, Array.replicate_succ, Array.replicate_zero, List.push_toArray, List.append_toArray, List.nil_append, List.cons_append]
  gi_wp2
  gi_loopw [4] (fun i wr => ∃ k : Nat, k ≤ m ∧ i = .int .i64 ((64 * k : Nat) : Int) ∧ J ((List.finRange m).take k) wr ∧ Kept2 A B W wr)
    (fun i _ => 64 * m - (intOf i).toNat)
  case atStart => exact ⟨0, Nat.zero_le _, rfl, h0, Kept2.refl _ _ _⟩
  case round =>
    obtain ⟨k, hk, rfl, hJs, hkp⟩ := hrel
    have cA := (hkp.cell 0).1.trans hA
    have cB := (hkp.cell 0).2.trans hB
    by_cases hlt : k < m
    · obtain ⟨fn, tmps, assign, body, hy, hR⟩ := hY _ ⟨k, hlt⟩ wr.drew (hJ _ wr wr.drew none hJs ⟨rfl, rfl, rfl, Nat.le_refl _, fun _ _ _ => rfl⟩ (fun r e => by cases e)) (by simp; omega)
      unfold piece at hy
      dsimp only at hy
      rw [← fin_take hlt] at hR
      have hm : ¬ ((64 * m - 64 * k : Nat) : Int) < 64 := by omega
      have h1 : ((64 * k : Nat) : Int) = 64 * (k : Int) := by omega
      gi_wp2
      gi_region
      gi_wp2
      refine ⟨(fun h => by cases h), hR.mono ?_⟩
      rintro e W3 (⟨rfl, hJ3, hk3⟩ | ⟨rfl, hJx3⟩)
      · have hkp3 := kept2_t hkp hk3
        have cB3 := (hkp3.cell 0).2.trans hB
        gi_wp2
        go_roundw
        case rel => exact ⟨k + 1, by omega, by go_num, hJ3, hkp3⟩
        case measure => simp [intOf]; omega
      · gi_wp2
        refine bodyPost_ret (results_none rfl _ _ _) rfl ?_
        exact ⟨⟨_, rfl⟩, .inr ⟨_, ⟨k + 1, by omega, rfl⟩, hJx3⟩⟩
    · obtain rfl : k = m := by omega
      gi_wp2
      go_end0
      exact ⟨⟨_, rfl⟩, .inl ⟨_, rfl, by rw [fin_all] at hJs; exact hJs⟩⟩
theorem chunk_stops (n A B g m cap : Nat) (hc : 64 * m ≤ cap) (hcm : cap ≤ 9223372036854775807) (w : World) (hA : w.cell? ⟨A, 0, none⟩ = some (.slice (some ⟨g, 0, none⟩) (64 * m) cap)) (hB : w.cell? ⟨B, 0, none⟩ = some (.int .i64 64)) :
    SeqStopsK Fence.wide n Tryz.prog 95 #[.pointer (some ⟨A, 0, none⟩), .pointer (some ⟨B, 0, none⟩)] (fun x : Fin m => #[piece g x.val]) (Kept2 A B) (fun xs => xs = List.finRange m) (fun pre => ∃ k, k ≤ m ∧ pre = (List.finRange m).take k) m w :=
  fun l J Jx W hW hJ _ hY h0 => chunk1_in n l A B g m cap hc hcm J Jx hY W hJ
    ((hW.cell (p := ⟨A, 0, none⟩) (World.block_lt_of_cell? w _ hA)).trans hA) ((hW.cell (p := ⟨B, 0, none⟩) (World.block_lt_of_cell? w _ hB)).trans hB) h0
end Go.Proofs.YtclpebgjmgfigaaGreatDoor
namespace Go.Proofs.YtclpebgjmgfigaaGreatDoor
open Go.RowKit

theorem be8_eq (n : Nat) (h : n < 18446744073709551616) : be8 n = be4 (BitVec.ofNat 32 (n / 4294967296)) ++ be4 (BitVec.ofNat 32 n) := by
  have hb : ∀ a b : Nat, a % 256 = b % 256 → UInt8.ofNat a = UInt8.ofNat b := fun a b hab => by
    apply UInt8.toNat_inj.1
    simpa using hab
  simp only [be8, be4, List.map_cons, List.map_nil, List.cons_append, List.nil_append, BitVec.toNat_ofNat]
  congr 1
  · apply hb; omega
  congr 1
  · apply hb; omega
  congr 1
  · apply hb; omega
  congr 1
  · apply hb; omega
  congr 1
  · apply hb; omega
  congr 1
  · apply hb; omega
  congr 1
  · apply hb; omega
  congr 1
  apply hb; omega
theorem be4_len (x : W) : (be4 x).length = 4 := rfl
theorem bytes_at (v : Int) (x : W) (hv : v = (x.toNat : Int)) (w : World) :
    Calls Tryz.prog 59 #[.int .u32 v] w fun e w' => e = .returned (.slice (some ⟨w.heap.size, 0, none⟩) 4 4) ∧ w' = w.alloc (.cells ((be4 x).map bv).toArray 5) := by
  subst hv
  exact bytes_any x w
set_option maxHeartbeats 400000 in
theorem start_any (w : World) :
    Calls Tryz.prog 60 #[] w fun e w' => e = .returned (.agg st0.vals.toArray) ∧ Only NoneOf w w' := by
  go_enter Tryz.func60, Tryz.ntmps60
  go_wp2_with (refine wpList_store_mid rfl 110 (.tmp 0) (.tmp 1) rfl w.heap.size 0 st0.vals.toArray rfl rfl (there_new w 110 _ 8 (Nat.le_refl _)) (by kernel_rfl) (by decide +kernel) ?_)
  have hb := Blk.filled (Blk.new w 110 (List.replicate 8 (.int .u32 0)).toArray) st0.vals rfl
  refine bodyPost_ret (results_blk rfl rfl hb Tryz.underlying110 rfl (by kernel_rfl)) rfl ⟨rfl, ?_⟩
  exact only_setCells ((Only.refl NoneOf w).alloc _) w.heap.size 0 (.inr (Nat.le_refl _)) st0.vals
/-! ### The loop over the pieces -/
theorem BytesAt.part {w : World} {g : Nat} {p : List UInt8} (h : BytesAt w g 0 p) (o n : Nat) : BytesAt w g o ((p.drop o).take n) := fun j x hx => by
  have hj : j < n := by
    have := (List.getElem?_eq_some_iff.1 hx).1
    simp at this; omega
  rw [List.getElem?_take, if_pos hj, List.getElem?_drop] at hx
  have := h (o + j) x hx
  rwa [Nat.zero_add] at this
def pieceOf (p : List UInt8) (k : Nat) : List UInt8 := (p.drop (64 * k)).take 64
def foldC {m : Nat} (s : St) (p : List UInt8) (l : List (Fin m)) : St := l.foldl (fun t x => comp t (pieceOf p x.val)) s
theorem foldC_snoc {m : Nat} (s : St) (p : List UInt8) (l : List (Fin m)) (x : Fin m) : foldC s p (l ++ [x]) = comp (foldC s p l) (pieceOf p x.val) := by simp [foldC]
theorem foldC_take {m : Nat} (s : St) (p : List UInt8) (k : Nat) (h : k ≤ m) : foldC s p ((List.finRange m).take k) = comps s p k := by
  induction k with
  | zero => rfl
  | succ k ih => rw [fin_take (by omega), foldC_snoc, ih (by omega)]; rfl
theorem foldC_all {m : Nat} (s : St) (p : List UInt8) : foldC s p (List.finRange m) = comps s p m := by rw [← fin_all, foldC_take s p m (Nat.le_refl _)]
theorem keepsOthers_of_only {S : Nat → Prop} {W W' : World} (h : Only S W W') (hS : ∀ k, S k → ∃ o, W.heap[k]? = some o ∧ o.isCells = true) : KeepsOthers W W' :=
  ⟨h.size, fun k o hk ho => (h.block k (Array.getElem?_eq_some_iff.1 hk).1 (fun hs => by
    obtain ⟨o', h1, h2⟩ := hS k hs
    rw [hk] at h1; cases h1
    rw [ho] at h2; cases h2)).trans hk⟩
/-- What holds between two rounds: the state's cells are t, the bytes lie as they lay, all that lay at first too. -/
structure SumI (w0 : World) (st g : Nat) (p : List UInt8) (t : St) (W : World) : Prop where
  state : Blk W st 110 t.vals.toArray
  bytes : BytesAt W g 0 p
  lt : g < W.heap.size
  ne : g ≠ st
  rest : Only NoneOf w0 W
  st_new : w0.heap.size ≤ st
theorem sum_start {w0 w6 : World} {g : Nat} {p : List UInt8} {zs : Array Value} {ks : List Value} (hk : ks = st0.vals) (hz : zs.size = 8) (hby : BytesAt w6 g 0 p) (hlt : g < w6.heap.size) (ho : Only NoneOf w0 w6) :
    SumI w0 w6.heap.size g p st0 ((w6.alloc (.cells zs 110)).setCells w6.heap.size 0 ks) := by
  subst hk
  have h1 : Only NoneOf w6 ((w6.alloc (.cells zs 110)).setCells w6.heap.size 0 st0.vals) := only_setCells ((Only.refl NoneOf w6).alloc _) w6.heap.size 0 (.inr (Nat.le_refl _)) _
  refine ⟨?_, hby.only h1 (fun h => h), Nat.lt_of_lt_of_le hlt h1.size, by omega, ho.trans h1, ho.size⟩
  exact Blk.filled (xs := zs.toList) (by simpa using Blk.new w6 110 zs) st0.vals (by simp [hz]; rfl)
theorem SumI.grown {w0 : World} {st g : Nat} {p : List UInt8} {t : St} {X Y : World} {row : Option Nat} (h : SumI w0 st g p t X) (hp : 0 < p.length) (hg : X.grownBy Y row) (hr : ∀ r, row = some r → w0.heap.size ≤ r ∧ ∃ o : Obj, X.heap[r]? = some o ∧ o.isCells = false) : SumI w0 st g p t Y := by
  have hs : some st ≠ row := fun e => by
    obtain ⟨_, o, ho, hc⟩ := hr st e.symm
    have := h.state
    unfold Blk at this
    rw [ho] at this; cases this; cases hc
  have hgr : some g ≠ row := fun e => by
    obtain ⟨_, o, ho, hc⟩ := hr g e.symm
    have := h.bytes 0 _ (List.getElem?_eq_getElem hp)
    unfold World.cell? at this
    cases o with
    | cells cs t fr => cases hc
    | _ => simp [ho] at this
  refine ⟨h.state.grown hg hs, fun j x hx => ?_, Nat.lt_of_lt_of_le h.lt hg.size, h.ne, h.rest.grown hg (fun k hk => .inr (hr k hk).1), h.st_new⟩
  exact (World.cell?_of_block (hg.block g h.lt hgr)).trans (h.bytes j x hx)
theorem SumI.step {w0 : World} {st g : Nat} {p : List UInt8} {t t' : St} {X Y : World} (h : SumI w0 st g p t X) (hb : Blk Y st 110 t'.vals.toArray) (ho : Only (· = st) X Y) : SumI w0 st g p t' Y :=
  ⟨hb, h.bytes.only ho h.ne, Nat.lt_of_lt_of_le h.lt ho.size, h.ne, h.rest.trans' ho (fun i hi e => by have := h.st_new; omega), h.st_new⟩
theorem SumI.alloc {w0 : World} {st g : Nat} {p : List UInt8} {t : St} {X : World} (h : SumI w0 st g p t X) (o : Obj) : SumI w0 st g p t (X.alloc o) :=
  ⟨h.state.alloc o, h.bytes.only ((Only.refl NoneOf X).alloc o) (fun h => h), Nat.lt_of_lt_of_le h.lt ((Only.refl NoneOf X).alloc o).size, h.ne, h.rest.alloc o, h.st_new⟩
theorem sumI_own {w0 : World} {st g : Nat} {p : List UInt8} {m B : Nat} (hp : 0 < p.length) (hB : w0.heap.size ≤ B) : OwnFrom B (fun (pre : List (Fin m)) X => SumI w0 st g p (foldC st0 p pre) X) :=
  fun _ _ _ _ h hg hr => h.grown hp hg (fun r e => ⟨Nat.le_trans hB (hr r e).1, (hr r e).2⟩)
theorem new2_cell (W : World) (o : Obj) (t : TypeId) (cs : Array Value) (i : Nat) : ((W.alloc o).alloc (.cells cs t)).cell? ⟨W.heap.size + 1, i, none⟩ = cs[i]? := by
  have := (Blk.new (W.alloc o) t cs).cell i
  rwa [World.size_alloc] at this
theorem two_size (W : World) (o o' : Obj) : W.heap.size ≤ ((W.alloc o).alloc o').heap.size := by simp; omega
theorem Blk.put_far {w : World} {g : Nat} {t : TypeId} {cs : Array Value} (h : Blk w g t cs) {l : Nat} (hne : g ≠ l) (o : Obj) : Blk (w.putObj l o) g t cs := Eq.trans (World.putObj_heap_other (w := w) hne) h
/-- The bytes of a state. -/
def words (t : St) : List W := [t.a, t.b, t.c, t.d, t.e, t.f, t.g, t.h]
def hashL (t : St) : List UInt8 := (words t).flatMap be4
def outRow (t : St) (j : Nat) : List Value := (((words t).take j).flatMap be4).map bv ++ List.replicate (32 - 4 * j) (.int .u8 0)
theorem words_take (t : St) {j : Nat} (h : j < 8) : (words t).take (j + 1) = (words t).take j ++ [sw t j] := by
  rcases eight h with rfl | rfl | rfl | rfl | rfl | rfl | rfl | rfl <;> rfl
theorem be4_flat (L : List W) : (L.flatMap be4).length = 4 * L.length := by
  induction L with
  | nil => rfl
  | cons x l ih => rw [List.flatMap_cons, List.length_append, ih, be4_len, List.length_cons]; omega
theorem outRow_part (t : St) {j : Nat} (h : j ≤ 8) : ((((words t).take j).flatMap be4).map bv).length = 4 * j := by
  have : (words t).length = 8 := rfl
  rw [List.length_map, be4_flat, List.length_take, this]; omega
theorem outRow_len (t : St) {j : Nat} (h : j ≤ 8) : (outRow t j).length = 32 := by
  rw [outRow, List.length_append, outRow_part t h, List.length_replicate]; omega
theorem outRow_set (t : St) {j : Nat} (h : j < 8) : setMany (outRow t j) (4 * j) ((be4 (sw t j)).map bv) = outRow t (j + 1) := by
  have h1 := outRow_part t (Nat.le_of_lt h)
  have h4 : ((be4 (sw t j)).map bv).length = 4 := rfl
  rw [setMany_eq _ _ _ (by rw [outRow_len t (by omega), h4]; omega), outRow, h4, List.take_append_of_le_length (by omega), List.take_of_length_le (by omega)]
  rw [List.drop_append, List.drop_of_length_le (by omega), h1, outRow, words_take t h, List.flatMap_append, List.map_append]
  simp [List.drop_replicate]
  omega
theorem outRow_all (t : St) : outRow t 8 = (hashL t).map bv := by simp [outRow, hashL, words]
theorem shaL_eq (l : List UInt8) (m : Nat) (h : (padded l).length = 64 * m) : shaL l = hashL (comps st0 (padded l) m) := by
  have : (padded l).length / 64 = m := by omega
  simp only [shaL, this]
  simp [hashL, words]
end Go.Proofs.YtclpebgjmgfigaaGreatDoor
namespace Go.Proofs.YtclpebgjmgfigaaGreatDoor
open Go.RowKit Go.Shelf
attribute [local go_sem] Oper.semAt_some
theorem Tryz.info5 : (Tryz.prog.info? 5).map (fun i => (i.zero, i.size, i.bytes)) = some (some (.int .u8 0), 1, 1) := by kernel_rfl
def PadIs (n k : Nat) : Prop := (120 - (n : Int) % 64) % 64 = (k : Int)
theorem PadIs.v {n k : Nat} (h : PadIs n k) : Value.int .i64 ((120 - (n : Int) % 64) % 64) = .int .i64 (k : Int) := congrArg _ h
set_option maxRecDepth 100000 in
set_option maxHeartbeats 400000 in
theorem sum_any (s : ByteArray) (w : World) (hs : s.size ≤ 35184372088832) :
    Calls Tryz.prog 37 #[.string s] w fun e w' => e = .returned (.agg ((shaL s.data.toList).map bv).toArray) ∧ Only NoneOf w w' := by
  obtain ⟨i0, hi0, hz0, hz1, hz2⟩ := info_parts Tryz.info5
  obtain ⟨n1, en1⟩ : ∃ n1, n1 = s.size + 1 := ⟨_, rfl⟩
  obtain ⟨k, ek⟩ : ∃ k, k = (120 - n1 % 64) % 64 := ⟨_, rfl⟩
  obtain ⟨n2, en2⟩ : ∃ n2, n2 = n1 + k := ⟨_, rfl⟩
  obtain ⟨n3, en3⟩ : ∃ n3, n3 = n2 + 4 := ⟨_, rfl⟩
  obtain ⟨m, en4⟩ : ∃ m, 64 * m = n3 + 4 := ⟨(n3 + 4) / 64, by omega⟩
  have hsl : s.data.toList.length = s.size := by simp
  obtain ⟨L, eL⟩ : ∃ L, L = s.data.toList := ⟨_, rfl⟩
  have HI0 := Lib.hid hi0
  have HZ0 := Lib.hid hz0
  have HZ1 := Lib.hid hz1
  have HZ2 := Lib.hid hz2
  have EN1 := Lib.hid en1
  have EK := Lib.hid ek
  have EN2 := Lib.hid en2
  have EN3 := Lib.hid en3
  have EN4 := Lib.hid en4
  have HSL := Lib.hid hsl
  have EL := Lib.hid eL
  have b1 : n1 ≤ 35184372088833 := by omega
  have b2 : n2 ≤ 35184372088897 := by omega
  have b3 : n3 ≤ 35184372088901 := by omega
  have bk : k < 64 := by omega
  have hpad : PadIs n1 k := by unfold PadIs; omega
  clear hi0 hz0 hz1 hz2 en1 ek en2 en3 en4 hsl eL
  refine callsIn_wide.1 (callsIn_of_wp_marks (n := 9) Tryz.func37 rfl trivial ?_ rfl)
  simp only [Tryz.ntmps37, List.size_toArray, List.length_cons, List.length_nil, Nat.reduceAdd, Nat.reduceSub, Array.replicate_succ, Array.replicate_zero, List.push_toArray, List.append_toArray, List.nil_append, List.cons_append]
  refine wpIn_wide.2 ?_
  go_wp2_with (first
    | (refine wpList_convert_string rfl 9 39 5 (.tmp 10) rfl s rfl Tryz.underlying9 Tryz.underlying39 Tryz.underlying5 (by unfold maxLen; omega) _ (w.heap.size + 1) (World.size_alloc _ _) (Only.refl NoneOf _) ?_; intro g1 c1 w1 hb1 ho1 hg1a hg1b hc1 hc1m)
    | (refine wpList_append_buf rfl (.tmp 11) (.tmp 12) 39 39 rfl 5 i0 Tryz.underlying39 HI0.out HZ0.out HZ1.out HZ2.out g1 s.size c1 s.data.toList rfl (hb1.out.alloc _) _ (w.heap.size + 1) (World.size_alloc _ _) (ho1.out.alloc _) hg1a _ rfl [0x80] (src_bytes Tryz.underlying39 (BytesAt.new _ _ _) rfl) (by have := HSL.out; simp; omega) (s.data.toList ++ [0x80]) n1 rfl (by have := HSL.out; have := EN1.out; simp; omega) ?_; intro g2 c2 w2 hb2 ho2 hg2a hg2b hc2 hc2m)
    | (refine wpList_append_zeros rfl (.tmp 14) (.tmp 19) 39 3 rfl 5 i0 .i64 .i64 Tryz.underlying39 Tryz.underlying3 HI0.out HZ0.out HZ1.out HZ2.out g2 n1 c2 _ rfl hb2.out _ (w.heap.size + 1) (World.size_alloc _ _) ho2.out hg2a k hpad.v (by have := HSL.out; have := EN1.out; simp; omega) (s.data.toList ++ [0x80] ++ List.replicate k 0) n2 rfl (by have := HSL.out; have := EN1.out; have := EN2.out; simp; omega) ?_; intro g3 c3 w3 hb3 ho3 hg3a hg3b hc3 hc3m))
  obtain ⟨xh, exh⟩ : ∃ xh : W, xh = BitVec.ofNat 32 (8 * s.size / 4294967296) := ⟨_, rfl⟩
  obtain ⟨xl, exl⟩ : ∃ xl : W, xl = BitVec.ofNat 32 (8 * s.size) := ⟨_, rfl⟩
  have EXH := Lib.hid exh
  have EXL := Lib.hid exl
  clear exh exl
  refine (bytes_at _ xh ?hv1 _).mono ?_
  case hv1 => rw [EXH.out, BitVec.toNat_ofNat]; omega
  rintro e w4 ⟨rfl, rfl⟩
  go_wp2_with (refine wpList_append_buf rfl (.tmp 25) (.tmp 29) 39 39 rfl 5 i0 Tryz.underlying39 HI0.out HZ0.out HZ1.out HZ2.out g3 n2 c3 _ rfl (hb3.out.alloc _) _ (w.heap.size + 1) (World.size_alloc _ _) (ho3.out.alloc _) hg3a _ rfl (be4 xh) (src_bytes Tryz.underlying39 (BytesAt.new _ _ _) rfl) (by have := HSL.out; have := EN1.out; have := EN2.out; simp [be4_len]; omega) (s.data.toList ++ [0x80] ++ List.replicate k 0 ++ be4 xh) n3 rfl (by have := HSL.out; have := EN1.out; have := EN2.out; have := EN3.out; simp [be4_len]; omega) ?_; intro g4 c4 w4 hb4 ho4 hg4a hg4b hc4 hc4m)
  refine (bytes_at _ xl ?hv2 _).mono ?_
  case hv2 => rw [EXL.out, BitVec.toNat_ofNat]; omega
  rintro e w5 ⟨rfl, rfl⟩
  go_wp2_with (refine wpList_append_buf rfl (.tmp 30) (.tmp 33) 39 39 rfl 5 i0 Tryz.underlying39 HI0.out HZ0.out HZ1.out HZ2.out g4 n3 c4 _ rfl (hb4.out.alloc _) _ (w.heap.size + 1) (World.size_alloc _ _) (ho4.out.alloc _) hg4a _ rfl (be4 xl) (src_bytes Tryz.underlying39 (BytesAt.new _ _ _) rfl) (by have := HSL.out; have := EN1.out; have := EN2.out; have := EN3.out; simp [be4_len]; omega) (s.data.toList ++ [0x80] ++ List.replicate k 0 ++ be4 xh ++ be4 xl) (64 * m) rfl (by have := HSL.out; have := EN1.out; have := EN2.out; have := EN3.out; have := EN4.out; simp [be4_len]; omega) ?_; intro g5 c5 w5 hb5 ho5 hg5a hg5b hc5 hc5m)
  refine (start_any _).mono ?_
  rintro e w6 ⟨rfl, ho6⟩
  have HO6 := Lib.hid ho6
  clear ho6
  have tok1 : True := trivial
  go_wp2_with (have _t := tok1; refine wpList_store_mid rfl 110 (.tmp 5) (.tmp 35) rfl w6.heap.size 0 st0.vals.toArray rfl rfl (there_new w6 110 _ 8 (Nat.le_refl _)) (by kernel_rfl) (by decide +kernel) ?_; clear tok1 _t)
  obtain ⟨p, ep⟩ : ∃ p, p = s.data.toList ++ [0x80] ++ List.replicate k 0 ++ be4 xh ++ be4 xl := ⟨_, rfl⟩
  have hpl : p.length = 64 * m := by have := HSL.out; have := EN1.out; have := EN2.out; have := EN3.out; have := EN4.out; rw [ep]; simp [be4_len]; omega
  have hpp : p = padded s.data.toList := by
    have e8 := be8_eq (8 * s.size) (by omega)
    rw [ep, padded, HSL.out, e8, ← EXH.out, ← EXL.out, padN, show (120 - (s.size + 1) % 64) % 64 = k from by have := EK.out; have := EN1.out; omega]
    simp
  have hby5 := hb5.out.bytes
  rw [← ep] at hby5
  have HBY := Lib.hid hby5
  have HPL := Lib.hid hpl
  have HPP := Lib.hid hpp
  clear hby5 hpl hpp ep
  refine calls_gen (SumI (w.alloc (.cells (Array.replicate 32 (.int .u8 0)) 25)) w6.heap.size g5 p st0) ?_ ?_
  · exact sum_start (by simp) rfl (HBY.out.only HO6.out (fun h => h)) (Nat.lt_of_lt_of_le hg5b HO6.out.size) (ho5.out.trans HO6.out)
  intro W hW
  refine (chunk_any _ _ _ _).mono ?_
  rintro e w7 ⟨rfl, rfl⟩
  go_wp2_with fail
  refine (wpIn_wide (n := 9)).1 (wpIn_rangeFunc_ownF rfl (show 1 ≤ 9 by omega) (gf := 95) (lb := #[.pointer (some ⟨W.heap.size, 0, none⟩), .pointer (some ⟨W.heap.size + 1, 0, none⟩)]) rfl trivial (enters_of Tryz.func95 (by kernel_rfl) rfl)
    (chunk_stops 8 W.heap.size (W.heap.size + 1) g5 m c5 hc5 (by unfold maxLen at hc5m; omega) _ ?cA ?cB) kept2_t (kept2_b ?hA ?hB) (Below.refl _ _) ?sz
    (fun pre X => SumI (w.alloc (.cells (Array.replicate 32 (.int .u8 0)) 25)) w6.heap.size g5 p (foldC st0 p pre) X ∧ W.heap.size + 2 ≤ X.heap.size) (fun _ _ _ => False)
    ?own (fun _ _ _ _ _ h _ _ => h) ?start ?a1 ?assign ?body ?done ?stop)
  case hA => simp; omega
  case hB => simp
  case sz => exact fun _ => rfl
  case cA => exact ((Blk.new W _ _).alloc _).cell 0
  case cB => exact new2_cell W _ _ _ 0
  case own => exact OwnFrom.and (sumI_own (by have := HPL.out; have := EN4.out; omega) (Nat.le_trans hW.rest.size (two_size W _ _))) (fun _ _ _ _ h hg _ => Nat.le_trans h hg.size)
  case start => exact ⟨(hW.alloc _).alloc _, by simp⟩
  case assign =>
    intro l x X K hK
    gi_wp2
    exact hK
  case body =>
    rintro l pre x X ⟨hI, hbig⟩ hlen
    have HI := Lib.hid hI
    have hbl : (pieceOf p x.val).length = 64 := by have := HPL.out; have := x.2; simp [pieceOf]; omega
    have hadd := add_any (n := 64) (c := 64) hI.state (hI.bytes.part (64 * x.val) 64) hbl (by omega) (by omega) (by omega) hI.lt
    have HADD := Lib.hid hadd
    clear hI hadd hbl
    unfold piece
    gi_wp2
    refine ⟨trivial, (CallsIn.inRound l (callsIn_wide.2 HADD.out)).mono ?_⟩
    rintro e X2 ⟨⟨v, rfl⟩, hb2, ho2⟩
    gi_wp2
    refine ⟨keepsOthers_of_only ho2 (fun k hk => by subst hk; exact ⟨_, HI.out.state, rfl⟩), ⟨ho2.block _ ?_ ?_, ho2.block _ ?_ ?_⟩, ?_⟩
    · omega
    · have := hW.state.lt; omega
    · omega
    · have := hW.state.lt; omega
    · refine ⟨?_, Nat.le_trans hbig ho2.size⟩
      rw [foldC_snoc]
      exact HI.out.step hb2 ho2
  case done =>
    rintro D xs W8 hD rfl ⟨hI, hbig⟩ hK
    rw [foldC_all] at hI
    obtain ⟨t, et⟩ : ∃ t, t = comps st0 p m := ⟨_, rfl⟩
    rw [← et] at hI
    have ET := Lib.hid et
    have hld := (hI.state.alloc (.cells (Array.replicate 32 (.int .u8 0)) 25))
    have HLD := Lib.hid hld
    have HI8 := Lib.hid hI
    have HK := Lib.hid hK
    have hs5 : ∀ w, (Go.sizeOf 109).run Tryz.prog w = .ok 1 w := fun _ => by kernel_rfl
    have ha5 : ∀ w, (isAgg 109).run Tryz.prog w = .ok false w := fun _ => by kernel_rfl
    have HS5 := Lib.hid hs5
    have HA5 := Lib.hid ha5
    clear et hld hI hK hs5 ha5
    go_wp2_with (refine wpList_load_row rfl 110 (.tmp 5) rfl w6.heap.size rfl 110 t.vals.toArray (0, 0) _ HLD.out Tryz.underlying110 rfl (by kernel_rfl) ?_)
    go_loopw [42] (fun v wr => ∃ j : Nat, v = .int .i64 j ∧ j ≤ 8 ∧ Blk wr W8.heap.size 25 (outRow t j).toArray ∧ Only NoneOf W8 wr) (fun v _ => 8 - (intOf v).toNat)
    case atStart => exact ⟨0, rfl, by omega, Blk.new W8 _ _, (Only.refl NoneOf W8).alloc _⟩
    case round =>
      obtain ⟨j, rfl, hj, hbo, ho⟩ := hrel
      by_cases h8 : j < 8
      · have hix := run_index_arr (P := Tryz.prog) (cs := t.vals.toArray) Tryz.underlying110 HS5.out HA5.out h8 (vals_get t h8)
        obtain ⟨x, ex⟩ : ∃ x, x = sw t j := ⟨_, rfl⟩
        rw [← ex] at hix
        unfold wv at hix
        have EX := Lib.hid ex
        have HBO := Lib.hid hbo
        have HO := Lib.hid ho
        clear ex hbo ho
        have hmin : ((be4 x).map bv).length = Nat.min 4 (32 - 4 * j) := by rw [List.length_map, be4_len]; exact (Nat.min_eq_left (by omega)).symm
        have HMIN := Lib.hid hmin
        have hfit : 4 * j + ((be4 x).map bv).length ≤ (outRow t j).toArray.size := by rw [List.length_map, be4_len, List.size_toArray, outRow_len t hj]; omega
        have HFIT := Lib.hid hfit
        clear hmin hfit
        go_wp2_with fail
        have w4j : IntKind.i64.wrap (4 * (j : Int)) = 4 * (j : Int) := IntWalk.i64_in _ (by omega)
        have p4j : 0 ≤ 4 * (j : Int) := by omega
        have q4j : 4 * (j : Int) ≤ 32 := by omega
        have n4j : (4 * (j : Int)).toNat = 4 * j := by omega
        have n32 : ¬ 32 = 4 * j := by omega
        refine wp_region_noPanic ?_
        go_region_law (first
          | (refine step_copy_bytes rfl (.tmp 48) (.tmp 50) 39 39 rfl 5 Tryz.underlying39 (by kernel_rfl) W8.heap.size (4 * j) (32 - 4 * j) (32 - 4 * j) ⟨wr.heap.size, 0, none⟩ 4 4 (by simp [Act.eval]) (by simp [Act.eval]) ((be4 x).map bv) HMIN.out (bytes_src (BytesAt.new _ _ _)) ((HBO.out.alloc _).there _ _ HFIT.out) (bvs_one _) ?_)
          | (go_simp; go_at_call 59; refine (bytes_any x _).mono ?_; rintro e w9 ⟨rfl, rfl⟩))
        refine NoPanic.normal ?_
        go_wp2_with fail
        go_roundw
        case rel =>
          refine ⟨j + 1, by go_num, by omega, ?_, ?_⟩
          · have := (HBO.out.alloc (.cells ((be4 x).map bv).toArray 5)).setCells ((be4 x).map bv) (4 * j)
            rw [EX.out, outRow_set t h8, ← EX.out] at this
            exact this
          · exact only_setCells (HO.out.drew.alloc _) _ _ (.inr (Nat.le_refl _)) _
        case measure => simp [intOf]; omega
      · obtain rfl : j = 8 := by omega
        have hres : Blk wr w.heap.size 25 (List.replicate 32 (Value.int .u8 0)).toArray := ((Blk.new w 25 (List.replicate 32 (Value.int .u8 0)).toArray).only HI8.out.rest (fun h => h)).only ho (fun h => h)
        have hKr : wr.heap[D]? = some (.deferred (some [])) := (ho.block D (Array.getElem?_eq_some_iff.1 HK.out).1 (fun h => h)).trans HK.out
        have HRES := Lib.hid hres
        have HBO := Lib.hid hbo
        have HO := Lib.hid ho
        have HKR := Lib.hid hKr
        have hz8 : (outRow t 8).toArray.size = 32 := outRow_len t (by omega)
        have hi41 : (Tryz.prog.info? 25).map (·.size) = some (outRow t 8).toArray.size := by rw [hz8]; kernel_rfl
        have hone : (outRow t 8).toArray.all (·.oneCell') = true := by rw [outRow_all]; exact all_oneCell_toArray (bvs_one _)
        have HI41 := Lib.hid hi41
        have HONE := Lib.hid hone
        have HZ8 := Lib.hid hz8
        clear hres hbo ho hKr hz8 hi41 hone
        have tok2 : True := trivial
        have tok3 : True := trivial
        go_wp2_with (first
          | (have _t := tok2; refine wpList_load_row rfl 25 (.tmp 7) rfl W8.heap.size rfl 25 (outRow t 8).toArray (0, 0) _ HBO.out Tryz.underlying25 rfl HI41.out ?_; clear tok2 _t)
          | (have _t := tok3; refine wpList_store_mid rfl 25 (.tmp 2) (.tmp 53) rfl w.heap.size 0 (outRow t 8).toArray rfl rfl (HRES.out.there 0 _ (by rw [HZ8.out]; exact Nat.le_refl _)) HI41.out HONE.out ?_; clear tok3 _t))
        have hDn : w.heap.size < D := by
          have h1 := hW.rest.size
          have h2 := two_size W (.cells #[.slice (some ⟨g5, 0, none⟩) (64 * m) c5] 39) (.cells #[.int .i64 64] 3)
          rw [World.size_alloc] at h1
          omega
        have hKs := ((only_setCells (Only.refl (fun k => k = w.heap.size) wr) w.heap.size 0 (.inl rfl) (outRow t 8).toArray.toList).block D (Array.getElem?_eq_some_iff.1 HKR.out).1 (by omega)).trans HKR.out
        have hbf := HRES.out.filled (outRow t 8).toArray.toList (by rw [Array.length_toList, HZ8.out]; rfl)
        have hof := only_setCells (((Only.refl NoneOf w).alloc (.cells (Array.replicate 32 (.int .u8 0)) 25)).trans (HI8.out.rest.trans HO.out)) w.heap.size 0 (.inr (Nat.le_refl _)) (outRow t 8).toArray.toList
        have hsha : shaL s.data.toList = hashL t := by rw [ET.out, HPP.out]; exact shaL_eq _ m (by rw [← HPP.out]; exact HPL.out)
        refine ⟨by simp, .inl ⟨_, _, rfl, run_takeDeferred hKs, ?_⟩⟩
        refine ⟨_, results_blk rfl rfl (Blk.put_far hbf (by omega) _) Tryz.underlying25 rfl (by simpa using HI41.out), ?_, ?_⟩
        · rw [hsha, ← outRow_all]
        · exact hof.grown (grownBy_putObj' _ D _) (fun k e => by cases e; exact .inr (by omega))
  case stop => exact fun _ _ _ _ _ _ h => h.elim
end Go.Proofs.YtclpebgjmgfigaaGreatDoor
