/- What is proved here: a block is added to the state of the program's SHA-256. Conditions: the block's 64 bytes can be read, and the state's cells. -/
import Derived.Test.YtmgbcjjemlcfgaaGreatDoorShaC
namespace Go.Proofs.YtmgbcjjemlcfgaaGreatDoor
open Go.RowKit

def AddAt (G B : Nat) (s : St) (b : List UInt8) (w wr : World) : Prop :=
  Blk wr G 69 s.vals.toArray ∧ Blk wr B 87 (wrow b 64) ∧ Blk wr (B + 1) 87 (shaK.map wv).toArray ∧ Only NoneOf w wr
theorem krow_get {i : Nat} (h : i < 64) : (shaK.map wv).toArray[i]? = some (wv (shaK.getD i 0)) := by
  have hk : i < shaK.length := h
  rw [List.getElem?_toArray, List.getElem?_map, List.getD_eq_getElem?_getD, List.getElem?_eq_getElem hk]
  rfl
theorem w_not' (x : W) : bits .xor .u32 IntKind.u32.max (x.toNat : Int) = ((~~~x).toNat : Int) := w_not x
/-- The state when i words of t have been added. -/
def part (s t : St) (i : Nat) : List Value := (s.add t).vals.take i ++ s.vals.drop i
def AddTo (G : Nat) (s t : St) (i : Nat) (w wr : World) : Prop := Blk wr G 69 (part s t i).toArray ∧ Only (· = G) w wr
def sw (s : St) (i : Nat) : W := [s.a, s.b, s.c, s.d, s.e, s.f, s.g, s.h].getD i 0
theorem eight {i : Nat} (h : i < 8) : i = 0 ∨ i = 1 ∨ i = 2 ∨ i = 3 ∨ i = 4 ∨ i = 5 ∨ i = 6 ∨ i = 7 := by omega
theorem vals_get (s : St) {i : Nat} (h : i < 8) : s.vals.toArray[i]? = some (wv (sw s i)) := by
  rcases eight h with rfl | rfl | rfl | rfl | rfl | rfl | rfl | rfl <;> rfl
theorem part_get (s t : St) {i : Nat} (h : i < 8) : (part s t i).toArray[i]? = some (wv (sw s i)) := by
  rcases eight h with rfl | rfl | rfl | rfl | rfl | rfl | rfl | rfl <;> rfl
theorem part_set (s t : St) {i : Nat} (h : i < 8) : (part s t i).toArray.setIfInBounds i (wv (sw s i + sw t i)) = (part s t (i + 1)).toArray := by
  rcases eight h with rfl | rfl | rfl | rfl | rfl | rfl | rfl | rfl <;> rfl
theorem AddAt.drewN {G B : Nat} {s : St} {b : List UInt8} {w wr : World} (h : AddAt G B s b w wr) (n : Nat) : AddAt G B s b w (wr.drewN n) := ⟨h.1, h.2.1, h.2.2.1, h.2.2.2.drewN n⟩
theorem add_start {G : Nat} {s : St} {b : List UInt8} {w w2 : World} {zs : Array Value} (hz : zs.size = 64) (hs : Blk w G 69 s.vals.toArray) (ho : Only NoneOf w w2) (ks : List Value) (hk : ks = shaK.map wv) :
    AddAt G w2.heap.size s b w ((((w2.alloc (.cells zs 87)).alloc (.cells zs 87)).setCells w2.heap.size 0 (wrow b 64).toList).setCells (w2.heap.size + 1) 0 ks) := by
  subst hk
  have hg : G < w2.heap.size := Nat.lt_of_lt_of_le hs.lt ho.size
  have h0 := (Blk.new w2 87 zs).alloc (.cells zs 87)
  have h1 := Blk.new (w2.alloc (.cells zs 87)) 87 zs
  rw [World.size_alloc] at h1
  have hl : (wrow b 64).toList.length = zs.toList.length := by simpa [hz] using wrow_size b (Nat.le_refl 64)
  have hl2 : (shaK.map wv).length = zs.toList.length := by simp [hz]; decide +kernel
  refine ⟨?_, ?_, ?_, ?_⟩
  · exact (((((hs.only ho (fun h => h)).alloc _).alloc _).farCells (by omega) _ 0).farCells (by omega) _ 0)
  · have := (Blk.filled (xs := zs.toList) (by simpa using h0) _ hl).farCells (b := w2.heap.size + 1) (by omega) (shaK.map wv) 0
    simpa using this
  · exact Blk.filled (xs := zs.toList) (by simpa using h1.farCells (b := w2.heap.size) (by omega) (wrow b 64).toList 0) _ hl2
  · exact only_setCells (only_setCells ((ho.alloc _).alloc _) _ _ (.inr ho.size) _) _ _ (.inr (by have := ho.size; omega)) _
set_option maxRecDepth 100000 in
set_option maxHeartbeats 400000 in
theorem add_any {g o n c G : Nat} {b : List UInt8} {s : St} {w : World} (hs : Blk w G 69 s.vals.toArray) (hb : BytesAt w g o b) (hl : b.length = 64) (hn : 64 ≤ n) (hc : n ≤ c) (hcm : c ≤ 4611686018427387904) (hg : g < w.heap.size) :
    Calls Tryz.prog 72 #[.pointer (some ⟨G, 0, none⟩), .slice (some ⟨g, o, none⟩) n c] w fun e w' => (∃ v, e = .returned v) ∧ Blk w' G 69 (comp s b).vals.toArray ∧ Only (· = G) w w' := by
  have HSC := Lib.hid (schedule_any hb hl hn hc hcm hg)
  have HS := Lib.hid hs
  clear hs hb hl
  go_enter Tryz.func72, Tryz.ntmps72
  go_wp2_with fail
  refine HSC.out.mono ?_
  rintro e w1 ⟨rfl, ho1⟩
  have HO1 := Lib.hid ho1
  clear ho1
  go_wp2_with fail
  refine (drounds_any w1).mono ?_
  rintro e w2 ⟨rfl, ho2⟩
  have HO2 := Lib.hid (HO1.out.trans ho2)
  clear ho2 HO1
  have hk : (shaK.map wv).length = 64 := by decide +kernel
  have hzw : (wrow b 64).size = 64 := wrow_size b (Nat.le_refl _)
  have hzk : (shaK.map wv).toArray.size = 64 := hk
  have hiw : (Tryz.prog.info? 87).map (·.size) = some (wrow b 64).size := by rw [hzw]; kernel_rfl
  have hik : (Tryz.prog.info? 87).map (·.size) = some (shaK.map wv).toArray.size := by rw [hzk]; kernel_rfl
  have hnw : (wrow b 64).all (·.oneCell') = true := by rw [wrow_full]; exact all_oneCell_toArray (fun v hv => by obtain ⟨x, _, rfl⟩ := List.mem_map.1 hv; rfl)
  have hnk : (shaK.map wv).toArray.all (·.oneCell') = true := all_oneCell_toArray (fun v hv => by obtain ⟨x, _, rfl⟩ := List.mem_map.1 hv; rfl)
  have HK := Lib.hid hk
  have HZW := Lib.hid hzw
  have HIW := Lib.hid hiw
  have HIK := Lib.hid hik
  have HNW := Lib.hid hnw
  have HNK := Lib.hid hnk
  clear hk hzw hzk hiw hik hnw hnk
  rw [← wrow_full]
  have tok1 : True := trivial
  go_wp2_with (first
    | (have _t := tok1; refine wpList_store_mid rfl 87 (.tmp 4) (.tmp 20) rfl w2.heap.size 0 (wrow b 64) rfl rfl (there_old _ _ _ _ _ (by rw [HZW.out]; exact Nat.le_refl _)) HIW.out HNW.out ?_; clear tok1 _t)
    | (refine wpList_store_mid rfl 87 (.tmp 5) (.tmp 21) rfl (w2.heap.size + 1) 0 (shaK.map wv).toArray rfl rfl (there_old2 _ _ _ _ _ _ _ _ rfl (by simp [HK.out])) HIK.out HNK.out ?_))
  refine wp_gen (AddAt G w2.heap.size s b w) (add_start rfl HS.out HO2.out _ (by simp)) ?_
  obtain ⟨B, hB⟩ : ∃ B, B = w2.heap.size := ⟨_, rfl⟩
  rw [← hB]
  intro W3 h3
  clear HIW HIK HNW HNK HZW HK HO2 HS HSC hB
  have e0 : W3.cell? ⟨G, 0, none⟩ = some (.int .u32 (s.a.toNat : Int)) := (h3.1.cell 0).trans rfl
  have e1 : W3.cell? ⟨G, 1, none⟩ = some (.int .u32 (s.b.toNat : Int)) := (h3.1.cell 1).trans rfl
  have e2 : W3.cell? ⟨G, 2, none⟩ = some (.int .u32 (s.c.toNat : Int)) := (h3.1.cell 2).trans rfl
  have e3 : W3.cell? ⟨G, 3, none⟩ = some (.int .u32 (s.d.toNat : Int)) := (h3.1.cell 3).trans rfl
  have e4 : W3.cell? ⟨G, 4, none⟩ = some (.int .u32 (s.e.toNat : Int)) := (h3.1.cell 4).trans rfl
  have e5 : W3.cell? ⟨G, 5, none⟩ = some (.int .u32 (s.f.toNat : Int)) := (h3.1.cell 5).trans rfl
  have e6 : W3.cell? ⟨G, 6, none⟩ = some (.int .u32 (s.g.toNat : Int)) := (h3.1.cell 6).trans rfl
  have e7 : W3.cell? ⟨G, 7, none⟩ = some (.int .u32 (s.h.toNat : Int)) := (h3.1.cell 7).trans rfl
  have H3 := Lib.hid h3
  clear h3
  go_quiet (fail)
  clear e0 e1 e2 e3 e4 e5 e6 e7
  go_wp2_with fail
  go_loopw [6, 7, 8, 9, 10, 11, 12, 13, 54] (fun v6 v7 v8 v9 v10 v11 v12 v13 v54 wr => ∃ (i : Nat) (t : St), t = rnds s (sched b 64) i ∧ v6 = .int .u32 (t.a.toNat : Int) ∧ v7 = .int .u32 (t.b.toNat : Int) ∧ v8 = .int .u32 (t.c.toNat : Int) ∧ v9 = .int .u32 (t.d.toNat : Int) ∧ v10 = .int .u32 (t.e.toNat : Int) ∧ v11 = .int .u32 (t.f.toNat : Int) ∧ v12 = .int .u32 (t.g.toNat : Int) ∧ v13 = .int .u32 (t.h.toNat : Int) ∧ v54 = .int .i64 i ∧ i ≤ 64 ∧ AddAt G B s b w wr) (fun _ _ _ _ _ _ _ _ v _ => 64 - (intOf v).toNat)
  case atStart => exact ⟨0, s, rfl, rfl, rfl, rfl, rfl, rfl, rfl, rfl, rfl, rfl, by omega, H3.out.drewN _⟩
  case round =>
    clear H3
    obtain ⟨i, t, ht, rfl, rfl, rfl, rfl, rfl, rfl, rfl, rfl, rfl, hi, h4⟩ := hrel
    by_cases h64 : i < 64
    · obtain ⟨kk, ek⟩ : ∃ kk, kk = shaK.getD i 0 := ⟨_, rfl⟩
      obtain ⟨ww, ew⟩ : ∃ ww, ww = (sched b 64).getD i 0 := ⟨_, rfl⟩
      have ht' : rnd t kk ww = rnds s (sched b 64) (i + 1) := by rw [ht, ek, ew]; rfl
      have cw : wr.cell? ⟨B, i, none⟩ = some (.int .u32 (ww.toNat : Int)) := by rw [ew]; exact (h4.2.1.cell _).trans (wrow_get h64)
      have ck : wr.cell? ⟨B + 1, i, none⟩ = some (.int .u32 (kk.toNat : Int)) := by rw [ek]; exact (h4.2.2.1.cell _).trans (krow_get h64)
      have HT := Lib.hid ht'
      have H4 := Lib.hid h4
      clear ht ek ew ht' h4
      have m1 : ∀ w, Calls Tryz.prog 89 #[.int .u32 (t.e.toNat : Int), .int .i64 6, .int .i64 11, .int .i64 25] w fun e w' => e = .returned (.int .u32 ((smix t.e 6 11 25).toNat : Int)) ∧ w' = w := fun w => mixed_any t.e 6 11 25 (by omega) (by omega) (by omega) w
      have m2 : ∀ w, Calls Tryz.prog 89 #[.int .u32 (t.a.toNat : Int), .int .i64 2, .int .i64 13, .int .i64 22] w fun e w' => e = .returned (.int .u32 ((smix t.a 2 13 22).toNat : Int)) ∧ w' = w := fun w => mixed_any t.a 2 13 22 (by omega) (by omega) (by omega) w
      have M1 := Lib.hid m1
      have M2 := Lib.hid m2
      clear m1 m2
      go_wp2_with fail
      go_quiet ((go_at_call 89; exact Calls.quiet_of_same (M1.out _)))
      go_wp2_with fail
      refine (M2.out _).mono ?_
      rintro e w5 ⟨rfl, rfl⟩
      go_wp2_with fail
      go_roundw
      case rel =>
        have e5 : ∀ x0 x1 x2 x3 x4 : W, ((x0.toNat : Int) + (x1.toNat : Int) + (x2.toNat : Int) + (x3.toNat : Int) + (x4.toNat : Int)) % 4294967296 = ((x0 + x1 + x2 + x3 + x4).toNat : Int) := fun x0 x1 x2 x3 x4 => by
          rw [BitVec.toNat_add, BitVec.toNat_add, BitVec.toNat_add, BitVec.toNat_add]; omega
        have e2 : ∀ x0 x1 : W, ((x0.toNat : Int) + (x1.toNat : Int)) % 4294967296 = ((x0 + x1).toNat : Int) := w_add
        refine ⟨i + 1, rnd t kk ww, HT.out, ?_, rfl, rfl, rfl, ?_, rfl, rfl, rfl, by go_num, by omega, H4.out.drewN _⟩
        · rw [w_not', w_and, w_and, w_xor, w_and, w_and, w_and, w_xor, w_xor, e5, e2, e2]
          rfl
        · rw [w_not', w_and, w_and, w_xor, e5, e2]
          rfl
      case measure => simp [intOf]; omega
    · obtain rfl : i = 64 := by omega
      have hcomp : comp s b = s.add t := by rw [ht]; rfl
      have hs5 : ∀ w, (Go.sizeOf 68).run Tryz.prog w = .ok 1 w := fun _ => by kernel_rfl
      have ha5 : ∀ w, (isAgg 68).run Tryz.prog w = .ok false w := fun _ => by kernel_rfl
      have HC := Lib.hid hcomp
      have HS5 := Lib.hid hs5
      have HA5 := Lib.hid ha5
      have H4 := Lib.hid h4
      clear hcomp hs5 ha5 ht h4
      go_wp2_with fail
      go_loopw [114] (fun v wq => ∃ j : Nat, v = .int .i64 j ∧ j ≤ 8 ∧ AddTo G s t j w wq) (fun v _ => 8 - (intOf v).toNat)
      case atStart => exact ⟨0, rfl, by omega, H4.out.1, H4.out.2.2.2.mono (fun _ _ h => h.elim)⟩
      case round =>
        clear H4
        obtain ⟨j, rfl, hj, h5⟩ := hrel
        by_cases h8 : j < 8
        · have hix := run_index_arr (P := Tryz.prog) (cs := #[.int .u32 (t.a.toNat : Int), .int .u32 (t.b.toNat : Int), .int .u32 (t.c.toNat : Int), .int .u32 (t.d.toNat : Int), .int .u32 (t.e.toNat : Int), .int .u32 (t.f.toNat : Int), .int .u32 (t.g.toNat : Int), .int .u32 (t.h.toNat : Int)]) Tryz.underlying69 HS5.out HA5.out h8 (vals_get t h8)
          obtain ⟨x, ex⟩ : ∃ x, x = sw t j := ⟨_, rfl⟩
          obtain ⟨y, ey⟩ : ∃ y, y = sw s j := ⟨_, rfl⟩
          have cz := (h5.1.cell j).trans (part_get s t h8)
          have fz := h5.1.frozen j
          rw [← ex] at hix
          rw [← ey] at cz
          unfold wv at hix cz
          have hset := part_set s t h8
          rw [← ex, ← ey] at hset
          have HSET := Lib.hid hset
          have H5 := Lib.hid h5
          clear hset h5 ex ey
          go_wp2_with fail
          go_region
          go_wp2_with fail
          go_roundw
          case rel =>
            refine ⟨j + 1, by go_num, by omega, ?_, ?_⟩
            · have := (H5.out.1.drew).set_ j (wv (y + x))
              rw [HSET.out] at this
              rw [w_add]
              exact this
            · exact (H5.out.2.drew).setCell (.inl rfl) _
          case measure => simp [intOf]; omega
        · obtain rfl : j = 8 := by omega
          go_wp2_with fail
          go_end0
          exact ⟨⟨_, rfl⟩, by rw [HC.out]; exact h5.1, h5.2⟩
end Go.Proofs.YtmgbcjjemlcfgaaGreatDoor
