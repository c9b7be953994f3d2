/- What is proved here: a hash read off a text, by the program: conditions on memory, and what is answered. Conditions: the text is short. -/
import Derived.Test.YtclpebgjmgfigaaGreatDoorEcM
import Derived.Test.YtclpebgjmgfigaaGreatDoorShelf
namespace Go.Proofs.YtclpebgjmgfigaaGreatDoor
open Go.RowKit Go.Shelf
theorem idx_nib : ∀ n : Fin 256, Lib.indexByte hexQ.data.toList (UInt8.ofNat n.val) = nib (UInt8.ofNat n.val) := by decide +kernel
theorem idx_hex (c : UInt8) : Lib.indexByte hexQ.data.toList ((c.toNat : Int).toNat.toUInt8) = nib c := by
  have h := idx_nib ⟨c.toNat, c.toNat_lt⟩
  have e : UInt8.ofNat c.toNat = c := UInt8.ofNat_toNat
  rw [show ((c.toNat : Int).toNat.toUInt8) = UInt8.ofNat c.toNat from rfl, e]
  simpa [e] using h
theorem or_nib : ∀ a : Fin 256, ∀ n : Fin 16, bits .or .u8 ((a.val : Int) * 16 % 256) (n.val : Int) = ((shN (UInt8.ofNat a.val) n.val).toNat : Int) := by decide +kernel
theorem or_hex (x : UInt8) {n : Nat} (h : n < 16) : bits .or .u8 ((x.toNat : Int) * 16 % 256) (n : Int) = ((shN x n).toNat : Int) := by
  have h1 := or_nib ⟨x.toNat, x.toNat_lt⟩ ⟨n, h⟩
  have e : UInt8.ofNat x.toNat = x := UInt8.ofNat_toNat
  simpa [e] using h1
attribute [local go_sem ↓ high] hxLoad_eq hxStore_eq hxZero_eq
set_option maxRecDepth 100000 in
set_option maxHeartbeats 2000000 in
theorem dread_any (s : ByteArray) (_hs : s.size ≤ 100000000) (w : World) : Calls Tryz.prog 70 #[.string s] w (HexE s w) := by
  have hY : RdS w w.heap.size (w.heap.size + 1) zero32 ((w.alloc (.cells (zero32.map bv).toArray tHsh)).alloc (.cells (zero32.map bv).toArray tHsh)) := by
    have h2 := Blk.new (w.alloc (.cells (zero32.map bv).toArray tHsh)) tHsh (zero32.map bv).toArray
    rw [World.size_alloc] at h2
    exact ⟨(Blk.new w _ _).alloc _, h2, ((Only.refl _ _).alloc _).alloc _, ⟨Nat.le_refl _, Nat.lt_succ_self _⟩, zero32_len⟩
  obtain ⟨P, eP⟩ : ∃ P, P = w.heap.size := ⟨_, rfl⟩
  have HY := Lib.hid hY
  have EP := Lib.hid eP
  have hlen : s.data.toList.length = s.size := by simp
  have HLEN := Lib.hid hlen
  clear hlen hY eP
  go_enter Tryz.func70, Tryz.ntmps70
  go_upto_region 2 with (fail)
  refine wp_gen (fun Y => RdS w w.heap.size (w.heap.size + 1) zero32 Y) HY.out ?_
  intro Y hS
  rw [← EP.out] at hS ⊢
  obtain ⟨Q, eQ⟩ : ∃ Q, Q = P + 1 := ⟨_, rfl⟩
  rw [← eQ] at hS ⊢
  have hQY : Q < Y.heap.size := hS.out.lt
  have HS := Lib.hid hS
  clear hS HY EP eQ
  by_cases h64 : s.size = 64
  · have h6 : ((s.size : Int) == 64) = true := by rw [beq_iff_eq]; omega
    have h6' : (s.size : Int) = 64 := by omega
    go_wp2_with (refine wpList_convert_string rfl 9 39 5 (.tmp 12) rfl s rfl Tryz.underlying9 Tryz.underlying39 Tryz.underlying5 (by unfold maxLen; omega) Y Y.heap.size rfl (Only.refl NoneOf _) ?_; intro g1 c1 w1 hb1 ho1 hg1a hg1b hc1 hc1m)
    have HB1 : Hid (BytesAt w1 g1 0 s.data.toList) := Lib.hid hb1.out.bytes
    have HS1 := Lib.hid (HS.out.next ho1.out)
    have hgQ : g1 ≠ Q := by omega
    clear HS hb1 ho1
    unfold maxLen at hc1m
    go_loopw [15] (fun v W => ∃ (i : Nat) (L : List UInt8), v = .int .i64 (i : Int) ∧ i ≤ 64 ∧ Hid (HexI s.data.toList i L) ∧ RdS w P Q L W ∧ BytesAt W g1 0 s.data.toList) (fun v _ => 64 - (intOf v).toNat)
    case atStart => exact ⟨0, zero32, rfl, Nat.zero_le _, Lib.hid (HexI.start _), HS1.out, HB1.out⟩
    case round =>
      clear HS1 HB1
      obtain ⟨i, L, rfl, hi, HI, hS, hB⟩ := hrel
      have HS := Lib.hid hS
      have HB := Lib.hid hB
      clear hS hB
      by_cases hlt : i < 64
      · have hg := str_get s i (by omega)
        obtain ⟨c, hc⟩ : ∃ c, s[i]'(by omega) = c := ⟨_, rfl⟩
        rw [hc] at hg
        have HG := Lib.hid hg
        have ci := HB.out i c hg
        rw [Nat.zero_add] at ci
        have i0 : (0 : Int) ≤ (i : Int) := by omega
        have i1 : (i : Int) < (s.size : Int) := by omega
        have i2 : (i : Int) < 64 := by omega
        have wi : IntKind.i64.wrap ((i : Int) + 1) = (i : Int) + 1 := IntWalk.i64_in _ (by omega)
        obtain ⟨nv, env⟩ : ∃ nv : Int, nv = nib c := ⟨_, rfl⟩
        have hix := idx_hex c
        rw [← env] at hix
        have HIX := Lib.hid hix
        have hbd := nib_bd c
        rw [← env] at hbd
        have HNB := Lib.hid env
        clear hg env hix
        go_wp2_with fail
        refine (Tryz.strings_IndexByte _ _ _).mono ?_
        rintro e w2 ⟨rfl, hw2⟩
        subst hw2
        rw [HIX.out]
        clear ci
        by_cases hneg : nv < 0
        · obtain ⟨hst, hb, ho⟩ := HS.out.fill zero32 zero32_len
          have HBB := Lib.hid hb
          have HO := Lib.hid ho
          have HNO : Hid (∀ h : List UInt8, h.length = 32 → s.data.toList = hexL h → False) := Lib.hid (fun h h1 h2 => hex_none HG.out (by rw [← HNB.out]; exact hneg) h1 h2)
          have hz := hxZero_run w2
          clear hb ho hbd
          go_wp2_with fail
          exact bodyPost_ret (read_hx rfl rfl rfl HBB.out zero32_len) rfl ⟨zero32, false, rfl, zero32_len, fun h h1 h2 => (HNO.out h h1 h2).elim, HO.out⟩
        · obtain ⟨n, rfl⟩ : ∃ n : Nat, nv = (n : Int) := ⟨nv.toNat, by omega⟩
          obtain ⟨x, hx⟩ : ∃ x, L[i / 2]? = some x := ⟨_, List.getElem?_eq_getElem (by have := HS.out.len; omega)⟩
          have cx : w2.cell? ⟨Q, i / 2, none⟩ = some (.int .u8 (x.toNat : Int)) := by rw [HS.out.out.cell, List.getElem?_toArray, List.getElem?_map, hx]; rfl
          have fx := HS.out.out.frozen (i / 2)
          have d0 : 0 ≤ (i : Int) / 2 := by omega
          have d1 : (i : Int) / 2 < 32 := by omega
          have d2 : ((i : Int) / 2).toNat = i / 2 := by omega
          have HSTEP := Lib.hid (HI.out.step HG.out HNB.out.symm hx)
          clear hx
          have HSH := Lib.hid (or_hex x (n := n) (by omega))
          go_wp2_with fail
          go_roundw
          case rel =>
            rw [HSH.out]
            exact ⟨i + 1, L.set (i / 2) (shN x n), by go_num, by omega, HSTEP, HS.out.put (shN x n), HB.out.only ((Only.refl (fun k => k = Q) _).setCell (p := ⟨Q, i / 2, none⟩) (.inl rfl) _) hgQ⟩
          case measure => simp [intOf]; omega
      · obtain rfl : i = 64 := by omega
        have i2 : ¬ ((64 : Nat) : Int) < (s.size : Int) := by omega
        have hl := hx_load (hx_range HS.out.out) HS.out.len
        obtain ⟨hst, hb, ho⟩ := HS.out.fill L HS.out.len
        have HBB := Lib.hid hb
        have HO := Lib.hid ho
        clear hb ho
        go_wp2_with fail
        exact bodyPost_ret (read_hx rfl rfl rfl HBB.out HS.out.len) rfl ⟨L, true, rfl, HS.out.len, fun h h1 h2 => ⟨HI.out.done h1 h2, rfl⟩, HO.out⟩
  · have h6 : ((s.size : Int) == 64) = false := by rw [beq_eq_false_iff_ne]; omega
    have h6' : ¬ (s.size : Int) = 64 := by omega
    have hl := hx_load (hx_range HS.out.out) zero32_len
    obtain ⟨hst, hb, ho⟩ := HS.out.fill zero32 zero32_len
    obtain ⟨Z, eZ⟩ : ∃ Z, Z = zero32 := ⟨_, rfl⟩
    have hZ : Z.length = 32 := by rw [eZ]; exact zero32_len
    rw [← eZ] at hl hst hb ho
    have HB := Lib.hid hb
    have HO := Lib.hid ho
    have HZ := Lib.hid hZ
    have HNO : Hid (∀ h : List UInt8, h.length = 32 → s.data.toList = hexL h → False) := Lib.hid (fun h h1 h2 => h64 (by have := hex_long h1 h2; rw [HLEN.out] at this; exact this))
    clear hb ho h64 eZ hZ HS
    go_wp2_with fail
    exact bodyPost_ret (read_hx rfl rfl rfl HB.out HZ.out) rfl ⟨Z, false, rfl, HZ.out, fun h h1 h2 => (HNO.out h h1 h2).elim, HO.out⟩
end Go.Proofs.YtclpebgjmgfigaaGreatDoor
