/- What is proved here: a block is combined with bytes of a text. Conditions: what is read can be read. -/
import Derived.Test.YtdgapomeenigbaaDoorSealA
namespace Go.Proofs.YtdgapomeenigbaaDoor
open Go.RowKit

theorem b_xor (x y : UInt8) : bits .xor .u8 (x.toNat : Int) (y.toNat : Int) = ((x ^^^ y).toNat : Int) := by
  have e : ∀ z : UInt8, BitVec.ofInt 8 (z.toNat : Int) = z.toBitVec := fun z => by simp
  show IntKind.u8.wrap ((BitVec.ofInt 8 (x.toNat : Int) ^^^ BitVec.ofInt 8 (y.toNat : Int)).toNat : Int) = _
  rw [e, e]
  have h : (x.toBitVec ^^^ y.toBitVec).toNat = (x ^^^ y).toNat := rfl
  rw [h]
  have key : ∀ z : UInt8, IntKind.u8.wrap (z.toNat : Int) = (z.toNat : Int) := fun z => by
    have := z.toNat_lt
    simp [IntKind.wrap, IntKind.bits, IntKind.signed]
    omega
  exact key _
def xorL (h p : List UInt8) : List UInt8 := List.zipWith (· ^^^ ·) h p
/-- The block when i bytes have been mixed in. -/
def mixRow (h p : List UInt8) (i : Nat) : List UInt8 := xorL (h.take i) (p.take i) ++ h.drop i
theorem xorL_len (h p : List UInt8) : (xorL h p).length = min h.length p.length := by simp [xorL]
theorem mixRow_len {h p : List UInt8} {i : Nat} (hi : i ≤ h.length) (hp : i ≤ p.length) : (mixRow h p i).length = h.length := by
  simp [mixRow, xorL_len]; omega
theorem mixRow_get {h p : List UInt8} {i : Nat} (hi : i ≤ h.length) (hp : i ≤ p.length) {x : UInt8} (hx : h[i]? = some x) : (mixRow h p i)[i]? = some x := by
  rw [mixRow, List.getElem?_append_right (by simp [xorL_len]; omega)]
  simp [xorL_len]
  rw [show i + (i - min i (min h.length (min i p.length))) = i by omega]
  exact hx
theorem mixRow_set {h p : List UInt8} {i : Nat} {x y : UInt8} (hx : h[i]? = some x) (hy : p[i]? = some y) : ((mixRow h p i).map bv).toArray.setIfInBounds i (bv (x ^^^ y)) = ((mixRow h p (i + 1)).map bv).toArray := by
  have hi : i < h.length := (List.getElem?_eq_some_iff.1 hx).1
  have hp : i < p.length := (List.getElem?_eq_some_iff.1 hy).1
  have hl : (xorL (h.take i) (p.take i)).length = i := by simp [xorL_len]; omega
  have hd : h.drop i = x :: h.drop (i + 1) := by
    rw [List.drop_eq_getElem_cons hi]
    congr 1
    exact (List.getElem?_eq_some_iff.1 hx).2
  have ht : xorL (h.take (i + 1)) (p.take (i + 1)) = xorL (h.take i) (p.take i) ++ [x ^^^ y] := by
    rw [List.take_add_one, List.take_add_one, hx, hy]
    exact List.zipWith_append (by simp; omega)
  rw [List.setIfInBounds_toArray, mixRow, mixRow, ht, hd, List.map_append, List.set_append_right _ _ (by simp [hl]), List.length_map, hl, Nat.sub_self, List.map_cons, List.set_cons_zero]
  simp
theorem mixRow_all {h p : List UInt8} (hp : p.length ≤ h.length) : (mixRow h p p.length).take p.length = xorL h p := by
  rw [mixRow, List.take_append_of_le_length (by simp [xorL_len]; omega), List.take_of_length_le (by simp [xorL_len]; omega)]
  simp [xorL]
  have : List.zipWith (· ^^^ ·) (h.take p.length) p = List.zipWith (· ^^^ ·) h p := by
    conv => rhs; rw [← List.take_append_drop p.length h]
    have e : p = p ++ [] := by simp
    conv => rhs; arg 3; rw [e]
    rw [List.zipWith_append (by simp; omega)]
    simp
  exact this
theorem blk_bytes {w : World} {g : Nat} {t : TypeId} {l : List UInt8} (h : Blk w g t (l.map bv).toArray) : BytesAt w g 0 l := fun j x hx => by
  rw [Nat.zero_add, h.cell, List.getElem?_toArray, List.getElem?_map, hx]; rfl
theorem there_only {S : Nat → Prop} {w w' : World} {g o n : Nat} (h : w.there g o n) (ho : Only S w w') (hg : ¬ S g) : w'.there g o n := fun j hj => by
  obtain ⟨h1, h2⟩ := h j hj
  obtain ⟨v, hv⟩ := Option.isSome_iff_exists.1 h1
  have hb := ho.block g (World.block_lt_of_cell? w _ hv) hg
  exact ⟨by rw [World.cell?_of_block (a := ⟨g, o + j, none⟩) hb]; exact h1, by rw [World.frozen?_of_block (a := ⟨g, o + j, none⟩) hb]; exact h2⟩
set_option maxRecDepth 100000 in
set_option maxHeartbeats 1000000 in
theorem mix_any {B g o n c : Nat} {h p : List UInt8} {w : World} (hB : Blk w B 41 (h.map bv).toArray) (hh : h.length = 32) (hn : p.length = n) (hn32 : n ≤ 32) (hnc : n ≤ c) (_hcm : c ≤ maxLen) (hp : BytesAt w g o p) (hth : w.there g o n) (hne : g ≠ B) :
    Calls Tryd.prog 31 #[.pointer (some ⟨B, 0, none⟩), .slice (some ⟨g, o, none⟩) n c] w fun e w' => (∃ v, e = .returned v) ∧ ∃ wr, Only (· = B) w wr ∧ w' = wr.setCells g o ((xorL h p).map bv) := by
  have HB := Lib.hid hB
  have HP := Lib.hid hp
  have HTH := Lib.hid hth
  have HN := Lib.hid hn
  have HH := Lib.hid hh
  unfold maxLen at _hcm
  clear hB hp hth hn hh
  go_enter Tryd.func31, Tryd.ntmps31
  go_wp2_with fail
  go_loopw [7] (fun v wr => ∃ i : Nat, v = .int .i64 i ∧ i ≤ n ∧ Blk wr B 41 ((mixRow h p i).map bv).toArray ∧ Only (· = B) w wr) (fun v _ => n - (intOf v).toNat)
  case atStart => exact ⟨0, rfl, by omega, by simpa [mixRow, xorL] using HB.out, Only.refl _ _⟩
  case round =>
    obtain ⟨i, rfl, hi, hb, ho⟩ := hrel
    by_cases hlt : i < n
    · obtain ⟨x, ex⟩ : ∃ x, h[i]? = some x := ⟨_, List.getElem?_eq_getElem (by have := HH.out; omega)⟩
      obtain ⟨y, ey⟩ : ∃ y, p[i]? = some y := ⟨_, List.getElem?_eq_getElem (by have := HN.out; omega)⟩
      have cx : wr.cell? ⟨B, i, none⟩ = some (.int .u8 (x.toNat : Int)) := by
        rw [hb.cell, List.getElem?_toArray, List.getElem?_map, mixRow_get (by have := HH.out; omega) (by have := HN.out; omega) ex]; rfl
      have cy : wr.cell? ⟨g, o + i, none⟩ = some (.int .u8 (y.toNat : Int)) := ho.cell_some (HP.out i y ey) hne
      have fz := hb.frozen i
      have hset := mixRow_set ex ey
      have HSET := Lib.hid hset
      have HBB := Lib.hid hb
      have HO := Lib.hid ho
      have i32 : (i : Int) < 32 := by omega
      have i0 : 0 ≤ (i : Int) := by omega
      have inn : (i : Int) < (n : Int) := by omega
      clear hset hb ho ex ey
      go_wp2_with fail
      go_region
      go_wp2_with fail
      go_roundw
      case rel =>
        refine ⟨i + 1, by go_num, by omega, ?_, (HO.out.drew).setCell (.inl rfl) _⟩
        have := (Blk.drew HBB.out).set_ i (bv (x ^^^ y))
        rw [HSET.out] at this
        rw [b_xor]
        exact this
      case measure => simp [intOf]; omega
    · obtain rfl : i = n := by omega
      have hx : xorL h p = (mixRow h p i).take i := by
        have := mixRow_all (h := h) (p := p) (by have := HH.out; have := HN.out; omega)
        rw [HN.out] at this
        exact this.symm
      have hsrc : BytesAt wr B 0 (xorL h p) := by rw [hx]; exact (blk_bytes hb).part 0 i
      have hlen : ((xorL h p).map bv).length = Nat.min 32 i := by
        rw [List.length_map, xorL_len, HH.out, HN.out]
      have hth2 : wr.there g o ((xorL h p).map bv).length := by
        rw [hlen, show Nat.min 32 i = i from Nat.min_eq_right hn32]; exact there_only HTH.out ho hne
      have HSRC := Lib.hid hsrc
      have HLEN := Lib.hid hlen
      have HTH2 := Lib.hid hth2
      have HO := Lib.hid ho
      clear hx hsrc hlen hth2 ho hb
      have tok : True := trivial
      go_wp2_with (have _t := tok; refine wpList_copy_bytes rfl (.tmp 23) (.tmp 26) 32 32 rfl 5 Tryd.underlying32 (by kernel_rfl) g o i c ⟨B, 0, none⟩ 32 32 rfl rfl ((xorL h p).map bv) HLEN.out (bytes_src HSRC.out) HTH2.out (bvs_one _) ?_; clear tok _t)
      go_end0
      exact ⟨⟨_, rfl⟩, wr, HO.out, rfl⟩
end Go.Proofs.YtdgapomeenigbaaDoor
