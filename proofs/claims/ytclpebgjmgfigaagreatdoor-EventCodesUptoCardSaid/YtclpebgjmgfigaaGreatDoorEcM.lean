/- What is proved here: a hash read off a text, by the reference: conditions on memory, and what is answered. Conditions: the text is short. -/
import Derived.Test.YtclpebgjmgfigaaGreatDoorG2
import Derived.Test.YtclpebgjmgfigaaGreatDoorEcB
import Derived.Deep.MidRow
import Derived.Laws.ResultCell
import Derived.Deep.DeepCutAuto
import Derived.RegionTactic
namespace Go.Proofs.YtclpebgjmgfigaaGreatDoor
open Go.RowKit Go.Shelf
abbrev tHsh : TypeId := 25
/-- A whole hash loaded, stored, made, under names that the walk does not open. -/
def hxLoad (v : Value) : Sem Value := Instr.loadAt 25 v
theorem hxLoad_eq (v : Value) : Instr.loadAt 25 v = hxLoad v := rfl
def hxStore (p v : Value) : Sem Unit := Instr.storeAt 25 p v
theorem hxStore_eq (p v : Value) : Instr.storeAt 25 p v = hxStore p v := rfl
def hxZero (parts : Array (Nat × Value)) : Sem Value := Instr.build 25 parts
theorem hxZero_eq (parts : Array (Nat × Value)) : Instr.build 25 parts = hxZero parts := rfl
def zero32 : List UInt8 := List.replicate 32 0
theorem hxZero_run (W : World) : (hxZero #[]).run Tryz.prog W = .ok (.agg (zero32.map bv).toArray) W := run_build (P := Tryz.prog) W 25 _ _ (by kernel_rfl)
theorem hx_load {W : World} {g o : Nat} {l : List UInt8} (h : W.rangeAt g o (l.map bv)) (hl : l.length = 32) : (hxLoad (.pointer (some ⟨g, o, none⟩))).run Tryz.prog W = .ok (.agg (l.map bv).toArray) W :=
  run_loadAt_mid W g o 25 (l.map bv) _ h Tryz.underlying25 rfl (by rw [List.length_map, hl]; kernel_rfl)
theorem hx_store {W : World} {g : Nat} {l m : List UInt8} (h : Blk W g 25 (l.map bv).toArray) (hl : l.length = 32) (hm : m.length = 32) : (hxStore (.pointer (some ⟨g, 0, none⟩)) (.agg (m.map bv).toArray)).run Tryz.prog W = .ok () (W.setCells g 0 (m.map bv)) :=
  run_storeAt_mid (P := Tryz.prog) W g 0 25 (m.map bv).toArray (h.there 0 _ (by simp [hl, hm])) (by rw [List.size_toArray, List.length_map, hm]; kernel_rfl) (all_oneCell_toArray (bvs_one _))
theorem hx_range {W : World} {g : Nat} {l : List UInt8} (h : Blk W g tHsh (l.map bv).toArray) : W.rangeAt g 0 (l.map bv) := fun j v hj => by rw [Nat.zero_add, h.cell]; simpa using hj
theorem read_hx {fn : Func} {p u : Tmp} {tmps : Array Value} {w : World} {g : Nat} {l : List UInt8} {k : Bool} (hf : fn.results = #[.cell p tHsh, .tmp u]) (hp : tmps.getD p undef = .pointer (some ⟨g, 0, none⟩)) (hu : tmps.getD u undef = .bool k) (hb : Blk w g tHsh (l.map bv).toArray) (hl : l.length = 32) : (results fn tmps).run Tryz.prog w = .ok (.tuple #[.agg (l.map bv).toArray, .bool k]) w := by
  have h2 := run_loadVar_mid (P := Tryz.prog) w g 0 tHsh (l.map bv) _ (hx_range hb) Tryz.underlying25 rfl (by rw [List.length_map, hl]; kernel_rfl)
  rw [results_cell_tmp hf, hp, hu]
  simp only [asAddr]
  show (Result.andThen (Result.ok _ w) _) = _
  simp only [Result.andThen]
  rw [h2]
/-- Some 32 bytes and a flag; of a hexadecimal form, its bytes. -/
def HexE (s : ByteArray) (w : World) (e : Ending) (w' : World) : Prop := ∃ (L : List UInt8) (k : Bool), e = .returned (.tuple #[.agg (L.map bv).toArray, .bool k]) ∧ L.length = 32 ∧ (∀ h : List UInt8, h.length = 32 → s.data.toList = hexL h → L = h ∧ k = true) ∧ Only NoneOf w w'
structure RdS (w : World) (P Q : Nat) (L : List UInt8) (W : World) : Prop where
  res : Blk W P tHsh (zero32.map bv).toArray
  out : Blk W Q tHsh (L.map bv).toArray
  only : Only NoneOf w W
  lo : w.heap.size ≤ P ∧ P < Q
  len : L.length = 32
abbrev hexQ : ByteArray := ⟨#[48, 49, 50, 51, 52, 53, 54, 55, 56, 57, 97, 98, 99, 100, 101, 102]⟩
theorem hexQ_idx : ∀ n : Nat, (h : n < hexQ.size) → hexQ[n]'h = hexC n := by decide
theorem RdS.next {w W W' : World} {P Q : Nat} {L : List UInt8} (h : RdS w P Q L W) (ho : Only NoneOf W W') : RdS w P Q L W' := ⟨h.res.only ho (fun e => e), h.out.only ho (fun e => e), h.only.trans ho, h.lo, h.len⟩
theorem RdS.put {w W : World} {P Q j : Nat} {L : List UInt8} (h : RdS w P Q L W) (y : UInt8) : RdS w P Q (L.set j y) (W.setCell ⟨Q, j, none⟩ (bv y)) :=
  ⟨h.res.far (p := ⟨Q, j, none⟩) (by have := h.lo.2; show P ≠ Q; omega) _, by
    have hb := h.out.set_ j (bv y)
    rwa [List.setIfInBounds_toArray, ← List.map_set] at hb, h.only.setCell (p := ⟨Q, j, none⟩) (.inr (by have := h.lo; show w.heap.size ≤ Q; omega)) _, h.lo, by rw [List.length_set]; exact h.len⟩
theorem zero32_len : zero32.length = 32 := by simp [zero32]
/-- The result's block is filled. -/
theorem RdS.fill {w W : World} {P Q : Nat} {L : List UInt8} (h : RdS w P Q L W) (M : List UInt8) (hM : M.length = 32) : (hxStore (.pointer (some ⟨P, 0, none⟩)) (.agg (M.map bv).toArray)).run Tryz.prog W = .ok () (W.setCells P 0 (M.map bv)) ∧ Blk (W.setCells P 0 (M.map bv)) P tHsh (M.map bv).toArray ∧ Only NoneOf w (W.setCells P 0 (M.map bv)) :=
  ⟨hx_store h.res zero32_len hM, h.res.filled _ (by rw [List.length_map, List.length_map, hM, zero32_len]), only_setCells h.only P 0 (.inr h.lo.1) _⟩
attribute [local go_sem ↓ high] hxLoad_eq hxStore_eq hxZero_eq
set_option maxRecDepth 100000 in
set_option maxHeartbeats 4000000 in
theorem rread09_any (s : ByteArray) (_hs : s.size ≤ 100000000) (w : World) : Calls Tryz.prog 44 #[.string s] w (HexE s w) := by
  have hY : RdS w w.heap.size (w.heap.size + 1) zero32 ((w.alloc (.cells (zero32.map bv).toArray tHsh)).alloc (.cells (zero32.map bv).toArray tHsh)) := by
    have h2 := Blk.new (w.alloc (.cells (zero32.map bv).toArray tHsh)) tHsh (zero32.map bv).toArray
    rw [World.size_alloc] at h2
    exact ⟨(Blk.new w _ _).alloc _, h2, ((Only.refl _ _).alloc _).alloc _, ⟨Nat.le_refl _, Nat.lt_succ_self _⟩, zero32_len⟩
  obtain ⟨P, eP⟩ : ∃ P, P = w.heap.size := ⟨_, rfl⟩
  have HY := Lib.hid hY
  have EP := Lib.hid eP
  have hlen : s.data.toList.length = s.size := by simp
  have HLEN := Lib.hid hlen
  clear hlen hY eP
  go_enter Tryz.func44, Tryz.ntmps44
  go_upto_region 2 with (fail)
  refine wp_gen (fun Y => RdS w w.heap.size (w.heap.size + 1) zero32 Y) HY.out ?_
  intro Y hS
  rw [← EP.out] at hS ⊢
  obtain ⟨Q, eQ⟩ : ∃ Q, Q = P + 1 := ⟨_, rfl⟩
  rw [← eQ] at hS ⊢
  have HS := Lib.hid hS
  clear hS HY EP eQ
  by_cases h64 : s.size = 64
  · have h6 : ((s.size : Int) == 64) = true := by rw [beq_iff_eq]; omega
    have h6' : (s.size : Int) = 64 := by omega
    go_wp2_with fail
    go_loopw [5] (fun v W => ∃ (i : Nat) (L : List UInt8), v = .int .i64 (i : Int) ∧ i ≤ 64 ∧ Hid (HexI s.data.toList i L) ∧ RdS w P Q L W) (fun v _ => 64 - (intOf v).toNat)
    case atStart => exact ⟨0, zero32, rfl, Nat.zero_le _, Lib.hid (HexI.start _), HS.out⟩
    case round =>
      clear HS
      obtain ⟨i, L, rfl, hi, HI, hS⟩ := hrel
      have HS := Lib.hid hS
      clear hS
      by_cases hlt : i < 64
      · have hg := str_get s i (by omega)
        obtain ⟨c, hc⟩ : ∃ c, s[i]'(by omega) = c := ⟨_, rfl⟩
        rw [hc] at hg
        have HG := Lib.hid hg
        have i0 : (0 : Int) ≤ (i : Int) := by omega
        have i1 : (i : Int) < (s.size : Int) := by omega
        have i2 : (i : Int) < 64 := by omega
        clear hg
        go_wp2_with fail
        go_loopw [6, 7] (fun n v W => ∃ k : Nat, v = .int .i64 (k : Int) ∧ k ≤ 16 ∧ n = .int .i64 (nibK c k) ∧ RdS w P Q L W) (fun _ v _ => 16 - (intOf v).toNat)
        case atStart => exact ⟨0, rfl, Nat.zero_le _, rfl, HS.out⟩
        case round =>
          clear HS
          obtain ⟨k, rfl, hk, rfl, hS⟩ := hrel
          have HS := Lib.hid hS
          clear hS
          by_cases hk6 : k < 16
          · have hdx := hexQ_idx k hk6
            obtain ⟨d, ed⟩ : ∃ d, d = hexC k := ⟨_, rfl⟩
            rw [← ed] at hdx
            have ED := Lib.hid ed
            have k0 : (0 : Int) ≤ (k : Int) := by omega
            have k1 : (k : Int) < 16 := by omega
            have wk : IntKind.i64.wrap ((k : Int) + 1) = (k : Int) + 1 := IntWalk.i64_in _ (by omega)
            clear ed
            by_cases hdc : d = c
            · subst hdc
              have hnk : nibK d (k + 1) = (k : Int) := by
                show (if hexC k = d then (k : Int) else nibK d k) = _
                rw [if_pos ED.out.symm]
              have HNK := Lib.hid hnk
              clear hnk
              go_wp2_with fail
              go_region
              go_wp2_with fail
              go_roundw
              case rel => exact ⟨k + 1, by go_num, by omega, by rw [HNK.out], HS.out.next ((Only.refl _ _).drew)⟩
              case measure => simp [intOf]; omega
            · have hne : ((d.toNat : Int) == (c.toNat : Int)) = false := by
                rw [beq_eq_false_iff_ne]; exact fun h => hdc (UInt8.toNat_inj.1 (by omega))
              have hne2 : ¬ (d.toNat : Int) = (c.toNat : Int) := fun h => hdc (UInt8.toNat_inj.1 (by omega))
              have hnk : nibK c (k + 1) = nibK c k := by
                show (if hexC k = c then (k : Int) else nibK c k) = _
                rw [if_neg (by rw [← ED.out]; exact hdc)]
              have HNK := Lib.hid hnk
              clear hnk hdc
              go_wp2_with fail
              go_region
              go_wp2_with fail
              go_roundw
              case rel => exact ⟨k + 1, by go_num, by omega, by rw [HNK.out], HS.out.next ((Only.refl _ _).drew)⟩
              case measure => simp [intOf]; omega
          · have hk16 : k = 16 := by omega
            have HK := Lib.hid hk16
            have k6 : ¬ (k : Int) < 16 := by omega
            obtain ⟨nv, env⟩ : ∃ nv : Int, nv = nibK c k := ⟨_, rfl⟩
            rw [← env]
            have hnib : nv = nib c := by rw [env, hk16]; rfl
            have HNB := Lib.hid hnib
            have hbd := nib_bd c
            clear hk16 env hk6 hnib
            by_cases hneg : nv < 0
            · obtain ⟨hst, hb, ho⟩ := HS.out.fill zero32 zero32_len
              have HB := Lib.hid hb
              have HO := Lib.hid ho
              have HNO : Hid (∀ h : List UInt8, h.length = 32 → s.data.toList = hexL h → False) := Lib.hid (fun h h1 h2 => hex_none HG.out (by rw [← HNB.out]; exact hneg) h1 h2)
              have hz := hxZero_run wr
              clear hb ho hbd
              go_wp2_with fail
              exact bodyPost_ret (read_hx rfl rfl rfl HB.out zero32_len) rfl ⟨zero32, false, rfl, zero32_len, fun h h1 h2 => (HNO.out h h1 h2).elim, HO.out⟩
            · obtain ⟨n, rfl⟩ : ∃ n : Nat, nv = (n : Int) := ⟨nv.toNat, by omega⟩
              obtain ⟨x, hx⟩ : ∃ x, L[i / 2]? = some x := ⟨_, List.getElem?_eq_getElem (by have := HS.out.len; omega)⟩
              have cx : wr.cell? ⟨Q, i / 2, none⟩ = some (.int .u8 (x.toNat : Int)) := by rw [HS.out.out.cell, List.getElem?_toArray, List.getElem?_map, hx]; rfl
              have fx := HS.out.out.frozen (i / 2)
              have d0 : 0 ≤ (i : Int) / 2 := by omega
              have d1 : (i : Int) / 2 < 32 := by omega
              have d2 : ((i : Int) / 2).toNat = i / 2 := by omega
              have wi : IntKind.i64.wrap ((i : Int) + 1) = (i : Int) + 1 := IntWalk.i64_in _ (by omega)
              have hsh : ((x.toNat : Int) * 16 + (n : Int)) % 256 = ((shN x n).toNat : Int) := by unfold shN; rw [UInt8.toNat_ofNat']; omega
              have HSH := Lib.hid hsh
              have HST := HI.out.step HG.out HNB.out.symm hx
              have HSTEP := Lib.hid HST
              clear hx hsh HST
              go_wp2_with fail
              go_roundw
              case rel => exact ⟨i + 1, L.set (i / 2) (shN x n), by go_num, by omega, HSTEP, by rw [HSH.out]; exact HS.out.put (shN x n)⟩
              case measure => simp [intOf]; omega
      · obtain rfl : i = 64 := by omega
        have hl := hx_load (hx_range HS.out.out) HS.out.len
        obtain ⟨hst, hb, ho⟩ := HS.out.fill L HS.out.len
        have HB := Lib.hid hb
        have HO := Lib.hid ho
        clear hb ho
        go_wp2_with fail
        exact bodyPost_ret (read_hx rfl rfl rfl HB.out HS.out.len) rfl ⟨L, true, rfl, HS.out.len, fun h h1 h2 => ⟨HI.out.done h1 h2, rfl⟩, HO.out⟩
  · have h6 : ((s.size : Int) == 64) = false := by rw [beq_eq_false_iff_ne]; omega
    have h6' : ¬ (s.size : Int) = 64 := by omega
    have hl := hx_load (hx_range HS.out.out) zero32_len
    obtain ⟨hst, hb, ho⟩ := HS.out.fill zero32 zero32_len
    obtain ⟨Z, eZ⟩ : ∃ Z, Z = zero32 := ⟨_, rfl⟩
    have hZ : Z.length = 32 := by rw [eZ]; exact zero32_len
    rw [← eZ] at hl hst hb ho
    have HB := Lib.hid hb
    have HO := Lib.hid ho
    have HZ := Lib.hid hZ
    have HNO : Hid (∀ h : List UInt8, h.length = 32 → s.data.toList = hexL h → False) := Lib.hid (fun h h1 h2 => h64 (by have := hex_long h1 h2; rw [HLEN.out] at this; exact this))
    clear hb ho h64 eZ hZ HS
    go_wp2_with fail
    exact bodyPost_ret (read_hx rfl rfl rfl HB.out HZ.out) rfl ⟨Z, false, rfl, HZ.out, fun h h1 h2 => (HNO.out h h1 h2).elim, HO.out⟩
end Go.Proofs.YtclpebgjmgfigaaGreatDoor
