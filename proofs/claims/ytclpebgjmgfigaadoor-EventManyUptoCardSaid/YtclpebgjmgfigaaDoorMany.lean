/- What is proved here: the law on the greatest length of a chain answers true. Conditions: the library's table reads as its initialiser lays it. -/
import Derived.Test.YtclpebgjmgfigaaDoorEvK
import Derived.Laws.MakeOwn
import Derived.Laws.Tables
namespace Go.Proofs.YtclpebgjmgfigaaDoor
open Go.RowKit Go.Shelf
/-- The hash behind k events that say nothing. -/
def lastB : Nat → List UInt8
  | 0 => zeros32
  | k + 1 => hashE (blankE k (lastB k))
theorem lastB_len : ∀ k, (lastB k).length = 32
  | 0 => rfl
  | _ + 1 => hashE_len _
theorem blanks_at : ∀ (n k i : Nat), i < n → (blanks n k (lastB k))[i]? = some (blankE (k + i) (lastB (k + i)))
  | 0, _, _, h => by omega
  | n + 1, k, 0, _ => by simp [blanks]
  | n + 1, k, i + 1, h => by
    have h1 := blanks_at n (k + 1) i (by omega)
    rw [show k + (i + 1) = k + 1 + i by omega, blanks, List.getElem?_cons_succ]
    exact h1
theorem blankE_ok {k : Nat} (h : k ≤ 2001) {l : List UInt8} (hl : l.length = 32) : (blankE k l).Ok :=
  ⟨(⟨by omega, by omega⟩ : In (k : Int)), in0, in0, in0, in0, in0, in0, in0, in0, in0, hl, in0, in0⟩
/-- An event built, under a name that the walk does not open. -/
def bdx (parts : Array (Nat × Value)) : Sem Value := Instr.build 29 parts
theorem bdx_eq (parts : Array (Nat × Value)) : Instr.build 29 parts = bdx parts := rfl
set_option maxRecDepth 100000 in
theorem bdx_built (k : Int) : ∀ (l : List UInt8), l.length = 32 → Tryd.prog.built 29 [(0, .int .i64 k), (11, .agg (l.map bv).toArray)] = some (evC ⟨k, 0, 0, 0, 0, 0, 0, 0, ⟨#[]⟩, ⟨#[]⟩, 0, 0, l, 0, 0⟩).toArray
  | [x0, x1, x2, x3, x4, x5, x6, x7, x8, x9, x10, x11, x12, x13, x14, x15, x16, x17, x18, x19, x20, x21, x22, x23, x24, x25, x26, x27, x28, x29, x30, x31], _ => by kernel_rfl
theorem bdx_run (k : Nat) (l : List UInt8) (hl : l.length = 32) (W : World) : (bdx #[(0, .int .i64 (k : Int)), (11, .agg (l.map bv).toArray)]).run Tryd.prog W = .ok (.agg (evC (blankE k l)).toArray) W :=
  run_build (P := Tryd.prog) W 29 _ _ (bdx_built (k : Int) l hl)
attribute [local go_sem ↓ high] evStore_eq evLoad_eq hLoad_eq hStore_eq bdx_eq
theorem many_info : ∃ ie z, Tryd.prog.info? tEv = some ie ∧ ie.size = 46 ∧ ie.zero = some z ∧ ie.bytes ≤ 1000 := by
  have h3 : (Tryd.prog.info? tEv).map (fun i => decide (i.bytes ≤ 1000)) = some true := by kernel_rfl
  obtain ⟨ie, z, hie, hsz, hz⟩ := ev_info
  rw [hie] at h3
  simp only [Option.map_some, Option.some.injEq, decide_eq_true_eq] at h3
  exact ⟨ie, z, hie, hsz, hz, h3⟩
theorem many_flat : ∀ (L : List Ev) (_ : ∀ p ∈ L, p.prev.length = 32), (L.flatMap evC).length = L.length * 46
  | [], _ => rfl
  | x :: l, h => by
    rw [List.flatMap_cons, List.length_append, evC_len (h x (by simp)), many_flat l (fun p hp => h p (by simp [hp])), List.length_cons]
    omega
theorem many_get : ∀ (L : List Ev) (_ : ∀ p ∈ L, p.prev.length = 32) (i j : Nat) (_ : j < 46) (p : Ev) (_ : L[i]? = some p), (L.flatMap evC)[i * 46 + j]? = (evC p)[j]?
  | [], _, _, _, _, _, h => by simp at h
  | x :: l, hf, i, j, hj, p, hp => by
    cases i with
    | zero =>
      simp at hp; subst hp
      simp only [List.flatMap_cons, Nat.zero_mul, Nat.zero_add]
      rw [List.getElem?_append_left (by rw [evC_len (hf x (by simp))]; exact hj)]
    | succ i =>
      simp only [List.flatMap_cons]
      rw [List.getElem?_append_right (by rw [evC_len (hf x (by simp))]; omega), evC_len (hf x (by simp)), show (i + 1) * 46 + j - 46 = i * 46 + j by omega]
      exact many_get l (fun q hq => hf q (by simp [hq])) i j hj p (by simpa using hp)
/-- What the loop keeps. -/
structure MaS (w : World) (b g M k : Nat) (rest : List Value) (W : World) : Prop where
  hash : Blk W b 25 ((lastB k).map bv).toArray
  evs : Blk W g tEv (((blanks M 0 zeros32).take k).flatMap evC ++ rest).toArray
  len : rest.length = (M - k) * 46
  only : Only NoneOf w W
set_option maxRecDepth 100000 in
set_option maxHeartbeats 4000000 in
theorem many_law (m : Nat) (hm : m < 256) (w : World) (hE : Env3 w) : Calls Tryd.prog 4 #[.int .u8 (m : Int)] w fun e' w' => e' = .returned (.bool true) ∧ Only NoneOf w w' := by
  obtain ⟨ie, z, hie, hsz, hz, hby⟩ := many_info
  have HE := Lib.hid hE
  clear hE
  go_enter Tryd.func4, Tryd.ntmps4
  go_wp2_with fail
  refine (sanity_any w HE.out).mono ?_
  rintro e1 w1 ⟨rfl, ho1⟩
  have HO1 := Lib.hid ho1
  clear ho1
  by_cases h7 : 7 < m
  · have g7 : (7 : Int) < (m : Int) := by omega
    clear h7
    go_wp2_with fail
    go_ret
    exact ⟨rfl, HO1.out⟩
  · have g7 : ¬ (7 : Int) < (m : Int) := by omega
    obtain ⟨r, er⟩ : ∃ r, r = m % 2 := ⟨_, rfl⟩
    obtain ⟨M, eM⟩ : ∃ M, M = 2000 + r := ⟨_, rfl⟩
    have hM : 2000 ≤ M ∧ M ≤ 2001 := by omega
    have k1 : (m : Int).tmod 2 = (r : Int) := by rw [er]; rfl
    have k2 : IntKind.u8.wrap (r : Int) = (r : Int) := by rw [IntKind.wrap_u8]; omega
    have k3 : IntKind.i64.wrap (r : Int) = (r : Int) := IntWalk.i64_in _ (by omega)
    have k4 : IntKind.i64.wrap (2000 + (r : Int)) = (M : Int) := by rw [show 2000 + (r : Int) = (M : Int) by omega]; exact IntWalk.i64_in _ (by omega)
    have hb : (ie.bytes : Int) * (M : Int) ≤ 281474976710656 := by
      have h1 : ie.bytes * M ≤ 1000 * 2001 := Nat.mul_le_mul hby hM.2
      have h2 : ((ie.bytes * M : Nat) : Int) ≤ 281474976710656 := by omega
      rwa [Int.natCast_mul] at h2
    have hmk := run_make (P := Tryd.prog) w1 33 tEv ie z Tryd.underlying33 hie hz .i64 .i64 (M : Int) (M : Int) (by omega) (Int.le_refl _) hb (by omega)
    simp only [Int.toNat_natCast, hsz] at hmk
    have HM := Lib.hid hM
    have HEM := Lib.hid eM
    clear hM hb h7 er eM
    obtain ⟨g, eg⟩ : ∃ g, g = w1.heap.size := ⟨_, rfl⟩
    have hgw : w.heap.size ≤ g := by rw [eg]; exact HO1.out.size
    have hms : (madeCells z.cells (M * 46)).size = M * 46 := by simp [madeCells]
    have hS0 : MaS w (g + 1) g M 0 (madeCells z.cells (M * 46)).toList ((w1.alloc (.cells (madeCells z.cells (M * 46)) tEv)).alloc (.cells (zeros32.map bv).toArray 25)) := by
      have h1 := Blk.new w1 tEv (madeCells z.cells (M * 46))
      rw [← eg] at h1
      have h2 := Blk.new (w1.alloc (.cells (madeCells z.cells (M * 46)) tEv)) 25 (zeros32.map bv).toArray
      rw [World.size_alloc, ← eg] at h2
      refine ⟨h2, ?_, ?_, ((HO1.out.alloc _).alloc _)⟩
      · simp only [List.take_zero, List.flatMap_nil, List.nil_append, Array.toArray_toList]
        exact h1.alloc _
      · rw [Array.length_toList, hms, Nat.sub_zero]
    have HS0 := Lib.hid hS0
    have HEG := Lib.hid eg
    clear hS0 hms eg
    go_upto_region 7 with (fail)
    rw [← HEG.out]
    refine wp_gen (MaS w (g + 1) g M 0 (madeCells z.cells (M * 46)).toList) HS0.out ?_
    intro Y hY
    have HY := Lib.hid hY
    clear hY HS0 hmk
    go_wp2_with fail
    go_loopw [7] (fun i wr => ∃ (k : Nat) (rest : List Value), i = .int .i64 k ∧ k ≤ M ∧ MaS w (g + 1) g M k rest wr) (fun i _ => M - (intOf i).toNat)
    case atStart => exact ⟨0, _, rfl, Nat.zero_le _, HY.out⟩
    case round =>
      obtain ⟨k, rest, rfl, hk, hS⟩ := hrel
      have hMM := HM.out
      by_cases hlt : k < M
      · have hl32 := lastB_len k
        obtain ⟨e, ee⟩ : ∃ e, e = blankE k (lastB k) := ⟨_, rfl⟩
        have heo : e.Ok := by rw [ee]; exact blankE_ok (by omega) hl32
        have hes : e.name.size ≤ 8796093022208 ∧ e.text.size ≤ 8796093022208 := by rw [ee]; exact ⟨Nat.zero_le _, Nat.zero_le _⟩
        have hBl : ∀ p ∈ (blanks M 0 zeros32).take k, p.prev.length = 32 := fun p hp => by
          obtain ⟨i, hi⟩ := List.getElem?_of_mem hp
          have hi2 : i < k := by
            have := (List.getElem?_eq_some_iff.1 hi).1
            rw [List.length_take] at this; omega
          rw [List.getElem?_take, if_pos hi2, show (blanks M 0 zeros32) = blanks M 0 (lastB 0) from rfl, blanks_at M 0 i (by omega), Option.some.injEq] at hi
          rw [← hi]
          exact lastB_len _
        have hBk : (blanks M 0 zeros32)[k]? = some e := by
          have := blanks_at M 0 k hlt
          rw [Nat.zero_add] at this
          rw [ee]; exact this
        have hpl : (((blanks M 0 zeros32).take k).flatMap evC).length = k * 46 := by
          rw [many_flat _ hBl, List.length_take, blanks_len]
          congr 1; omega
        have hbd := bdx_run k (lastB k) hl32 wr
        rw [← ee] at hbd
        have hhl : (hLoad (.pointer (some ⟨g + 1, 0, none⟩))).run Tryd.prog wr = .ok (.agg ((lastB k).map bv).toArray) wr := h_load (fun j v hj => by rw [Nat.zero_add, hS.hash.cell]; simpa using hj) hl32
        have h46 : (evC e).toArray.size = 46 := by rw [List.size_toArray, evC_len heo.prev]
        have hstg : (evStore (.pointer (some ⟨g, k * 46, none⟩)) (.agg (evC e).toArray)).run Tryd.prog wr = .ok () (wr.setCells g (k * 46) (evC e)) :=
          run_storeAt_mid (P := Tryd.prog) wr g (k * 46) 29 (evC e).toArray (hS.evs.there (k * 46) _ (by
            rw [h46, List.size_toArray, List.length_append, hpl, hS.len]
            have : k * 46 + 46 ≤ M * 46 := by omega
            have h9 : (M - k) * 46 = M * 46 - k * 46 := Nat.sub_mul _ _ _
            omega)) (by rw [h46]; kernel_rfl) (by
            apply all_oneCell_toArray
            intro v hv
            unfold evC at hv
            simp only [List.mem_append, List.mem_cons, List.not_mem_nil, or_false, List.mem_map] at hv
            rcases hv with (rfl | rfl | rfl | rfl | rfl | rfl | rfl | rfl | rfl | rfl | rfl | rfl) | ⟨x, _, rfl⟩ | rfl | rfl <;> rfl)
        have hgne : g + 1 ≠ g := by omega
        have hnew : Blk (wr.setCells g (k * 46) (evC e)) g tEv (((blanks M 0 zeros32).take (k + 1)).flatMap evC ++ rest.drop 46).toArray := by
          have h1 := Blk.setCells (evC e) (k * 46) hS.evs
          have h9 : (M - k) * 46 = M * 46 - k * 46 := Nat.sub_mul _ _ _
          rw [setMany_eq _ _ _ (by rw [List.length_append, hpl, hS.len, evC_len heo.prev]; omega)] at h1
          rw [List.take_left' hpl, evC_len heo.prev, ← hpl, List.drop_append, List.drop_of_length_le (by omega), List.nil_append, show (((blanks M 0 zeros32).take k).flatMap evC).length + 46 - (((blanks M 0 zeros32).take k).flatMap evC).length = 46 by omega] at h1
          rw [List.take_add_one, hBk, Option.toList_some, List.flatMap_append, List.flatMap_cons, List.flatMap_nil, List.append_nil]
          rw [hpl] at h1
          exact h1
        have hrl : (rest.drop 46).length = (M - (k + 1)) * 46 := by
          rw [List.length_drop, hS.len]
          have h9 : (M - k) * 46 = M * 46 - k * 46 := Nat.sub_mul _ _ _
          have h10 : (M - (k + 1)) * 46 = M * 46 - (k + 1) * 46 := Nat.sub_mul _ _ _
          omega
        have hrange : (wr.setCells g (k * 46) (evC e)).rangeAt g (k * 46) (evC e) := fun j v hj => by
          rw [hnew.cell, List.getElem?_toArray, List.take_add_one, hBk, Option.toList_some, List.flatMap_append, List.flatMap_cons, List.flatMap_nil, List.append_nil]
          have hj2 := (List.getElem?_eq_some_iff.1 hj).1
          rw [List.getElem?_append_left (by rw [List.length_append, hpl]; omega), List.getElem?_append_right (by rw [hpl]; omega), hpl, show k * 46 + j - k * 46 = j by omega]
          exact hj
        have hld := ev_load_at hrange heo.prev
        have ik : (k : Int) < (M : Int) := by omega
        have ik0 : (0 : Int) ≤ (k : Int) := by omega
        have HW := Lib.hid (And.intro hnew (And.intro (hS.hash.farCells hgne (evC e) (k * 46)) (only_setCells hS.only g (k * 46) (.inr hgw) (evC e))))
        have HEO := Lib.hid heo
        have HES := Lib.hid hes
        have HRL := Lib.hid hrl
        have HL32 := Lib.hid hl32
        have HEE := Lib.hid ee
        clear hS hBl hBk hpl h46 hnew hrl hrange heo hes ee hl32
        go_wp2_with fail
        refine (ehash_any e HEO.out HES.out.1 HES.out.2 _ (HE.out.tab.none HW.out.2.2)).mono ?_
        unfold hv
        rintro e9 w9 ⟨rfl, ho9⟩
        have hh9 := HW.out.2.1.only ho9 (fun e => e)
        have hst9 := h_store hh9 HL32.out (hashE_len e)
        have hfin : MaS w (g + 1) g M (k + 1) (rest.drop 46) (w9.setCells (g + 1) 0 ((hashE e).map bv)) := by
          have h1 : lastB (k + 1) = hashE e := by rw [HEE.out]; rfl
          refine ⟨?_, (HW.out.1.only ho9 (fun e => e)).farCells (by omega) _ 0, HRL.out, only_setCells (HW.out.2.2.trans ho9) (g + 1) 0 (.inr (by omega)) _⟩
          rw [h1]
          exact setCells_own hh9 (by simp [HL32.out, hashE_len])
        have HFIN := Lib.hid hfin
        clear hh9 hfin ho9 hbd hhl hstg hld
        go_wp2_with fail
        go_roundw
        case rel => exact ⟨k + 1, _, by go_num, by omega, HFIN.out⟩
        case measure => simp [intOf]; omega
      · obtain rfl : k = M := by omega
        have hall : (blanks k 0 zeros32).take k = blanks k 0 zeros32 := List.take_of_length_le (by rw [blanks_len]; omega)
        have hr0 : rest = [] := List.eq_nil_of_length_eq_zero (by rw [hS.len, Nat.sub_self, Nat.zero_mul])
        have hb := hS.evs
        rw [hall, hr0, List.append_nil] at hb
        have hBl : ∀ p ∈ blanks k 0 zeros32, ∃ i, i < k ∧ p = blankE i (lastB i) := fun p hp => by
          obtain ⟨i, hi⟩ := List.getElem?_of_mem hp
          have hi2 : i < k := by
            have := (List.getElem?_eq_some_iff.1 hi).1
            rw [blanks_len] at this; exact this
          have h1 := blanks_at k 0 i hi2
          rw [Nat.zero_add] at h1
          have h2 := hi.symm.trans h1
          exact ⟨i, hi2, Option.some.inj h2⟩
        have hB32 : ∀ p ∈ blanks k 0 zeros32, p.prev.length = 32 := fun p hp => by
          obtain ⟨i, _, rfl⟩ := hBl p hp
          exact lastB_len i
        have hok : EvsOk (blanks k 0 zeros32) := fun p hp => by
          obtain ⟨i, hi, rfl⟩ := hBl p hp
          exact ⟨blankE_ok (by omega) (lastB_len i), Nat.zero_le _, Nat.zero_le _⟩
        have hsl : EvSl wr (.slice (some ⟨g, 0, none⟩) k k) (blanks k 0 zeros32) := by
          refine ⟨some ⟨g, 0, none⟩, k, by rw [blanks_len], by rw [blanks_len]; exact Nat.le_refl _, by omega, fun i e he => ⟨g, 0, rfl, hb.lt, fun j v hj => ?_⟩⟩
          have hj2 : j < 46 := by
            have := (List.getElem?_eq_some_iff.1 hj).1
            rw [evC_len (hB32 e (List.mem_of_getElem? he))] at this; exact this
          rw [Nat.zero_add, hb.cell, List.getElem?_toArray, many_get _ hB32 i j hj2 e he]
          exact hj
        have hch := echain_any _ _ wr hsl hok (HE.out.tab.none hS.only)
        have hbc := blanks_chain k 0 zeros32 0 (Int.le_refl _)
        have hO := hS.only
        have ik : ¬ (k : Int) < (k : Int) := by omega
        have HCH := Lib.hid hch
        have HBC := Lib.hid hbc
        have HO := Lib.hid hO
        clear hall hr0 hb hBl hB32 hok hsl hch hbc hO hS
        have hlt : decide ((k : Int) < (k : Int)) = false := decide_eq_false (by omega)
        go_wp2_with fail
        refine HCH.out.mono ?_
        rintro e5 w5 ⟨rfl, ho5⟩
        have HO5 := Lib.hid (HO.out.trans ho5)
        clear ho5 HCH
        by_cases h01 : 2000 < k
        · have hc : chainL (blanks k 0 zeros32) = (2000, 2) := by
            unfold chainL
            rw [HBC.out, if_pos ⟨by omega, by omega⟩]
          rw [hc]
          have hg : (2000 : Int) < (k : Int) := by omega
          clear hc h01
          go_wp2_with fail
          go_ret
          exact ⟨rfl, HO5.out⟩
        · have hc : chainL (blanks k 0 zeros32) = (k, 0) := by
            unfold chainL
            rw [HBC.out, if_neg (by omega), if_neg (by omega), Nat.zero_add]
          rw [hc]
          have hg : ¬ (2000 : Int) < (k : Int) := by omega
          clear hc h01
          go_wp2_with fail
          go_ret
          exact ⟨rfl, HO5.out⟩
end Go.Proofs.YtclpebgjmgfigaaDoor
