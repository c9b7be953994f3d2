/- What is proved here: the lists of heads that the laws on quorums use, as the reference makes them. No conditions. -/
import Derived.Test.YtoehfainhmfghaaGreatDoorQGo
import Derived.Test.YtoehfainhmfghaaGreatDoorB3
import Derived.Great.BuildSlice
namespace Go.Proofs.YtoehfainhmfghaaGreatDoor
open Go.RowKit Go.Shelf
/-- Slice literals of heads, under names that the walk does not open. -/
def hdBs4 (parts : Array (Nat × Value)) : Sem Value := Instr.buildSlice 58 4 parts
theorem hdBs4_eq (parts : Array (Nat × Value)) : Instr.buildSlice 58 4 parts = hdBs4 parts := rfl
def hdBs2 (parts : Array (Nat × Value)) : Sem Value := Instr.buildSlice 58 2 parts
theorem hdBs2_eq (parts : Array (Nat × Value)) : Instr.buildSlice 58 2 parts = hdBs2 parts := rfl
theorem hd_info : ∃ ie z, Tryz.prog.info? 25 = some ie ∧ ie.size = 33 ∧ ie.zero = some z := by
  have h1 : (Tryz.prog.info? 25).map (·.size) = some 33 := by kernel_rfl
  have h2 : ((Tryz.prog.info? 25).bind (·.zero)).isSome = true := by kernel_rfl
  cases hie : Tryz.prog.info? 25 with
  | none => simp [hie] at h1
  | some ie =>
    simp only [hie, Option.map_some, Option.some.injEq, Option.bind_some] at h1 h2
    obtain ⟨z, hz⟩ := Option.isSome_iff_exists.1 h2
    exact ⟨ie, z, rfl, h1, hz⟩
def hdsC (L : List Hd) : List Value := (L.map (fun h => Value.agg (hdC h).toArray)).flatMap fun v => v.cells.toList
theorem hdsC_eq (L : List Hd) : hdsC L = L.flatMap hdC := by
  unfold hdsC
  rw [List.flatMap_map]
  rfl
theorem hdsC_get : ∀ (L : List Hd) (_ : ∀ h ∈ L, h.root.length = 32) (i j : Nat) (_ : j < 33) (p : Hd) (_ : L[i]? = some p), (L.flatMap hdC)[i * 33 + j]? = (hdC p)[j]?
  | [], _, _, _, _, _, h => by simp at h
  | x :: l, hf, i, j, hj, p, hp => by
    have hx := hdC_len (hf x (by simp))
    cases i with
    | zero =>
      simp at hp; subst hp
      simp only [List.flatMap_cons, Nat.zero_mul, Nat.zero_add]
      rw [List.getElem?_append_left (by rw [hx]; exact hj)]
    | succ i =>
      simp only [List.flatMap_cons]
      rw [List.getElem?_append_right (by rw [hx]; omega), hx, show (i + 1) * 33 + j - 33 = i * 33 + j by omega]
      exact hdsC_get l (fun q hq => hf q (by simp [hq])) i j hj p (by simpa using hp)
theorem hds_sl {W : World} {g : Nat} {L : List Hd} (hL : ∀ h ∈ L, h.root.length = 32) (hb : Blk W g tHd (hdsC L).toArray) (hn : L.length ≤ 100) : HdSl W (.slice (some ⟨g, 0, none⟩) L.length L.length) L := by
  refine ⟨some ⟨g, 0, none⟩, L.length, rfl, Nat.le_refl _, by omega, fun i h hh => ⟨g, 0, rfl, hb.lt, fun j x hj => ?_⟩⟩
  have hj2 : j < 33 := by
    have := (List.getElem?_eq_some_iff.1 hj).1
    rwa [hdC_len (hL h (List.mem_of_getElem? hh))] at this
  have h1 := hdsC_get L hL i j hj2 h hh
  rw [Nat.zero_add, hb.cell, List.getElem?_toArray, hdsC_eq, h1]
  exact hj
set_option maxRecDepth 100000 in
theorem bs4_run (a b c d : Hd) (ha : a.root.length = 32) (hb : b.root.length = 32) (hc : c.root.length = 32) (hd : d.root.length = 32) (W : World) : (hdBs4 #[(0, .agg (hdC a).toArray), (1, .agg (hdC b).toArray), (2, .agg (hdC c).toArray), (3, .agg (hdC d).toArray)]).run Tryz.prog W = .ok (.slice (some ⟨W.heap.size, 0, none⟩) 4 4) (W.alloc (.cells (hdsC [a, b, c, d]).toArray 25)) := by
  obtain ⟨ie, z, hie, hsz, hz⟩ := hd_info
  exact run_buildSlice (P := Tryz.prog) W 58 25 4 #[(0, .agg (hdC a).toArray), (1, .agg (hdC b).toArray), (2, .agg (hdC c).toArray), (3, .agg (hdC d).toArray)] (hdsC [a, b, c, d]).toArray ie z Tryz.underlying58 hie hz (by rw [hsz]; omega) (by rw [hsz]; omega)
    (by rw [hsz]; exact Great.fill_whole (by omega) [Value.agg (hdC a).toArray, Value.agg (hdC b).toArray, Value.agg (hdC c).toArray, Value.agg (hdC d).toArray] _ (by intro v hv; simp only [List.mem_cons, List.not_mem_nil, or_false] at hv; rcases hv with rfl | rfl | rfl | rfl <;> (show (hdC _).toArray.size = 33; rw [List.size_toArray, hdC_len (by assumption)])) (by simp))
set_option maxRecDepth 100000 in
theorem bs2_run (a b : Hd) (ha : a.root.length = 32) (hb : b.root.length = 32) (W : World) : (hdBs2 #[(0, .agg (hdC a).toArray), (1, .agg (hdC b).toArray)]).run Tryz.prog W = .ok (.slice (some ⟨W.heap.size, 0, none⟩) 2 2) (W.alloc (.cells (hdsC [a, b]).toArray 25)) := by
  obtain ⟨ie, z, hie, hsz, hz⟩ := hd_info
  exact run_buildSlice (P := Tryz.prog) W 58 25 2 #[(0, .agg (hdC a).toArray), (1, .agg (hdC b).toArray)] (hdsC [a, b]).toArray ie z Tryz.underlying58 hie hz (by rw [hsz]; omega) (by rw [hsz]; omega)
    (by rw [hsz]; exact Great.fill_whole (by omega) [Value.agg (hdC a).toArray, Value.agg (hdC b).toArray] _ (by intro v hv; simp only [List.mem_cons, List.not_mem_nil, or_false] at hv; rcases hv with rfl | rfl <;> (show (hdC _).toArray.size = 33; rw [List.size_toArray, hdC_len (by assumption)])) (by simp))
theorem listsG_ok (mixed : Bool) : GlOk (listsG mixed) := fun l hl h hh => by
  unfold listsG at hl
  cases mixed with
  | true =>
    simp only [if_true, List.mem_cons, List.not_mem_nil, or_false] at hl
    rcases hl with rfl | rfl
    · simp only [List.mem_cons, List.not_mem_nil, or_false] at hh
      rcases hh with rfl | rfl | rfl | rfl <;> exact (headI_ok _).root
    · simp only [List.mem_cons, List.not_mem_nil, or_false] at hh
      rcases hh with rfl | rfl <;> exact (headI_ok _).root
  | false =>
    simp only [Bool.false_eq_true, if_false, List.mem_cons, List.not_mem_nil, or_false] at hl
    rcases hl with rfl | rfl
    · simp only [List.mem_cons, List.not_mem_nil, or_false] at hh
      rcases hh with rfl | rfl | rfl | rfl <;> exact (headI_ok _).root
    · simp only [List.mem_cons, List.not_mem_nil, or_false] at hh
      rcases hh with rfl | rfl | rfl | rfl <;> exact (headI_ok _).root
theorem gl_two {W : World} {g n1 n2 : Nat} {v1 v2 : Value} {l1 l2 : List Hd} (hb : Blk W g 58 #[v1, v2]) (h1 : HdSl W v1 l1) (h2 : HdSl W v2 l2) (_ : n1 = n2) : GlSl W (.slice (some ⟨g, 0, none⟩) 2 2) [l1, l2] := by
  refine ⟨some ⟨g, 0, none⟩, 2, rfl, Nat.le_refl _, by omega, fun i l hl => ?_⟩
  match i, hl with
  | 0, hl => cases hl; exact ⟨g, 0, v1, rfl, hb.cell 0, h1⟩
  | 1, hl => cases hl; exact ⟨g, 0, v2, rfl, hb.cell 1, h2⟩
attribute [local go_sem ↓ high] hdBs4_eq hdBs2_eq
set_option maxRecDepth 100000 in
set_option maxHeartbeats 4000000 in
theorem lists_any (mixed : Bool) (w : World) : Calls Tryz.prog 18 #[.bool mixed] w fun e w' => ∃ gv, e = .returned gv ∧ GlSl w' gv (listsG mixed) ∧ Only NoneOf w w' := by
  have hh : ∀ (n : Int) W, In n → Calls Tryz.prog 24 #[.int .i64 n] W fun e w' => e = .returned (.agg (hdC (headI n)).toArray) ∧ Only NoneOf W w' := fun n W hn => rhead_any n hn W
  have HH := Lib.hid hh
  have hin : ∀ n : Int, 0 ≤ n → n ≤ 7 → In n := fun n a b => ⟨by omega, by omega⟩
  have HIN := Lib.hid hin
  clear hh hin
  obtain ⟨h0, e0⟩ : ∃ h, h = headI 0 := ⟨_, rfl⟩
  obtain ⟨h1, e1⟩ : ∃ h, h = headI 1 := ⟨_, rfl⟩
  obtain ⟨h2, e2⟩ : ∃ h, h = headI 2 := ⟨_, rfl⟩
  obtain ⟨h3, e3⟩ : ∃ h, h = headI 3 := ⟨_, rfl⟩
  obtain ⟨h4, e4⟩ : ∃ h, h = headI 4 := ⟨_, rfl⟩
  obtain ⟨h5, e5⟩ : ∃ h, h = headI 5 := ⟨_, rfl⟩
  obtain ⟨h6, e6⟩ : ∃ h, h = headI 6 := ⟨_, rfl⟩
  obtain ⟨h7, e7⟩ : ∃ h, h = headI 7 := ⟨_, rfl⟩
  have l0 : h0.root.length = 32 := by rw [e0]; exact (headI_ok _).root
  have l1 : h1.root.length = 32 := by rw [e1]; exact (headI_ok _).root
  have l2 : h2.root.length = 32 := by rw [e2]; exact (headI_ok _).root
  have l3 : h3.root.length = 32 := by rw [e3]; exact (headI_ok _).root
  have l4 : h4.root.length = 32 := by rw [e4]; exact (headI_ok _).root
  have l5 : h5.root.length = 32 := by rw [e5]; exact (headI_ok _).root
  have l6 : h6.root.length = 32 := by rw [e6]; exact (headI_ok _).root
  have l7 : h7.root.length = 32 := by rw [e7]; exact (headI_ok _).root
  have c0 := Lib.hid fun W => (e0.symm ▸ HH.out 0 W (HIN.out 0 (by omega) (by omega)) : Calls Tryz.prog 24 #[.int .i64 0] W fun e w' => e = .returned (.agg (hdC h0).toArray) ∧ Only NoneOf W w')
  have c1 := Lib.hid fun W => (e1.symm ▸ HH.out 1 W (HIN.out 1 (by omega) (by omega)) : Calls Tryz.prog 24 #[.int .i64 1] W fun e w' => e = .returned (.agg (hdC h1).toArray) ∧ Only NoneOf W w')
  have c2 := Lib.hid fun W => (e2.symm ▸ HH.out 2 W (HIN.out 2 (by omega) (by omega)) : Calls Tryz.prog 24 #[.int .i64 2] W fun e w' => e = .returned (.agg (hdC h2).toArray) ∧ Only NoneOf W w')
  have c3 := Lib.hid fun W => (e3.symm ▸ HH.out 3 W (HIN.out 3 (by omega) (by omega)) : Calls Tryz.prog 24 #[.int .i64 3] W fun e w' => e = .returned (.agg (hdC h3).toArray) ∧ Only NoneOf W w')
  have c4 := Lib.hid fun W => (e4.symm ▸ HH.out 4 W (HIN.out 4 (by omega) (by omega)) : Calls Tryz.prog 24 #[.int .i64 4] W fun e w' => e = .returned (.agg (hdC h4).toArray) ∧ Only NoneOf W w')
  have c5 := Lib.hid fun W => (e5.symm ▸ HH.out 5 W (HIN.out 5 (by omega) (by omega)) : Calls Tryz.prog 24 #[.int .i64 5] W fun e w' => e = .returned (.agg (hdC h5).toArray) ∧ Only NoneOf W w')
  have c6 := Lib.hid fun W => (e6.symm ▸ HH.out 6 W (HIN.out 6 (by omega) (by omega)) : Calls Tryz.prog 24 #[.int .i64 6] W fun e w' => e = .returned (.agg (hdC h6).toArray) ∧ Only NoneOf W w')
  have c7 := Lib.hid fun W => (e7.symm ▸ HH.out 7 W (HIN.out 7 (by omega) (by omega)) : Calls Tryz.prog 24 #[.int .i64 7] W fun e w' => e = .returned (.agg (hdC h7).toArray) ∧ Only NoneOf W w')
  cases mixed with
  | true =>
    have hG : listsG true = [[h0, h3, h4, h7], [h1, h3]] := by rw [e0, e1, e3, e4, e7]; rfl
    have HG := Lib.hid hG
    have b4 := bs4_run h0 h3 h4 h7 l0 l3 l4 l7
    have b2 := bs2_run h1 h3 l1 l3
    clear hG e0 e1 e2 e3 e4 e5 e6 e7
    go_enter Tryz.func18, Tryz.ntmps18
    go_wp2_with fail
    refine (c0.out _).mono ?_; rintro _ w0 ⟨rfl, o0⟩
    go_wp2_with fail
    refine (c3.out _).mono ?_; rintro _ w1 ⟨rfl, o1⟩
    go_wp2_with fail
    refine (c4.out _).mono ?_; rintro _ w2 ⟨rfl, o2⟩
    go_wp2_with fail
    refine (c7.out _).mono ?_; rintro _ w3 ⟨rfl, o3⟩
    have ha := Lib.hid (((o0.trans o1).trans o2).trans o3)
    clear o0 o1 o2 o3
    obtain ⟨N, eN⟩ : ∃ N, N = w3.heap.size := ⟨_, rfl⟩
    have hs1 : HdSl (w3.alloc (.cells (hdsC [h0, h3, h4, h7]).toArray 25)) (.slice (some ⟨N, 0, none⟩) 4 4) [h0, h3, h4, h7] := hds_sl (L := [h0, h3, h4, h7]) (by intro h hh; simp only [List.mem_cons, List.not_mem_nil, or_false] at hh; rcases hh with rfl | rfl | rfl | rfl <;> assumption) (by rw [eN]; exact Blk.new _ _ _) (by simp)
    have HS1 := Lib.hid hs1
    have EN := Lib.hid eN
    clear hs1 eN
    go_wp2_with fail
    rw [← EN.out]
    refine (c1.out _).mono ?_; rintro _ w4 ⟨rfl, o4⟩
    go_wp2_with fail
    refine (c3.out _).mono ?_; rintro _ w5 ⟨rfl, o5⟩
    have HO5 := Lib.hid (o4.trans o5)
    have HS5 := Lib.hid (HS1.out.only (o4.trans o5))
    obtain ⟨M, eM⟩ : ∃ M, M = w5.heap.size := ⟨_, rfl⟩
    have hs2 : HdSl (w5.alloc (.cells (hdsC [h1, h3]).toArray 25)) (.slice (some ⟨M, 0, none⟩) 2 2) [h1, h3] := hds_sl (L := [h1, h3]) (by intro h hh; simp only [List.mem_cons, List.not_mem_nil, or_false] at hh; rcases hh with rfl | rfl <;> assumption) (by rw [eM]; exact Blk.new _ _ _) (by simp)
    have hfin : GlSl ((w5.alloc (.cells (hdsC [h1, h3]).toArray 25)).alloc (.cells #[.slice (some ⟨N, 0, none⟩) 4 4, .slice (some ⟨M, 0, none⟩) 2 2] 58)) (.slice (some ⟨M + 1, 0, none⟩) 2 2) [[h0, h3, h4, h7], [h1, h3]] := by
      have hb := Blk.new (w5.alloc (.cells (hdsC [h1, h3]).toArray 25)) 58 #[.slice (some ⟨N, 0, none⟩) 4 4, .slice (some ⟨M, 0, none⟩) 2 2]
      rw [World.size_alloc, ← eM] at hb
      exact gl_two hb (HS5.out.only (((Only.refl _ _).alloc _).alloc _)) (hs2.only ((Only.refl _ _).alloc _)) (rfl : 0 = 0)
    have HFIN := Lib.hid hfin
    have EM := Lib.hid eM
    have HO9 : Hid (∀ o o', Only NoneOf w ((w5.alloc o).alloc o')) := Lib.hid (fun o o' => ((ha.out.trans (((Only.refl _ _).alloc _).trans HO5.out)).alloc _).alloc _)
    clear hs2 hfin eM o4 o5 HS1 HS5 HO5
    go_wp2_with fail
    rw [← EM.out]
    go_ret
    exact ⟨_, rfl, by rw [HG.out]; exact HFIN.out, HO9.out _ _⟩
  | false =>
    have hG : listsG false = [[h0, h2, h4, h6], [h1, h3, h5, h7]] := by rw [e0, e1, e2, e3, e4, e5, e6, e7]; rfl
    have HG := Lib.hid hG
    have b4 := bs4_run h0 h2 h4 h6 l0 l2 l4 l6
    have b2 := bs4_run h1 h3 h5 h7 l1 l3 l5 l7
    clear hG e0 e1 e2 e3 e4 e5 e6 e7
    go_enter Tryz.func18, Tryz.ntmps18
    go_wp2_with fail
    refine (c0.out _).mono ?_; rintro _ w0 ⟨rfl, o0⟩
    go_wp2_with fail
    refine (c2.out _).mono ?_; rintro _ w1 ⟨rfl, o1⟩
    go_wp2_with fail
    refine (c4.out _).mono ?_; rintro _ w2 ⟨rfl, o2⟩
    go_wp2_with fail
    refine (c6.out _).mono ?_; rintro _ w3 ⟨rfl, o3⟩
    have ha := Lib.hid (((o0.trans o1).trans o2).trans o3)
    clear o0 o1 o2 o3
    obtain ⟨N, eN⟩ : ∃ N, N = w3.heap.size := ⟨_, rfl⟩
    have hs1 : HdSl (w3.alloc (.cells (hdsC [h0, h2, h4, h6]).toArray 25)) (.slice (some ⟨N, 0, none⟩) 4 4) [h0, h2, h4, h6] := hds_sl (L := [h0, h2, h4, h6]) (by intro h hh; simp only [List.mem_cons, List.not_mem_nil, or_false] at hh; rcases hh with rfl | rfl | rfl | rfl <;> assumption) (by rw [eN]; exact Blk.new _ _ _) (by simp)
    have HS1 := Lib.hid hs1
    have EN := Lib.hid eN
    clear hs1 eN
    go_wp2_with fail
    rw [← EN.out]
    refine (c1.out _).mono ?_; rintro _ w4 ⟨rfl, o4⟩
    go_wp2_with fail
    refine (c3.out _).mono ?_; rintro _ w5 ⟨rfl, o5⟩
    go_wp2_with fail
    refine (c5.out _).mono ?_; rintro _ w6 ⟨rfl, o6⟩
    go_wp2_with fail
    refine (c7.out _).mono ?_; rintro _ w7 ⟨rfl, o7⟩
    have o47 := ((o4.trans o5).trans o6).trans o7
    have HO5 := Lib.hid o47
    have HS5 := Lib.hid (HS1.out.only o47)
    obtain ⟨M, eM⟩ : ∃ M, M = w7.heap.size := ⟨_, rfl⟩
    have hs2 : HdSl (w7.alloc (.cells (hdsC [h1, h3, h5, h7]).toArray 25)) (.slice (some ⟨M, 0, none⟩) 4 4) [h1, h3, h5, h7] := hds_sl (L := [h1, h3, h5, h7]) (by intro h hh; simp only [List.mem_cons, List.not_mem_nil, or_false] at hh; rcases hh with rfl | rfl | rfl | rfl <;> assumption) (by rw [eM]; exact Blk.new _ _ _) (by simp)
    have hfin : GlSl ((w7.alloc (.cells (hdsC [h1, h3, h5, h7]).toArray 25)).alloc (.cells #[.slice (some ⟨N, 0, none⟩) 4 4, .slice (some ⟨M, 0, none⟩) 4 4] 58)) (.slice (some ⟨M + 1, 0, none⟩) 2 2) [[h0, h2, h4, h6], [h1, h3, h5, h7]] := by
      have hb := Blk.new (w7.alloc (.cells (hdsC [h1, h3, h5, h7]).toArray 25)) 58 #[.slice (some ⟨N, 0, none⟩) 4 4, .slice (some ⟨M, 0, none⟩) 4 4]
      rw [World.size_alloc, ← eM] at hb
      exact gl_two hb (HS5.out.only (((Only.refl _ _).alloc _).alloc _)) (hs2.only ((Only.refl _ _).alloc _)) (rfl : 0 = 0)
    have HFIN := Lib.hid hfin
    have EM := Lib.hid eM
    have HO9 : Hid (∀ o o', Only NoneOf w ((w7.alloc o).alloc o')) := Lib.hid (fun o o' => ((ha.out.trans (((Only.refl _ _).alloc _).trans HO5.out)).alloc _).alloc _)
    clear hs2 hfin eM o4 o5 o6 o7 o47 HS1 HS5 HO5
    go_wp2_with fail
    rw [← EM.out]
    go_ret
    exact ⟨_, rfl, by rw [HG.out]; exact HFIN.out, HO9.out _ _⟩
end Go.Proofs.YtoehfainhmfghaaGreatDoor
