/- What is proved here: the reference changes one thing of an event. Conditions: name and text are short. -/
import Derived.Test.YtclpebgjmgfigaaGreatDoorEvK
import Derived.Test.YtclpebgjmgfigaaGreatDoorBentL
namespace Go.Proofs.YtclpebgjmgfigaaGreatDoor
open Go.RowKit Go.Shelf
attribute [local go_sem ↓ high] evStore_eq evLoad_eq
theorem rmod_any (n m : Int) (_hn : In n) (hm : 0 < m) (hm2 : m ≤ 1000000) (w : World) : Calls Tryz.prog 46 #[.int .i64 n, .int .i64 m] w fun e w' => e = .returned (.int .i64 (n % m)) ∧ w' = w := by
  obtain ⟨r, er⟩ : ∃ r, r = n.tmod m := ⟨_, rfl⟩
  have hr1 : -m < r ∧ r < m := by
    rw [er]; exact ⟨Int.lt_tmod_of_pos n hm, Int.tmod_lt_of_pos n hm⟩
  have hr2 : n % m = if r < 0 then r + m else r := by
    rw [er, Int.tmod_eq_emod]
    have := Int.emod_nonneg n (show m ≠ 0 by omega)
    have := Int.emod_lt_of_pos n hm
    have hab : (m.natAbs : Int) = m := by omega
    split <;> split <;> omega
  have hr3 : (r + m).tmod m = n % m := by
    rw [Int.tmod_eq_emod_of_nonneg (by omega), hr2]
    split
    · exact Int.emod_eq_of_lt (by omega) (by omega)
    · rw [Int.add_emod_right]; exact Int.emod_eq_of_lt (by omega) (by omega)
  have hr4 : 0 ≤ n % m ∧ n % m < m := ⟨Int.emod_nonneg n (by omega), Int.emod_lt_of_pos n hm⟩
  obtain ⟨g, eg⟩ : ∃ g, g = n % m := ⟨_, rfl⟩
  rw [← eg] at hr3 hr4 ⊢
  have e1 : IntKind.i64.wrap (n.tmod m) = r := by rw [← er]; exact IntWalk.i64_in _ (by omega)
  have e2 : IntKind.i64.wrap (r + m) = r + m := IntWalk.i64_in _ (by omega)
  have e3 : IntKind.i64.wrap ((r + m).tmod m) = g := by rw [hr3]; exact IntWalk.i64_in _ (by omega)
  have e4 : IntKind.i64.wrap r = r := IntWalk.i64_in _ (by omega)
  have e5 : IntKind.i64.wrap g = g := IntWalk.i64_in _ (by omega)
  have e0 : ¬ m = 0 := by omega
  have er' := er.symm
  clear eg er hr2 hr1 hr4 hm hm2
  go_enter Tryz.func46, Tryz.ntmps46
  go_wp2_with fail
  exact ⟨rfl, _, results_tmp rfl _ _ _, rfl, rfl⟩
theorem modify_set {l : List UInt8} {j : Nat} {y : UInt8} (h : l[j]? = some y) : l.set j (y ^^^ 1) = l.modify j (· ^^^ 1) := List.ext_getElem? fun i => by
  rw [List.getElem?_set, List.getElem?_modify]
  by_cases e : j = i
  · subst e
    rw [if_pos rfl, h, if_pos (List.getElem?_eq_some_iff.1 h).1]
    simp
  · rw [if_neg e]
    cases l[i]? <;> simp [e]
theorem ev_set {W : World} {B : Nat} {e f : Ev} {i : Nat} {v : Value} (h : EvAt W B e) (hs : (evC e).set i v = evC f) : EvAt (W.setCell ⟨B, i, none⟩ v) B f := by
  have h1 := Blk.set_ h i v
  rw [List.setIfInBounds_toArray, hs] at h1
  exact h1
theorem set_hash (e : Ev) (l : List UInt8) (j : Nat) (y : UInt8) (hj : j < e.prev.length) (hl : e.prev.set j y = l) : (evC e).set (12 + j) (bv y) = evC { e with prev := l } := by
  subst hl
  unfold evC
  rw [List.set_append_right _ _ (by simp)]
  simp only [List.length_cons, List.length_nil]
  rw [show 12 + j - (0 + 1 + 1 + 1 + 1 + 1 + 1 + 1 + 1 + 1 + 1 + 1 + 1) = j by omega, List.set_append_left _ _ (by simpa using hj), List.map_set]
theorem set_sig (e : Ev) (hp : e.prev.length = 32) (v : Int) : (evC e).set 44 (.int .i64 v) = evC { e with r := v } ∧ (evC e).set 45 (.int .i64 v) = evC { e with s := v } := by
  unfold evC
  constructor
  · rw [List.set_append_right _ _ (by simp)]
    simp only [List.length_cons, List.length_nil]
    rw [List.set_append_right _ _ (by simp [hp])]
    simp [hp]
  · rw [List.set_append_right _ _ (by simp)]
    simp only [List.length_cons, List.length_nil]
    rw [List.set_append_right _ _ (by simp [hp])]
    simp [hp]
set_option maxRecDepth 100000 in
set_option maxHeartbeats 4000000 in
theorem rbent_any (e : Ev) (he : e.Ok) (hn : e.name.size ≤ 8796093022208) (hx : e.text.size ≤ 8796093022208) (a n : Int) (ia : In a) (im : In n) (w : World) : Calls Tryz.prog 22 #[.agg (evC e).toArray, .agg #[.int .i64 a, .int .i64 n]] w fun e' w' => e' = .returned (.agg (evC (bentE e a n)).toArray) ∧ Only NoneOf w w' := by
  have hY : EvAt (((w.alloc (.cells (evC e).toArray tEv)).alloc (.cells #[.int .i64 a, .int .i64 n] 48)).alloc (.cells (evC blank0).toArray tEv)) w.heap.size e ∧ Blk (((w.alloc (.cells (evC e).toArray tEv)).alloc (.cells #[.int .i64 a, .int .i64 n] 48)).alloc (.cells (evC blank0).toArray tEv)) (w.heap.size + 1) 48 #[.int .i64 a, .int .i64 n] ∧ EvAt (((w.alloc (.cells (evC e).toArray tEv)).alloc (.cells #[.int .i64 a, .int .i64 n] 48)).alloc (.cells (evC blank0).toArray tEv)) (w.heap.size + 2) blank0 ∧ Only NoneOf w (((w.alloc (.cells (evC e).toArray tEv)).alloc (.cells #[.int .i64 a, .int .i64 n] 48)).alloc (.cells (evC blank0).toArray tEv)) := by
    have h2 := Blk.new (w.alloc (.cells (evC e).toArray tEv)) 48 #[.int .i64 a, .int .i64 n]
    have h3 := Blk.new ((w.alloc (.cells (evC e).toArray tEv)).alloc (.cells #[.int .i64 a, .int .i64 n] 48)) tEv (evC blank0).toArray
    rw [World.size_alloc] at h2
    rw [World.size_alloc, World.size_alloc] at h3
    exact ⟨((Blk.new w tEv (evC e).toArray).alloc _).alloc _, h2.alloc _, h3, (((Only.refl _ _).alloc _).alloc _).alloc _⟩
  obtain ⟨B, eB⟩ : ∃ B, B = w.heap.size := ⟨_, rfl⟩
  have hp := he.prev
  have HY := Lib.hid hY
  have HP := Lib.hid hp
  have HIA := Lib.hid ia
  have HIM := Lib.hid im
  have hinf : (Tryz.prog.info? 29).map (·.size) = some (evC (bentE e a n)).toArray.size := by rw [List.size_toArray, evC_len (bentE_ok he a n).prev]; kernel_rfl
  have HINF := Lib.hid hinf
  have HBP := Lib.hid (bentE_ok he a n).prev
  have s1 : e.name.size + 1 ≤ 9223372036854775807 := by omega
  have s2 : 2 + e.text.size ≤ 9223372036854775807 := by omega
  have HXX := Lib.hid (And.intro hn hx)
  clear hY hp he hn hx ia im hinf
  go_enter Tryz.func22, Tryz.ntmps22
  go_upto_region 1 with (fail)
  refine wp_gen (fun Y => EvAt Y w.heap.size e ∧ Blk Y (w.heap.size + 1) 48 #[.int .i64 a, .int .i64 n] ∧ EvAt Y (w.heap.size + 2) blank0 ∧ Only NoneOf w Y) HY.out ?_
  rintro Y ⟨hE, hQ, hZ, hO⟩
  rw [← eB] at hE hQ hZ ⊢
  have hwB : w.heap.size ≤ B := by omega
  have q0 := hQ.cell 0
  have q1 := hQ.cell 1
  simp only [List.getElem?_toArray, List.getElem?_cons_zero, List.getElem?_cons_succ] at q0 q1
  have HE := Lib.hid hE
  have HZ := Lib.hid hZ
  have HO := Lib.hid hO
  clear hE hQ hZ hO HY eB
  go_wp2_with fail
  refine (rmod_any a 16 HIA.out (by omega) (by omega) _).mono ?_
  rintro e1 Y ⟨rfl, rfl⟩
  clear q0 q1
  have hm : a % 16 = 0 ∨ a % 16 = 1 ∨ a % 16 = 2 ∨ a % 16 = 3 ∨ a % 16 = 4 ∨ a % 16 = 5 ∨ a % 16 = 6 ∨ a % 16 = 7 ∨ a % 16 = 8 ∨ a % 16 = 9 ∨ a % 16 = 10 ∨ a % 16 = 11 ∨ a % 16 = 12 ∨ a % 16 = 13 ∨ a % 16 = 14 ∨ a % 16 = 15 := by omega
  rcases hm with h | h | h | h | h | h | h | h | h | h | h | h | h | h | h | h
  · rw [h]
    obtain ⟨z, ez⟩ : ∃ z, IntKind.i64.wrap (e.seq + n) = z := ⟨_, rfl⟩
    have hb : bentE e a n = { e with seq := z } := by unfold bentE; rw [h, ← ez]; rfl
    have c0 : Y.cell? ⟨B, 0, none⟩ = some (.int .i64 e.seq) := ev_cell HE.out 0
    have f0 := Blk.frozen HE.out 0
    have hE2 := (show EvAt (Y.setCell ⟨B, 0, none⟩ (.int .i64 z)) B (bentE e a n) by rw [hb]; exact ev_set HE.out rfl)
    have hZ2 := Blk.far (p := ⟨B, 0, none⟩) HZ.out (show B + 2 ≠ B by omega) (.int .i64 z)
    have hO2 := HO.out.setCell (p := ⟨B, 0, none⟩) (.inr hwB) (.int .i64 z)
    have hl := ev_load hE2 HBP.out
    have hst := ev_store (cs := evC blank0) hZ2 rfl (e := bentE e a n) HBP.out
    have HZ2 := Lib.hid (setCells_own hZ2 (ds := evC (bentE e a n)) (by rw [evC_len HBP.out]; rfl))
    have HO2 := Lib.hid (only_setCells hO2 (B + 2) 0 (.inr (by omega)) (evC (bentE e a n)))
    clear hE2 hZ2 hO2 hb h
    go_wp2_with fail
    refine bodyPost_ret (v := .agg (evC (bentE e a n)).toArray) (results_blk rfl rfl HZ2.out Tryz.underlying29 rfl HINF.out) rfl ⟨rfl, HO2.out⟩
  · rw [h]
    obtain ⟨z, ez⟩ : ∃ z, IntKind.i64.wrap (e.kind + n) = z := ⟨_, rfl⟩
    have hb : bentE e a n = { e with kind := z } := by unfold bentE; rw [h, ← ez]; rfl
    have c0 : Y.cell? ⟨B, 1, none⟩ = some (.int .i64 e.kind) := ev_cell HE.out 1
    have f0 := Blk.frozen HE.out 1
    have hE2 := (show EvAt (Y.setCell ⟨B, 1, none⟩ (.int .i64 z)) B (bentE e a n) by rw [hb]; exact ev_set HE.out rfl)
    have hZ2 := Blk.far (p := ⟨B, 1, none⟩) HZ.out (show B + 2 ≠ B by omega) (.int .i64 z)
    have hO2 := HO.out.setCell (p := ⟨B, 1, none⟩) (.inr hwB) (.int .i64 z)
    have hl := ev_load hE2 HBP.out
    have hst := ev_store (cs := evC blank0) hZ2 rfl (e := bentE e a n) HBP.out
    have HZ2 := Lib.hid (setCells_own hZ2 (ds := evC (bentE e a n)) (by rw [evC_len HBP.out]; rfl))
    have HO2 := Lib.hid (only_setCells hO2 (B + 2) 0 (.inr (by omega)) (evC (bentE e a n)))
    clear hE2 hZ2 hO2 hb h
    go_wp2_with fail
    refine bodyPost_ret (v := .agg (evC (bentE e a n)).toArray) (results_blk rfl rfl HZ2.out Tryz.underlying29 rfl HINF.out) rfl ⟨rfl, HO2.out⟩
  · rw [h]
    obtain ⟨z, ez⟩ : ∃ z, IntKind.i64.wrap (e.who + n) = z := ⟨_, rfl⟩
    have hb : bentE e a n = { e with who := z } := by unfold bentE; rw [h, ← ez]; rfl
    have c0 : Y.cell? ⟨B, 2, none⟩ = some (.int .i64 e.who) := ev_cell HE.out 2
    have f0 := Blk.frozen HE.out 2
    have hE2 := (show EvAt (Y.setCell ⟨B, 2, none⟩ (.int .i64 z)) B (bentE e a n) by rw [hb]; exact ev_set HE.out rfl)
    have hZ2 := Blk.far (p := ⟨B, 2, none⟩) HZ.out (show B + 2 ≠ B by omega) (.int .i64 z)
    have hO2 := HO.out.setCell (p := ⟨B, 2, none⟩) (.inr hwB) (.int .i64 z)
    have hl := ev_load hE2 HBP.out
    have hst := ev_store (cs := evC blank0) hZ2 rfl (e := bentE e a n) HBP.out
    have HZ2 := Lib.hid (setCells_own hZ2 (ds := evC (bentE e a n)) (by rw [evC_len HBP.out]; rfl))
    have HO2 := Lib.hid (only_setCells hO2 (B + 2) 0 (.inr (by omega)) (evC (bentE e a n)))
    clear hE2 hZ2 hO2 hb h
    go_wp2_with fail
    refine bodyPost_ret (v := .agg (evC (bentE e a n)).toArray) (results_blk rfl rfl HZ2.out Tryz.underlying29 rfl HINF.out) rfl ⟨rfl, HO2.out⟩
  · rw [h]
    obtain ⟨z, ez⟩ : ∃ z, IntKind.i64.wrap (e.time + n) = z := ⟨_, rfl⟩
    have hb : bentE e a n = { e with time := z } := by unfold bentE; rw [h, ← ez]; rfl
    have c0 : Y.cell? ⟨B, 3, none⟩ = some (.int .i64 e.time) := ev_cell HE.out 3
    have f0 := Blk.frozen HE.out 3
    have hE2 := (show EvAt (Y.setCell ⟨B, 3, none⟩ (.int .i64 z)) B (bentE e a n) by rw [hb]; exact ev_set HE.out rfl)
    have hZ2 := Blk.far (p := ⟨B, 3, none⟩) HZ.out (show B + 2 ≠ B by omega) (.int .i64 z)
    have hO2 := HO.out.setCell (p := ⟨B, 3, none⟩) (.inr hwB) (.int .i64 z)
    have hl := ev_load hE2 HBP.out
    have hst := ev_store (cs := evC blank0) hZ2 rfl (e := bentE e a n) HBP.out
    have HZ2 := Lib.hid (setCells_own hZ2 (ds := evC (bentE e a n)) (by rw [evC_len HBP.out]; rfl))
    have HO2 := Lib.hid (only_setCells hO2 (B + 2) 0 (.inr (by omega)) (evC (bentE e a n)))
    clear hE2 hZ2 hO2 hb h
    go_wp2_with fail
    refine bodyPost_ret (v := .agg (evC (bentE e a n)).toArray) (results_blk rfl rfl HZ2.out Tryz.underlying29 rfl HINF.out) rfl ⟨rfl, HO2.out⟩
  · rw [h]
    obtain ⟨z, ez⟩ : ∃ z, IntKind.i64.wrap (e.bidder + n) = z := ⟨_, rfl⟩
    have hb : bentE e a n = { e with bidder := z } := by unfold bentE; rw [h, ← ez]; rfl
    have c0 : Y.cell? ⟨B, 4, none⟩ = some (.int .i64 e.bidder) := ev_cell HE.out 4
    have f0 := Blk.frozen HE.out 4
    have hE2 := (show EvAt (Y.setCell ⟨B, 4, none⟩ (.int .i64 z)) B (bentE e a n) by rw [hb]; exact ev_set HE.out rfl)
    have hZ2 := Blk.far (p := ⟨B, 4, none⟩) HZ.out (show B + 2 ≠ B by omega) (.int .i64 z)
    have hO2 := HO.out.setCell (p := ⟨B, 4, none⟩) (.inr hwB) (.int .i64 z)
    have hl := ev_load hE2 HBP.out
    have hst := ev_store (cs := evC blank0) hZ2 rfl (e := bentE e a n) HBP.out
    have HZ2 := Lib.hid (setCells_own hZ2 (ds := evC (bentE e a n)) (by rw [evC_len HBP.out]; rfl))
    have HO2 := Lib.hid (only_setCells hO2 (B + 2) 0 (.inr (by omega)) (evC (bentE e a n)))
    clear hE2 hZ2 hO2 hb h
    go_wp2_with fail
    refine bodyPost_ret (v := .agg (evC (bentE e a n)).toArray) (results_blk rfl rfl HZ2.out Tryz.underlying29 rfl HINF.out) rfl ⟨rfl, HO2.out⟩
  · rw [h]
    obtain ⟨z, ez⟩ : ∃ z, IntKind.i64.wrap (e.lot + n) = z := ⟨_, rfl⟩
    have hb : bentE e a n = { e with lot := z } := by unfold bentE; rw [h, ← ez]; rfl
    have c0 : Y.cell? ⟨B, 5, none⟩ = some (.int .i64 e.lot) := ev_cell HE.out 5
    have f0 := Blk.frozen HE.out 5
    have hE2 := (show EvAt (Y.setCell ⟨B, 5, none⟩ (.int .i64 z)) B (bentE e a n) by rw [hb]; exact ev_set HE.out rfl)
    have hZ2 := Blk.far (p := ⟨B, 5, none⟩) HZ.out (show B + 2 ≠ B by omega) (.int .i64 z)
    have hO2 := HO.out.setCell (p := ⟨B, 5, none⟩) (.inr hwB) (.int .i64 z)
    have hl := ev_load hE2 HBP.out
    have hst := ev_store (cs := evC blank0) hZ2 rfl (e := bentE e a n) HBP.out
    have HZ2 := Lib.hid (setCells_own hZ2 (ds := evC (bentE e a n)) (by rw [evC_len HBP.out]; rfl))
    have HO2 := Lib.hid (only_setCells hO2 (B + 2) 0 (.inr (by omega)) (evC (bentE e a n)))
    clear hE2 hZ2 hO2 hb h
    go_wp2_with fail
    refine bodyPost_ret (v := .agg (evC (bentE e a n)).toArray) (results_blk rfl rfl HZ2.out Tryz.underlying29 rfl HINF.out) rfl ⟨rfl, HO2.out⟩
  · rw [h]
    obtain ⟨z, ez⟩ : ∃ z, IntKind.i64.wrap (e.n + n) = z := ⟨_, rfl⟩
    have hb : bentE e a n = { e with n := z } := by unfold bentE; rw [h, ← ez]; rfl
    have c0 : Y.cell? ⟨B, 6, none⟩ = some (.int .i64 e.n) := ev_cell HE.out 6
    have f0 := Blk.frozen HE.out 6
    have hE2 := (show EvAt (Y.setCell ⟨B, 6, none⟩ (.int .i64 z)) B (bentE e a n) by rw [hb]; exact ev_set HE.out rfl)
    have hZ2 := Blk.far (p := ⟨B, 6, none⟩) HZ.out (show B + 2 ≠ B by omega) (.int .i64 z)
    have hO2 := HO.out.setCell (p := ⟨B, 6, none⟩) (.inr hwB) (.int .i64 z)
    have hl := ev_load hE2 HBP.out
    have hst := ev_store (cs := evC blank0) hZ2 rfl (e := bentE e a n) HBP.out
    have HZ2 := Lib.hid (setCells_own hZ2 (ds := evC (bentE e a n)) (by rw [evC_len HBP.out]; rfl))
    have HO2 := Lib.hid (only_setCells hO2 (B + 2) 0 (.inr (by omega)) (evC (bentE e a n)))
    clear hE2 hZ2 hO2 hb h
    go_wp2_with fail
    refine bodyPost_ret (v := .agg (evC (bentE e a n)).toArray) (results_blk rfl rfl HZ2.out Tryz.underlying29 rfl HINF.out) rfl ⟨rfl, HO2.out⟩
  · rw [h]
    obtain ⟨z, ez⟩ : ∃ z, IntKind.i64.wrap (e.other + n) = z := ⟨_, rfl⟩
    have hb : bentE e a n = { e with other := z } := by unfold bentE; rw [h, ← ez]; rfl
    have c0 : Y.cell? ⟨B, 7, none⟩ = some (.int .i64 e.other) := ev_cell HE.out 7
    have f0 := Blk.frozen HE.out 7
    have hE2 := (show EvAt (Y.setCell ⟨B, 7, none⟩ (.int .i64 z)) B (bentE e a n) by rw [hb]; exact ev_set HE.out rfl)
    have hZ2 := Blk.far (p := ⟨B, 7, none⟩) HZ.out (show B + 2 ≠ B by omega) (.int .i64 z)
    have hO2 := HO.out.setCell (p := ⟨B, 7, none⟩) (.inr hwB) (.int .i64 z)
    have hl := ev_load hE2 HBP.out
    have hst := ev_store (cs := evC blank0) hZ2 rfl (e := bentE e a n) HBP.out
    have HZ2 := Lib.hid (setCells_own hZ2 (ds := evC (bentE e a n)) (by rw [evC_len HBP.out]; rfl))
    have HO2 := Lib.hid (only_setCells hO2 (B + 2) 0 (.inr (by omega)) (evC (bentE e a n)))
    clear hE2 hZ2 hO2 hb h
    go_wp2_with fail
    refine bodyPost_ret (v := .agg (evC (bentE e a n)).toArray) (results_blk rfl rfl HZ2.out Tryz.underlying29 rfl HINF.out) rfl ⟨rfl, HO2.out⟩
  · rw [h]
    obtain ⟨z, ez⟩ : ∃ z, IntKind.i64.wrap (e.sx + n) = z := ⟨_, rfl⟩
    have hb : bentE e a n = { e with sx := z } := by unfold bentE; rw [h, ← ez]; rfl
    have c0 : Y.cell? ⟨B, 10, none⟩ = some (.int .i64 e.sx) := ev_cell HE.out 10
    have f0 := Blk.frozen HE.out 10
    have hE2 := (show EvAt (Y.setCell ⟨B, 10, none⟩ (.int .i64 z)) B (bentE e a n) by rw [hb]; exact ev_set HE.out rfl)
    have hZ2 := Blk.far (p := ⟨B, 10, none⟩) HZ.out (show B + 2 ≠ B by omega) (.int .i64 z)
    have hO2 := HO.out.setCell (p := ⟨B, 10, none⟩) (.inr hwB) (.int .i64 z)
    have hl := ev_load hE2 HBP.out
    have hst := ev_store (cs := evC blank0) hZ2 rfl (e := bentE e a n) HBP.out
    have HZ2 := Lib.hid (setCells_own hZ2 (ds := evC (bentE e a n)) (by rw [evC_len HBP.out]; rfl))
    have HO2 := Lib.hid (only_setCells hO2 (B + 2) 0 (.inr (by omega)) (evC (bentE e a n)))
    clear hE2 hZ2 hO2 hb h
    go_wp2_with fail
    refine bodyPost_ret (v := .agg (evC (bentE e a n)).toArray) (results_blk rfl rfl HZ2.out Tryz.underlying29 rfl HINF.out) rfl ⟨rfl, HO2.out⟩
  · rw [h]
    obtain ⟨z, ez⟩ : ∃ z, IntKind.i64.wrap (e.sy + n) = z := ⟨_, rfl⟩
    have hb : bentE e a n = { e with sy := z } := by unfold bentE; rw [h, ← ez]; rfl
    have c0 : Y.cell? ⟨B, 11, none⟩ = some (.int .i64 e.sy) := ev_cell HE.out 11
    have f0 := Blk.frozen HE.out 11
    have hE2 := (show EvAt (Y.setCell ⟨B, 11, none⟩ (.int .i64 z)) B (bentE e a n) by rw [hb]; exact ev_set HE.out rfl)
    have hZ2 := Blk.far (p := ⟨B, 11, none⟩) HZ.out (show B + 2 ≠ B by omega) (.int .i64 z)
    have hO2 := HO.out.setCell (p := ⟨B, 11, none⟩) (.inr hwB) (.int .i64 z)
    have hl := ev_load hE2 HBP.out
    have hst := ev_store (cs := evC blank0) hZ2 rfl (e := bentE e a n) HBP.out
    have HZ2 := Lib.hid (setCells_own hZ2 (ds := evC (bentE e a n)) (by rw [evC_len HBP.out]; rfl))
    have HO2 := Lib.hid (only_setCells hO2 (B + 2) 0 (.inr (by omega)) (evC (bentE e a n)))
    clear hE2 hZ2 hO2 hb h
    go_wp2_with fail
    refine bodyPost_ret (v := .agg (evC (bentE e a n)).toArray) (results_blk rfl rfl HZ2.out Tryz.underlying29 rfl HINF.out) rfl ⟨rfl, HO2.out⟩
  · rw [h]
    have hb : bentE e a n = { e with prev := e.prev.modify (n % 32).toNat (· ^^^ 1) } := by unfold bentE; rw [h]; rfl
    go_wp2_with fail
    refine (rmod_any n 32 HIM.out (by omega) (by omega) _).mono ?_
    rintro e1 Y ⟨rfl, rfl⟩
    obtain ⟨j, hj, hj2⟩ : ∃ j : Nat, n % 32 = (j : Int) ∧ j < 32 := ⟨(n % 32).toNat, by omega, by omega⟩
    obtain ⟨y, hy⟩ : ∃ y, e.prev[j]? = some y := ⟨_, List.getElem?_eq_getElem (by rw [HP.out]; exact hj2)⟩
    rw [hj] at hb ⊢
    have hpr := ev_range HE.out j (bv y) (by rw [List.getElem?_map, hy]; rfl)
    have c0 : Y.cell? ⟨B, 12 + j, none⟩ = some (.int .u8 (y.toNat : Int)) := hpr
    have f0 := Blk.frozen HE.out (12 + j)
    have ik : (j : Int) < 32 := by omega
    have hxo : bits .xor .u8 (y.toNat : Int) 1 = ((y ^^^ 1).toNat : Int) := b_xor y 1
    have ezz : (((y.toNat ^^^ 1 : Nat)) : Int) = ((y ^^^ 1).toNat : Int) := by rw [UInt8.toNat_xor]; rfl
    have hE2 := (show EvAt (Y.setCell ⟨B, 12 + j, none⟩ (.int .u8 ((y.toNat ^^^ 1 : Nat) : Int))) B (bentE e a n) by rw [ezz, hb]; exact ev_set HE.out (set_hash e _ j (y ^^^ 1) (by rw [HP.out]; exact hj2) (by rw [Int.toNat_natCast]; exact modify_set hy)))
    have hZ2 := Blk.far (p := ⟨B, 12 + j, none⟩) HZ.out (show B + 2 ≠ B by omega) (.int .u8 ((y.toNat ^^^ 1 : Nat) : Int))
    have hO2 := HO.out.setCell (p := ⟨B, 12 + j, none⟩) (.inr hwB) (.int .u8 ((y.toNat ^^^ 1 : Nat) : Int))
    have hl := ev_load hE2 HBP.out
    have hst := ev_store (cs := evC blank0) hZ2 rfl (e := bentE e a n) HBP.out
    have HZ2 := Lib.hid (setCells_own hZ2 (ds := evC (bentE e a n)) (by rw [evC_len HBP.out]; rfl))
    have HO2 := Lib.hid (only_setCells hO2 (B + 2) 0 (.inr (by omega)) (evC (bentE e a n)))
    clear hE2 hZ2 hO2 hb h hpr hj ezz
    go_wp2_with fail
    refine bodyPost_ret (v := .agg (evC (bentE e a n)).toArray) (results_blk rfl rfl HZ2.out Tryz.underlying29 rfl HINF.out) rfl ⟨rfl, HO2.out⟩
  · rw [h]
    have hb : bentE e a n = { e with name := e.name ++ ⟨#[32]⟩ } := by unfold bentE; rw [h]; rfl
    have c0 : Y.cell? ⟨B, 8, none⟩ = some (.string e.name) := ev_cell HE.out 8
    have f0 := Blk.frozen HE.out 8
    have hE2 := (show EvAt (Y.setCell ⟨B, 8, none⟩ (.string (e.name ++ ⟨#[32]⟩))) B (bentE e a n) by rw [hb]; exact ev_set HE.out rfl)
    have hZ2 := Blk.far (p := ⟨B, 8, none⟩) HZ.out (show B + 2 ≠ B by omega) (.string (e.name ++ ⟨#[32]⟩))
    have hO2 := HO.out.setCell (p := ⟨B, 8, none⟩) (.inr hwB) (.string (e.name ++ ⟨#[32]⟩))
    have hl := ev_load hE2 HBP.out
    have hst := ev_store (cs := evC blank0) hZ2 rfl (e := bentE e a n) HBP.out
    have HZ2 := Lib.hid (setCells_own hZ2 (ds := evC (bentE e a n)) (by rw [evC_len HBP.out]; rfl))
    have HO2 := Lib.hid (only_setCells hO2 (B + 2) 0 (.inr (by omega)) (evC (bentE e a n)))
    clear hE2 hZ2 hO2 hb h
    go_wp2_with fail
    refine bodyPost_ret (v := .agg (evC (bentE e a n)).toArray) (results_blk rfl rfl HZ2.out Tryz.underlying29 rfl HINF.out) rfl ⟨rfl, HO2.out⟩
  · rw [h]
    have hb : bentE e a n = { e with text := ⟨#[49, 58]⟩ ++ e.text } := by unfold bentE; rw [h]; rfl
    have c0 : Y.cell? ⟨B, 9, none⟩ = some (.string e.text) := ev_cell HE.out 9
    have f0 := Blk.frozen HE.out 9
    have hE2 := (show EvAt (Y.setCell ⟨B, 9, none⟩ (.string (⟨#[49, 58]⟩ ++ e.text))) B (bentE e a n) by rw [hb]; exact ev_set HE.out rfl)
    have hZ2 := Blk.far (p := ⟨B, 9, none⟩) HZ.out (show B + 2 ≠ B by omega) (.string (⟨#[49, 58]⟩ ++ e.text))
    have hO2 := HO.out.setCell (p := ⟨B, 9, none⟩) (.inr hwB) (.string (⟨#[49, 58]⟩ ++ e.text))
    have hl := ev_load hE2 HBP.out
    have hst := ev_store (cs := evC blank0) hZ2 rfl (e := bentE e a n) HBP.out
    have HZ2 := Lib.hid (setCells_own hZ2 (ds := evC (bentE e a n)) (by rw [evC_len HBP.out]; rfl))
    have HO2 := Lib.hid (only_setCells hO2 (B + 2) 0 (.inr (by omega)) (evC (bentE e a n)))
    clear hE2 hZ2 hO2 hb h
    go_wp2_with fail
    refine bodyPost_ret (v := .agg (evC (bentE e a n)).toArray) (results_blk rfl rfl HZ2.out Tryz.underlying29 rfl HINF.out) rfl ⟨rfl, HO2.out⟩
  · rw [h]
    obtain ⟨z, ez⟩ : ∃ z, IntKind.i64.wrap (e.r + n) = z := ⟨_, rfl⟩
    have hb : bentE e a n = { e with r := z } := by unfold bentE; rw [h, ← ez]; rfl
    have c0 := (ev_sig HE.out HP.out).1
    have f0 := Blk.frozen HE.out 44
    have hE2 := (show EvAt (Y.setCell ⟨B, 44, none⟩ (.int .i64 z)) B (bentE e a n) by rw [hb]; exact ev_set HE.out (set_sig e HP.out _).1)
    have hZ2 := Blk.far (p := ⟨B, 44, none⟩) HZ.out (show B + 2 ≠ B by omega) (.int .i64 z)
    have hO2 := HO.out.setCell (p := ⟨B, 44, none⟩) (.inr hwB) (.int .i64 z)
    have hl := ev_load hE2 HBP.out
    have hst := ev_store (cs := evC blank0) hZ2 rfl (e := bentE e a n) HBP.out
    have HZ2 := Lib.hid (setCells_own hZ2 (ds := evC (bentE e a n)) (by rw [evC_len HBP.out]; rfl))
    have HO2 := Lib.hid (only_setCells hO2 (B + 2) 0 (.inr (by omega)) (evC (bentE e a n)))
    clear hE2 hZ2 hO2 hb h
    go_wp2_with fail
    refine bodyPost_ret (v := .agg (evC (bentE e a n)).toArray) (results_blk rfl rfl HZ2.out Tryz.underlying29 rfl HINF.out) rfl ⟨rfl, HO2.out⟩
  · rw [h]
    obtain ⟨z, ez⟩ : ∃ z, IntKind.i64.wrap (e.s + n) = z := ⟨_, rfl⟩
    have hb : bentE e a n = { e with s := z } := by unfold bentE; rw [h, ← ez]; rfl
    have c0 := (ev_sig HE.out HP.out).2
    have f0 := Blk.frozen HE.out 45
    have hE2 := (show EvAt (Y.setCell ⟨B, 45, none⟩ (.int .i64 z)) B (bentE e a n) by rw [hb]; exact ev_set HE.out (set_sig e HP.out _).2)
    have hZ2 := Blk.far (p := ⟨B, 45, none⟩) HZ.out (show B + 2 ≠ B by omega) (.int .i64 z)
    have hO2 := HO.out.setCell (p := ⟨B, 45, none⟩) (.inr hwB) (.int .i64 z)
    have hl := ev_load hE2 HBP.out
    have hst := ev_store (cs := evC blank0) hZ2 rfl (e := bentE e a n) HBP.out
    have HZ2 := Lib.hid (setCells_own hZ2 (ds := evC (bentE e a n)) (by rw [evC_len HBP.out]; rfl))
    have HO2 := Lib.hid (only_setCells hO2 (B + 2) 0 (.inr (by omega)) (evC (bentE e a n)))
    clear hE2 hZ2 hO2 hb h
    go_wp2_with fail
    refine bodyPost_ret (v := .agg (evC (bentE e a n)).toArray) (results_blk rfl rfl HZ2.out Tryz.underlying29 rfl HINF.out) rfl ⟨rfl, HO2.out⟩
  · rw [h]
    have hb : bentE e a n = { e with name := e.text, text := e.name } := by unfold bentE; rw [h]; rfl
    have c0 : Y.cell? ⟨B, 8, none⟩ = some (.string e.name) := ev_cell HE.out 8
    have c1 : Y.cell? ⟨B, 9, none⟩ = some (.string e.text) := ev_cell HE.out 9
    have f0 := Blk.frozen HE.out 8
    have hE1 : EvAt (Y.setCell ⟨B, 8, none⟩ (.string e.text)) B { e with name := e.text } := ev_set HE.out rfl
    have f1 := Blk.frozen hE1 9
    have hE2 := (show EvAt ((Y.setCell ⟨B, 8, none⟩ (.string e.text)).setCell ⟨B, 9, none⟩ (.string e.name)) B (bentE e a n) by rw [hb]; exact ev_set hE1 rfl)
    have hZ2 := Blk.far (p := ⟨B, 9, none⟩) (Blk.far (p := ⟨B, 8, none⟩) HZ.out (show B + 2 ≠ B by omega) (.string e.text)) (show B + 2 ≠ B by omega) (.string e.name)
    have hO2 := (HO.out.setCell (p := ⟨B, 8, none⟩) (.inr hwB) (.string e.text)).setCell (p := ⟨B, 9, none⟩) (.inr hwB) (.string e.name)
    have hl := ev_load hE2 HBP.out
    have hst := ev_store (cs := evC blank0) hZ2 rfl (e := bentE e a n) HBP.out
    have HZ2 := Lib.hid (setCells_own hZ2 (ds := evC (bentE e a n)) (by rw [evC_len HBP.out]; rfl))
    have HO2 := Lib.hid (only_setCells hO2 (B + 2) 0 (.inr (by omega)) (evC (bentE e a n)))
    clear hE2 hZ2 hO2 hb h hE1
    go_wp2_with fail
    refine bodyPost_ret (v := .agg (evC (bentE e a n)).toArray) (results_blk rfl rfl HZ2.out Tryz.underlying29 rfl HINF.out) rfl ⟨rfl, HO2.out⟩
end Go.Proofs.YtclpebgjmgfigaaGreatDoor
