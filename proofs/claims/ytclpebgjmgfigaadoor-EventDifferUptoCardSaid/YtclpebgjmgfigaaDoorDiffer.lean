/- What is proved here: the law on different events answers true. Conditions: the library's table reads as its initialiser lays it; names and texts are short. -/
import Derived.Test.YtclpebgjmgfigaaDoorEvK
import Derived.Test.YtclpebgjmgfigaaDoorBent
import Derived.Test.YtclpebgjmgfigaaDoorEqE
import Derived.Great.BuildSlice
import Derived.Deep.Cut
namespace Go.Proofs.YtclpebgjmgfigaaDoor
open Go.RowKit Go.Shelf
theorem code_same {a b : Ev} (ha : a.Ok) (hb : b.Ok) (na : a.name.size ≤ 8388608) (ta : a.text.size ≤ 8388608) (nb : b.name.size ≤ 8388608) (tb : b.text.size ≤ 8388608) : (evCode a == evCode b) = sameE a b := by
  rw [Bool.eq_iff_iff, beq_iff_eq, sameE_true]
  constructor
  · intro h
    refine evCode_inj ha hb ?_ ?_ ?_ ?_ h <;> rw [← size_list] <;> constructor <;> omega
  · intro h; rw [h]
theorem text_same {a b : Ev} (ha : a.Ok) (hb : b.Ok) (na : a.name.size ≤ 8388608) (ta : a.text.size ≤ 8388608) (nb : b.name.size ≤ 8388608) (tb : b.text.size ≤ 8388608) : (evText a == evText b) = sameE a.bare b.bare := by
  rw [Bool.eq_iff_iff, beq_iff_eq, sameE_true]
  constructor
  · intro h
    refine evText_inj ha hb ?_ ?_ ?_ ?_ h <;> rw [← size_list] <;> constructor <;> omega
  · intro h
    rw [← evText_bare a, h, evText_bare]
/-- A slice literal of three events, under a name that the walk does not open. -/
def bs3 (parts : Array (Nat × Value)) : Sem Value := Instr.buildSlice 33 3 parts
theorem bs3_eq (parts : Array (Nat × Value)) : Instr.buildSlice 33 3 parts = bs3 parts := rfl
def evThree (a b c : Ev) : List Value := [Value.agg (evC a).toArray, Value.agg (evC b).toArray, Value.agg (evC c).toArray].flatMap fun v => v.cells.toList
set_option maxRecDepth 100000 in
theorem bs3_run (a b c : Ev) (ha : a.prev.length = 32) (hb : b.prev.length = 32) (hc : c.prev.length = 32) (W : World) : (bs3 #[(0, .agg (evC a).toArray), (1, .agg (evC b).toArray), (2, .agg (evC c).toArray)]).run Tryd.prog W = .ok (.slice (some ⟨W.heap.size, 0, none⟩) 3 3) (W.alloc (.cells (evThree a b c).toArray tEv)) := by
  obtain ⟨ie, z, hie, hsz, hz⟩ := ev_info
  exact run_buildSlice (P := Tryd.prog) W 33 tEv 3 #[(0, .agg (evC a).toArray), (1, .agg (evC b).toArray), (2, .agg (evC c).toArray)] (evThree a b c).toArray ie z Tryd.underlying33 hie hz (by rw [hsz]; omega) (by rw [hsz]; omega)
    (by rw [hsz]; exact Great.fill_whole (by omega) [Value.agg (evC a).toArray, Value.agg (evC b).toArray, Value.agg (evC c).toArray] _ (by intro v hv; simp only [List.mem_cons, List.not_mem_nil, or_false] at hv; rcases hv with rfl | rfl | rfl <;> (show (evC _).toArray.size = 46; rw [List.size_toArray, evC_len (by assumption)])) (by simp))
set_option maxRecDepth 100000 in
theorem three_sl (W : World) (a b c : Ev) (ha : a.prev.length = 32) (hb : b.prev.length = 32) (hc : c.prev.length = 32) : EvSl (W.alloc (.cells (evThree a b c).toArray tEv)) (.slice (some ⟨W.heap.size, 0, none⟩) 3 3) [a, b, c] := by
  have e3 : evThree a b c = evC a ++ (evC b ++ evC c) := by simp [evThree, Value.cells]
  refine ⟨some ⟨W.heap.size, 0, none⟩, 3, rfl, Nat.le_refl _, by omega, fun i e he => ⟨W.heap.size, 0, rfl, by simp, fun j u hj => ?_⟩⟩
  rw [Nat.zero_add, (Blk.new W tEv (evThree a b c).toArray).cell, List.getElem?_toArray, e3]
  match i, he with
  | 0, he =>
    simp only [List.getElem?_cons_zero, Option.some.injEq] at he
    subst he
    have := (List.getElem?_eq_some_iff.1 hj).1
    rw [show 0 * 46 + j = j by omega, List.getElem?_append_left this]
    exact hj
  | 1, he =>
    simp only [List.getElem?_cons_succ, List.getElem?_cons_zero, Option.some.injEq] at he
    subst he
    have := (List.getElem?_eq_some_iff.1 hj).1
    rw [List.getElem?_append_right (by rw [evC_len ha]; omega), evC_len ha, show 1 * 46 + j - 46 = j by omega, List.getElem?_append_left this]
    exact hj
  | 2, he =>
    simp only [List.getElem?_cons_succ, List.getElem?_cons_zero, Option.some.injEq] at he
    subst he
    rw [List.getElem?_append_right (by rw [evC_len ha]; omega), evC_len ha, List.getElem?_append_right (by rw [evC_len hb]; omega), evC_len hb, show 2 * 46 + j - 46 - 46 = j by omega]
    exact hj
/-- A new event, under a name that the walk does not open. -/
def evNew : Sem Value := Instr.alloc 29 true (.tuple #[])
theorem evNew_eq : Instr.alloc 29 true (.tuple #[]) = evNew := rfl
theorem evNew_run (W : World) : evNew.run Tryd.prog W = .ok (.pointer (some ⟨W.heap.size, 0, none⟩)) (W.alloc (.cells (evC blank0).toArray tEv)) := by kernel_rfl
attribute [local go_sem ↓ high] evStore_eq evLoad_eq bs3_eq evNew_eq
/-- What lies there when the list is made: two events and two numbers. -/
structure DfS (w : World) (A : Nat) (a b : Ev) (q0 q1 : Int) (Z : World) : Prop where
  a : EvAt Z A a
  b : EvAt Z (A + 1) b
  q : Blk Z (A + 2) 30 #[.int .i64 q0, .int .i64 q1]
  only : Only NoneOf w Z
theorem DfS.keep {w Z Z' : World} {A : Nat} {a b : Ev} {q0 q1 : Int} (h : DfS w A a b q0 q1 Z) (ho : Only NoneOf Z Z') : DfS w A a b q0 q1 Z' :=
  ⟨h.a.only ho (fun e => e), h.b.only ho (fun e => e), h.q.only ho (fun e => e), h.only.trans ho⟩
/-- What lies there when two events are copied. -/
structure D6 (w0 : World) (A g k N0 : Nat) (a y : Ev) (Z : World) : Prop where
  a : EvAt Z A a
  y : Z.rangeAt g (k * 46) (evC y)
  only : Only NoneOf w0 Z
  n : N0 ≤ Z.heap.size
theorem D6.keep {w0 Z Z' : World} {A g k N0 : Nat} {a y : Ev} (h : D6 w0 A g k N0 a y Z) (ho : Only NoneOf Z Z') : D6 w0 A g k N0 a y Z' :=
  ⟨h.a.only ho (fun e => e), range_only h.y ho, h.only.trans ho, Nat.le_trans h.n ho.size⟩
theorem D6.far {w0 Z : World} {A g k N0 : Nat} {a y : Ev} (h : D6 w0 A g k N0 a y Z) (hA : A < N0) (hg : g < N0) (hw : w0.heap.size ≤ N0) (V : Nat) (hV : N0 ≤ V) (vs : List Value) : D6 w0 A g k N0 a y (Z.setCells V 0 vs) :=
  ⟨Blk.farCells (by omega) vs 0 h.a, fun j v hj => by rw [World.cell?_setCells_out V vs 0 Z ⟨g, k * 46 + j, none⟩ (fun hb => by simp only at hb; omega)]; exact h.y j v hj, only_setCells h.only V 0 (.inr (by omega)) vs, by rw [setCells_size]; exact h.n⟩
/-- Two events, copied. -/
def Two (wr : World) (N0 X Y : Nat) (a y : Ev) (wx : World) : Prop := X ≠ Y ∧ N0 ≤ X ∧ N0 ≤ Y ∧ EvAt wx X a ∧ EvAt wx Y y ∧ Only NoneOf wr wx
theorem two_stored {wr W : World} {N0 X Y : Nat} {a y : Ev} (hX : Blk W X tEv (evC blank0).toArray) (hY : Blk W Y tEv (evC blank0).toArray) (hne : X ≠ Y) (hx : N0 ≤ X) (hy : N0 ≤ Y) (hN : N0 = wr.heap.size) (ho : Only NoneOf wr W) (ha : a.prev.length = 32) (hb : y.prev.length = 32) :
    Two wr N0 X Y a y ((W.setCells X 0 (evC a)).setCells Y 0 (evC y)) :=
  ⟨hne, hx, hy, Blk.farCells hne _ 0 (setCells_own hX (by rw [evC_len ha]; rfl)), setCells_own (Blk.farCells (Ne.symm hne) _ 0 hY) (by rw [evC_len hb]; rfl),
    only_setCells (only_setCells ho X 0 (.inr (by omega)) _) Y 0 (.inr (by omega)) _⟩
theorem evC_bare (e : Ev) (hp : e.prev.length = 32) : ((evC e).toArray.setIfInBounds 44 (.int .i64 0)).setIfInBounds 45 (.int .i64 0) = (evC e.bare).toArray := by
  rw [List.setIfInBounds_toArray, List.setIfInBounds_toArray]
  congr 1
  unfold evC Ev.bare
  rw [List.set_append_right _ _ (by simp [hp]), List.set_append_right _ _ (by simp [hp])]
  simp [hp]
theorem bare_at {W : World} {X : Nat} {e : Ev} (h : EvAt W X e) (hp : e.prev.length = 32) : EvAt ((W.setCell ⟨X, 44, none⟩ (.int .i64 0)).setCell ⟨X, 45, none⟩ (.int .i64 0)) X e.bare := by
  have h1 := Blk.set_ (Blk.set_ h 44 (.int .i64 0)) 45 (.int .i64 0)
  rw [evC_bare e hp] at h1
  exact h1
theorem bare_cells {W : World} {X : Nat} {e : Ev} (h : EvAt W X e) (hp : e.prev.length = 32) : W.cell? ⟨X, 44, none⟩ = some (.int .i64 e.r) ∧ W.cell? ⟨X, 45, none⟩ = some (.int .i64 e.s) ∧ W.frozen? ⟨X, 44, none⟩ = false ∧ W.frozen? ⟨X, 45, none⟩ = false := by
  refine ⟨?_, ?_, Blk.frozen h _, Blk.frozen h _⟩
  · rw [ev_cell h]; unfold evC; rw [List.getElem?_append_right (by simp [hp])]; simp [hp]
  · rw [ev_cell h]; unfold evC; rw [List.getElem?_append_right (by simp [hp])]; simp [hp]
/-- What lies there behind the two copies. -/
structure D7 (wr : World) (X Y : Nat) (a y : Ev) (Z : World) : Prop where
  x : EvAt Z X a
  y : EvAt Z Y y
  only : Only NoneOf wr Z
theorem D7.keep {w0 Z Z' : World} {X Y : Nat} {a y : Ev} (h : D7 w0 X Y a y Z) (ho : Only NoneOf Z Z') : D7 w0 X Y a y Z' :=
  ⟨h.x.only ho (fun e => e), h.y.only ho (fun e => e), h.only.trans ho⟩
/-- .. and once the signatures are blank. -/
structure D8 (wr : World) (A g k X Y : Nat) (e f : Ev) (Z : World) : Prop where
  a : EvAt Z A e
  r : Z.rangeAt g (k * 46) (evC f)
  x : EvAt Z X e.bare
  y : EvAt Z Y f.bare
  only : Only NoneOf wr Z
theorem D8.keep {w0 Z Z' : World} {A g k X Y : Nat} {e f : Ev} (h : D8 w0 A g k X Y e f Z) (ho : Only NoneOf Z Z') : D8 w0 A g k X Y e f Z' :=
  ⟨h.a.only ho (fun e => e), range_only h.r ho, h.x.only ho (fun e => e), h.y.only ho (fun e => e), h.only.trans ho⟩
set_option maxRecDepth 100000 in
set_option maxHeartbeats 4000000 in
theorem differ_law (a : Ev) (ha : a.Ok) (hba : a.name.size + a.text.size ≤ 1048576) (b : Ev) (hb : b.Ok) (hbb : b.name.size + b.text.size ≤ 1048576) (q0 q1 : Int) (i0 : In q0) (i1 : In q1) (w : World) (hE : Env3 w) : Calls Tryd.prog 3 #[.agg (evC a).toArray, .agg (evC b).toArray, .agg #[.int .i64 q0, .int .i64 q1]] w fun e' w' => e' = .returned (.bool true) ∧ Only NoneOf w w' := by
  obtain ⟨A, eA⟩ : ∃ A, A = w.heap.size := ⟨_, rfl⟩
  have hS0 : DfS w A a b q0 q1 (((w.alloc (.cells (evC a).toArray 29)).alloc (.cells (evC b).toArray 29)).alloc (.cells #[.int .i64 q0, .int .i64 q1] 30)) := by
    have h2 := Blk.new (w.alloc (.cells (evC a).toArray 29)) tEv (evC b).toArray
    have h3 := Blk.new ((w.alloc (.cells (evC a).toArray 29)).alloc (.cells (evC b).toArray 29)) 30 #[.int .i64 q0, .int .i64 q1]
    rw [World.size_alloc, ← eA] at h2
    rw [World.size_alloc, World.size_alloc, ← eA] at h3
    exact ⟨by rw [eA]; exact ((Blk.new w _ _).alloc _).alloc _, h2.alloc _, h3, (((Only.refl _ _).alloc _).alloc _).alloc _⟩
  obtain ⟨f, ef⟩ : ∃ f, f = bentE a q0 q1 := ⟨_, rfl⟩
  have hf : f.Ok := by rw [ef]; exact bentE_ok ha q0 q1
  have hfs : f.name.size ≤ 4194304 ∧ f.text.size ≤ 4194304 := by
    have := bentE_size a q0 q1
    rw [← ef] at this; omega
  have hfb : ∀ W, Calls Tryd.prog 6 #[.agg (evC a).toArray, .agg #[.int .i64 q0, .int .i64 q1]] W (fun e' w' => e' = .returned (.agg (evC f).toArray) ∧ Only NoneOf W w') := fun W => by rw [ef]; exact rbent_any a ha (by omega) (by omega) q0 q1 i0 i1 W
  have hmem : ∀ y ∈ [b, f, a], y.Ok ∧ y.name.size ≤ 8388608 ∧ y.text.size ≤ 8388608 := by
    intro y hy
    simp only [List.mem_cons, List.not_mem_nil, or_false] at hy
    rcases hy with rfl | rfl | rfl
    · exact ⟨hb, by omega, by omega⟩
    · exact ⟨hf, by omega, by omega⟩
    · exact ⟨ha, by omega, by omega⟩
  have has : a.name.size ≤ 8388608 ∧ a.text.size ≤ 8388608 := by omega
  have HS0 := Lib.hid hS0
  have HE := Lib.hid hE
  have HFB := Lib.hid hfb
  have HMEM := Lib.hid hmem
  have HAO := Lib.hid ha
  have HAS := Lib.hid has
  have HBP := Lib.hid hb.prev
  have HFP := Lib.hid hf.prev
  have HEA := Lib.hid eA
  clear hS0 hE hfb hmem ha hb hba hbb hf hfs ef i0 i1 has eA
  go_enter Tryd.func3, Tryd.ntmps3
  go_upto_region 1 with (fail)
  rw [← HEA.out]
  refine wp_gen (DfS w A a b q0 q1) HS0.out ?_
  intro Z hZ
  have HZ := Lib.hid hZ
  clear hZ HS0
  go_wp2_with fail
  refine (sanity_any Z (HE.out.none HZ.out.only)).mono ?_
  rintro e1 w1 ⟨rfl, ho1⟩
  have HZ1 := Lib.hid (HZ.out.keep ho1)
  clear ho1 HZ
  go_upto_region 2 with (fail)
  have hS := HZ1.out.keep (Only.refl _ _).drew
  have l1 : ∀ W, DfS w A a b q0 q1 W → (evLoad (.pointer (some ⟨A, 0, none⟩))).run Tryd.prog W = .ok (.agg (evC a).toArray) W := fun W h => ev_load h.a HAO.out.prev
  have l2 : ∀ W, DfS w A a b q0 q1 W → (evLoad (.pointer (some ⟨A + 1, 0, none⟩))).run Tryd.prog W = .ok (.agg (evC b).toArray) W := fun W h => ev_load h.b HBP.out
  have l3 : ∀ W, DfS w A a b q0 q1 W → W.cell? ⟨A + 2, 0, none⟩ = some (.int .i64 q0) := fun W h => h.q.cell 0
  have l4 : ∀ W, DfS w A a b q0 q1 W → W.cell? ⟨A + 2, 1, none⟩ = some (.int .i64 q1) := fun W h => h.q.cell 1
  have hbs := bs3_run b f a HBP.out HFP.out HAO.out.prev
  have HKP : Hid (∀ W W', DfS w A a b q0 q1 W → Only NoneOf W W' → DfS w A a b q0 q1 W') := Lib.hid (fun W W' h ho => h.keep ho)
  have HAL : Hid (∀ W o, DfS w A a b q0 q1 W → DfS w A a b q0 q1 (W.alloc o)) := Lib.hid (fun W o h => h.keep ((Only.refl _ _).alloc o))
  go_cut [8] from 13 (fun p wx => ∃ g, p = .slice (some ⟨g, 0, none⟩) 3 3 ∧ EvSl wx (.slice (some ⟨g, 0, none⟩) 3 3) [b, f, a] ∧ EvAt wx A a ∧ Only NoneOf w wx)
  case first =>
    go_region_held3 (fun w' => DfS w A a b q0 q1 w') (first | assumption | exact HAL.out _ _ (by assumption))
      (first
        | (go_at_call 6; refine (HFB.out _).mono ?_; rintro e2 w2 ⟨rfl, ho2⟩; have hS2 := HKP.out _ _ (by assumption) ho2; clear ho2))
    all_goals
      go_wp2_with fail
      go_meet
      case rel => exact ⟨_, rfl, three_sl w2 b f a HBP.out HFP.out HAO.out.prev, (HAL.out _ _ hS2).a, (HAL.out _ _ hS2).only⟩
  case rest =>
  obtain ⟨g, rfl, hsl, hA, hO⟩ := hcut
  obtain ⟨WF, eWF⟩ : ∃ W, W = wc := ⟨_, rfl⟩
  rw [← eWF] at hsl hA hO ⊢
  have HSL := Lib.hid hsl
  have HA := Lib.hid hA
  have HO := Lib.hid hO
  clear hsl hA hO eWF hS l1 l2 l3 l4 hbs HKP HAL HZ1 HFB
  go_wp2_with fail
  go_loopw [9] (fun i wr => ∃ k : Nat, i = .int .i64 k ∧ k ≤ 3 ∧ Only NoneOf WF wr) (fun i _ => 3 - (intOf i).toNat)
  case atStart => exact ⟨0, rfl, by omega, Only.refl _ _⟩
  case round =>
    obtain ⟨k, rfl, hk, hor⟩ := hrel
    by_cases hlt : k < 3
    · obtain ⟨y, hy⟩ : ∃ y, [b, f, a][k]? = some y := ⟨_, List.getElem?_eq_getElem (by simpa using hlt)⟩
      have hyo := HMEM.out y (List.mem_of_getElem? hy)
      have hr : wr.rangeAt g (k * 46) (evC y) ∧ g < WF.heap.size := by
        obtain ⟨A', cap', hv, _, _, h3⟩ := HSL.out
        obtain ⟨g', o', hA', hg', hr'⟩ := h3 k y hy
        simp only [Value.slice.injEq] at hv
        rw [← hv.1] at hA'
        simp only [Option.some.injEq, Addr.mk.injEq, and_true] at hA'
        obtain ⟨rfl, rfl⟩ := hA'
        rw [Nat.zero_add] at hr'
        exact ⟨range_only hr' hor, hg'⟩
      have hAr := HA.out.only hor (fun e => e)
      have ik : (k : Int) < 3 := by omega
      have ik0 : (0 : Int) ≤ (k : Int) := by omega
      obtain ⟨N0, eN⟩ : ∃ N, N = wr.heap.size := ⟨_, rfl⟩
      have hAN : A < N0 := by rw [eN]; exact hAr.lt
      have hgN : g < N0 := by have := hor.size; omega
      have hD : D6 wr A g k N0 a y wr.drew := ⟨hAr.drew, range_only hr.1 (Only.refl _ _).drew, (Only.refl _ _).drew, by rw [eN]; exact Nat.le_refl _⟩
      have l1 : ∀ W, D6 wr A g k N0 a y W → (evLoad (.pointer (some ⟨A, 0, none⟩))).run Tryd.prog W = .ok (.agg (evC a).toArray) W := fun W h => ev_load h.a HAO.out.prev
      have l2 : ∀ W, D6 wr A g k N0 a y W → (evLoad (.pointer (some ⟨g, k * 46, none⟩))).run Tryd.prog W = .ok (.agg (evC y).toArray) W := fun W h => ev_load_at h.y hyo.1.prev
      obtain ⟨Z0, eZ0⟩ : ∃ Z0, Z0 = (evC blank0).toArray := ⟨_, rfl⟩
      have hnew : ∀ W : World, evNew.run Tryd.prog W = .ok (.pointer (some ⟨W.heap.size, 0, none⟩)) (W.alloc (.cells Z0 29)) := fun W => by rw [eZ0]; exact evNew_run W
      have hb0 : Blk ((wr.alloc (.cells Z0 29)).alloc (.cells Z0 29)).drew wr.heap.size tEv (evC blank0).toArray := by rw [eZ0]; exact ((Blk.new wr tEv _).alloc _).drew
      have hb1 : Blk ((wr.alloc (.cells Z0 29)).alloc (.cells Z0 29)).drew (wr.heap.size + 1) tEv (evC blank0).toArray := by
        have h1 := Blk.new (wr.alloc (.cells Z0 29)) tEv Z0
        rw [World.size_alloc] at h1
        rw [← eZ0]
        exact h1
      have hc0 : Blk (wr.alloc (.cells Z0 29)).drew wr.heap.size tEv (evC blank0).toArray := by rw [eZ0]; exact (Blk.new wr tEv _).drew
      have yp := hyo.1.prev
      have ap := HAO.out.prev
      have t0a := ev_store (cs := evC blank0) hb0 rfl ap
      have t0y := ev_store (cs := evC blank0) hb0 rfl yp
      have t1a := ev_store (cs := evC blank0) hb1 rfl ap
      have t1y := ev_store (cs := evC blank0) hb1 rfl yp
      have t2ay := ev_store (cs := evC blank0) (Blk.farCells (show wr.heap.size + 1 ≠ wr.heap.size by omega) (evC a) 0 hb1) rfl yp
      have t2ya := ev_store (cs := evC blank0) (Blk.farCells (show wr.heap.size + 1 ≠ wr.heap.size by omega) (evC y) 0 hb1) rfl ap
      have t3ay := ev_store (cs := evC blank0) (Blk.farCells (show wr.heap.size ≠ wr.heap.size + 1 by omega) (evC a) 0 hb0) rfl yp
      have t3ya := ev_store (cs := evC blank0) (Blk.farCells (show wr.heap.size ≠ wr.heap.size + 1 by omega) (evC y) 0 hb0) rfl ap
      have HT1 := Lib.hid (two_stored (N0 := N0) hb0 hb1 (by omega) (by omega) (by omega) eN (((Only.refl _ _).alloc _).alloc _).drew ap yp)
      have HT2 := Lib.hid (two_stored (N0 := N0) hb1 hb0 (by omega) (by omega) (by omega) eN (((Only.refl _ _).alloc _).alloc _).drew ap yp)
      have HB0 := Lib.hid hb0
      have HB1 := Lib.hid hb1
      have HZ0 := Lib.hid eZ0
      clear hb0 hb1 hc0 eZ0
      have HAP := Lib.hid ap
      have HYO := Lib.hid hyo
      have HOR := Lib.hid hor
      have HEN := Lib.hid eN
      have HAL : Hid (∀ (W : World) o, D6 wr A g k N0 a y W.drew → D6 wr A g k N0 a y (W.alloc o).drew) := Lib.hid (fun W o h => D6.keep (Z := W.drew) (Z' := (W.alloc o).drew) h ((Only.refl _ W.drew).alloc o))
      have HFAR : Hid (∀ W V vs, D6 wr A g k N0 a y W → N0 ≤ V → D6 wr A g k N0 a y (W.setCells V 0 vs)) := Lib.hid (fun W V vs h hV => h.far hAN hgN (by omega) V hV vs)
      have HAR := Lib.hid hAr
      have HR := Lib.hid hr.1
      clear hyo hor hAr hr eN yp ap hy
      go_upto_region 6 with (fail)
      go_cut [10, 11] from 19 to 54 (fun p q wx => ∃ X Y, p = .pointer (some ⟨X, 0, none⟩) ∧ q = .pointer (some ⟨Y, 0, none⟩) ∧ Two wr N0 X Y a y wx)
      case first =>
        go_region_held3 (fun w' => D6 wr A g k N0 a y w') (first | (with_reducible assumption) | (with_reducible exact HAL.out _ _ (by with_reducible assumption)) | (with_reducible exact HFAR.out _ _ _ (by with_reducible assumption) (by have := HEN.out; omega))) (fail)
        all_goals
          go_wp2_with fail
          go_meet
          case rel =>
            refine ⟨_, _, rfl, rfl, ?_⟩
            first
              | (with_reducible exact HT1.out)
              | (with_reducible exact HT2.out)
      case rest =>
      obtain ⟨X, Y, rfl, rfl, hXY, hX, hY, hEX, hEY, ho6⟩ := hcut
      clear HT1 HT2
      clear t0a t0y t1a t1y t2ay t2ya t3ay t3ya hD l1 l2 HB0 HB1 HAL HFAR hnew
      obtain ⟨S1, hS1⟩ : ∃ A : ByteArray, A.data.toList = evCode a := ⟨⟨(evCode a).toArray⟩, by simp⟩
      obtain ⟨S2, hS2⟩ : ∃ A : ByteArray, A.data.toList = evCode y := ⟨⟨(evCode y).toArray⟩, by simp⟩
      obtain ⟨S3, hS3⟩ : ∃ A : ByteArray, A.data.toList = evText a := ⟨⟨(evText a).toArray⟩, by simp⟩
      obtain ⟨S4, hS4⟩ : ∃ A : ByteArray, A.data.toList = evText y := ⟨⟨(evText y).toArray⟩, by simp⟩
      obtain ⟨β, hβ⟩ : ∃ β, β = sameE a y := ⟨_, rfl⟩
      obtain ⟨γ, hγ⟩ : ∃ γ, γ = sameE a.bare y.bare := ⟨_, rfl⟩
      have hyo := HYO.out
      have has := HAS.out
      have hao := HAO.out
      have e1 : (S1.toList == S2.toList) = β := by rw [Lib.toList_data, Lib.toList_data, hS1, hS2, hβ]; exact code_same hao hyo.1 has.1 has.2 hyo.2.1 hyo.2.2
      have e2 : (S3.toList == S4.toList) = γ := by rw [Lib.toList_data, Lib.toList_data, hS3, hS4, hγ]; exact text_same hao hyo.1 has.1 has.2 hyo.2.1 hyo.2.2
      have ztab : ∀ W, Only NoneOf wr W → Tab W := fun W ho => (HE.out.tab.none ((HO.out.trans HOR.out).trans ho))
      have f1 : ∀ W, Only NoneOf wr W → Calls Tryd.prog 7 #[.agg (evC a).toArray] W (fun e' w' => e' = .returned (.string S1) ∧ Only NoneOf W w') := fun W h => (eencode_any a hao (by omega) (by omega) W (ztab W h)).mono (by rintro e' w' ⟨t, rfl, ht, ho⟩; exact ⟨by rw [bytes_ext (ht.trans hS1.symm)], ho⟩)
      have f2 : ∀ W, Only NoneOf wr W → Calls Tryd.prog 7 #[.agg (evC y).toArray] W (fun e' w' => e' = .returned (.string S2) ∧ Only NoneOf W w') := fun W h => (eencode_any y hyo.1 (by omega) (by omega) W (ztab W h)).mono (by rintro e' w' ⟨t, rfl, ht, ho⟩; exact ⟨by rw [bytes_ext (ht.trans hS2.symm)], ho⟩)
      have f3 : ∀ W, Only NoneOf wr W → Calls Tryd.prog 8 #[.agg (evC a).toArray] W (fun e' w' => e' = .returned (.string S3) ∧ Only NoneOf W w') := fun W h => (etext_any a hao (by omega) (by omega) W (ztab W h)).mono (by rintro e' w' ⟨t, rfl, ht, ho⟩; exact ⟨by rw [bytes_ext (ht.trans hS3.symm)], ho⟩)
      have f4 : ∀ W, Only NoneOf wr W → Calls Tryd.prog 8 #[.agg (evC y).toArray] W (fun e' w' => e' = .returned (.string S4) ∧ Only NoneOf W w') := fun W h => (etext_any y hyo.1 (by omega) (by omega) W (ztab W h)).mono (by rintro e' w' ⟨t, rfl, ht, ho⟩; exact ⟨by rw [bytes_ext (ht.trans hS4.symm)], ho⟩)
      have q1 : ∀ W, (binOp .eql 29 (.agg (evC a).toArray) (.agg (evC y).toArray)).run Tryd.prog W = .ok (.bool β) W := fun W => by rw [hβ]; exact eql_ev a y hao.prev hyo.1.prev W
      have q2 : ∀ W, (binOp .eql 29 (.agg (evC a.bare).toArray) (.agg (evC y.bare).toArray)).run Tryd.prog W = .ok (.bool γ) W := fun W => by rw [hγ]; exact eql_ev a.bare y.bare hao.prev hyo.1.prev W
      have F1 := Lib.hid f1
      have F2 := Lib.hid f2
      have F3 := Lib.hid f3
      have F4 := Lib.hid f4
      have Q2 := Lib.hid q2
      have E2 := Lib.hid e2
      have h7 : D7 wr X Y a y wc.drew := ⟨hEX.drew, hEY.drew, ho6.drew⟩
      have l1 : ∀ W, D7 wr X Y a y W → (evLoad (.pointer (some ⟨X, 0, none⟩))).run Tryd.prog W = .ok (.agg (evC a).toArray) W := fun W h => ev_load h.x HAO.out.prev
      have l2 : ∀ W, D7 wr X Y a y W → (evLoad (.pointer (some ⟨Y, 0, none⟩))).run Tryd.prog W = .ok (.agg (evC y).toArray) W := fun W h => ev_load h.y HYO.out.1.prev
      have HHX := Lib.hid hEX
      have HXY := Lib.hid hXY
      have HBX := Lib.hid hX
      have HBY := Lib.hid hY
      clear hS1 hS2 hS3 hS4 hβ hγ hyo has hao e2 ztab f1 f2 f3 f4 q2 hEX hEY ho6 hXY hX hY
      go_upto_region 7 with (fail)
      go_region_held3 (fun w' => D7 wr X Y a y w') (first | (with_reducible assumption))
        (first
          | (go_at_call 7; (with_reducible refine (F1.out _ (D7.only (by assumption))).mono ?_); rintro e5 w5 ⟨rfl, ho5⟩; have h75 := D7.keep (by with_reducible assumption) ho5; clear ho5)
          | (go_at_call 7; (with_reducible refine (F2.out _ (D7.only (by assumption))).mono ?_); rintro e5 w5 ⟨rfl, ho5⟩; have h75 := D7.keep (by with_reducible assumption) ho5; clear ho5))
      all_goals
        clear e1 q1 l1 l2 h7
        obtain ⟨bx4, bx5, bf4, bf5⟩ := bare_cells h75.x HAO.out.prev
        have hyx : EvAt ((w5.setCell ⟨X, 44, none⟩ (.int .i64 0)).setCell ⟨X, 45, none⟩ (.int .i64 0)) Y y := Blk.far (p := ⟨X, 45, none⟩) (Blk.far (p := ⟨X, 44, none⟩) h75.y (Ne.symm HXY.out) _) (Ne.symm HXY.out) _
        obtain ⟨by4, by5, bg4, bg5⟩ := bare_cells hyx HYO.out.1.prev
        have h8 : D8 wr A g k X Y a y (((((w5.setCell ⟨X, 44, none⟩ (.int .i64 0)).setCell ⟨X, 45, none⟩ (.int .i64 0)).setCell ⟨Y, 44, none⟩ (.int .i64 0)).setCell ⟨Y, 45, none⟩ (.int .i64 0))) := by
          have hx := HBX.out
          have hy := HBY.out
          have hn := HEN.out
          have ho : Only NoneOf wr (((((w5.setCell ⟨X, 44, none⟩ (.int .i64 0)).setCell ⟨X, 45, none⟩ (.int .i64 0)).setCell ⟨Y, 44, none⟩ (.int .i64 0)).setCell ⟨Y, 45, none⟩ (.int .i64 0))) :=
            (((h75.only.setCell (p := ⟨X, 44, none⟩) (.inr (by show _ ≤ X; omega)) _).setCell (p := ⟨X, 45, none⟩) (.inr (by show _ ≤ X; omega)) _).setCell (p := ⟨Y, 44, none⟩) (.inr (by show _ ≤ Y; omega)) _).setCell (p := ⟨Y, 45, none⟩) (.inr (by show _ ≤ Y; omega)) _
          exact ⟨HAR.out.only ho (fun e => e), range_only HR.out ho, Blk.far (p := ⟨Y, 45, none⟩) (Blk.far (p := ⟨Y, 44, none⟩) (bare_at h75.x HAO.out.prev) HXY.out _) HXY.out _, bare_at hyx HYO.out.1.prev, ho⟩
        have H8 := Lib.hid h8
        clear h75 hyx h8
        go_upto_region 10 with (fail)
        have h8 := H8.out.keep (Only.refl _ _).drew
        refine wp_gen (D8 wr A g k X Y a y) H8.out ?_
        intro Z8 hz8
        have h8d := hz8.keep (Only.refl _ _).drew
        have l1 : ∀ W, D8 wr A g k X Y a y W → (evLoad (.pointer (some ⟨A, 0, none⟩))).run Tryd.prog W = .ok (.agg (evC a).toArray) W := fun W h => ev_load h.a HAO.out.prev
        have l2 : ∀ W, D8 wr A g k X Y a y W → (evLoad (.pointer (some ⟨g, k * 46, none⟩))).run Tryd.prog W = .ok (.agg (evC y).toArray) W := fun W h => ev_load_at h.r HYO.out.1.prev
        have l3 : ∀ W, D8 wr A g k X Y a y W → (evLoad (.pointer (some ⟨X, 0, none⟩))).run Tryd.prog W = .ok (.agg (evC a.bare).toArray) W := fun W h => ev_load h.x HAO.out.prev
        have l4 : ∀ W, D8 wr A g k X Y a y W → (evLoad (.pointer (some ⟨Y, 0, none⟩))).run Tryd.prog W = .ok (.agg (evC y.bare).toArray) W := fun W h => ev_load h.y HYO.out.1.prev
        have q2 := Q2.out
        have e2 := E2.out
        clear bx4 bx5 bf4 bf5 by4 by5 bg4 bg5 H8 h8 hz8
        go_region_held3 (fun w' => D8 wr A g k X Y a y w') (first | (with_reducible assumption))
          (first
            | (go_at_call 8; (with_reducible refine (F3.out _ (D8.only (by assumption))).mono ?_); rintro e6 w6 ⟨rfl, ho6⟩; have h86 := D8.keep (by with_reducible assumption) ho6; clear ho6)
            | (go_at_call 8; (with_reducible refine (F4.out _ (D8.only (by assumption))).mono ?_); rintro e6 w6 ⟨rfl, ho6⟩; have h86 := D8.keep (by with_reducible assumption) ho6; clear ho6))
        all_goals
          have HO8 := Lib.hid (HOR.out.trans h86.only)
          clear h86 h8d l1 l2 l3 l4 e2 q2
          go_wp2_with fail
          go_roundw
          case rel => exact ⟨k + 1, by go_num, by omega, HO8.out⟩
          case measure => simp [intOf]; omega
    · obtain rfl : k = 3 := by omega
      have HOR := Lib.hid hor
      clear hor
      go_wp2_with fail
      go_ret
      exact ⟨rfl, HO.out.trans HOR.out⟩
end Go.Proofs.YtclpebgjmgfigaaDoor
