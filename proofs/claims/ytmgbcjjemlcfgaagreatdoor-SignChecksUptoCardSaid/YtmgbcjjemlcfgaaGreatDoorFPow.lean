/- What is proved here: powers in the field, by the program. Conditions: the modulus is positive, the exponent is not negative. -/
import Derived.Test.YtmgbcjjemlcfgaaGreatDoorBin
import Derived.Test.YtmgbcjjemlcfgaaGreatDoorPow
import Derived.Lib.ItoaNum
namespace Go.Proofs.YtmgbcjjemlcfgaaGreatDoor
open Go.RowKit Go.Shelf
attribute [local go_sem] Oper.semAt_some
theorem cells_stay {X Y : World} {row : Option Nat} (hg : X.grownBy Y row) (hr : ∀ r, row = some r → ∃ o : Obj, X.heap[r]? = some o ∧ o.isCells = false) {k : Nat} {cs : Array Value} {t : TypeId} {fr : Nat × Nat} (h : X.heap[k]? = some (.cells cs t fr)) : Y.heap[k]? = X.heap[k]? :=
  hg.block k (Array.getElem?_eq_some_iff.1 h).1 (fun e => by
    obtain ⟨o, ho, hc⟩ := hr k e.symm
    rw [h] at ho; cases ho; cases hc)
/-- What holds between two digits. -/
structure PowI (w0 : World) (B : Nat) (x M o : Nat) (W : World) : Prop where
  bx : Blk W B 54 #[.int .u64 (x : Int)]
  bm : Blk W (B + 1) 54 #[.int .u64 (M : Int)]
  bo : Blk W (B + 2) 54 #[.int .u64 (o : Int)]
  rest : Only NoneOf w0 W
  new : w0.heap.size ≤ B
theorem PowI.grown {w0 : World} {B x M o : Nat} {X Y : World} {row : Option Nat} (h : PowI w0 B x M o X) (hg : X.grownBy Y row) (hr : ∀ r, row = some r → w0.heap.size ≤ r ∧ ∃ o : Obj, X.heap[r]? = some o ∧ o.isCells = false) : PowI w0 B x M o Y :=
  ⟨(cells_stay hg (fun r e => (hr r e).2) h.bx).trans h.bx, (cells_stay hg (fun r e => (hr r e).2) h.bm).trans h.bm, (cells_stay hg (fun r e => (hr r e).2) h.bo).trans h.bo, h.rest.grown hg (fun k hk => .inr (hr k hk).1), h.new⟩
theorem PowI.drewN {w0 : World} {B x M o : Nat} {X : World} (h : PowI w0 B x M o X) (k : Nat) : PowI w0 B x M o (X.drewN k) := ⟨h.bx, h.bm, h.bo, h.rest.drewN k, h.new⟩
theorem PowI.set {w0 : World} {B x M o : Nat} {X : World} (h : PowI w0 B x M o X) (v : Nat) : PowI w0 B x M v (X.setCell ⟨B + 2, 0, none⟩ (.int .u64 (v : Int))) :=
  ⟨h.bx.far (p := ⟨B + 2, 0, none⟩) (by show B ≠ B + 2; omega) _, h.bm.far (p := ⟨B + 2, 0, none⟩) (by show B + 1 ≠ B + 2; omega) _, h.bo.set_ 0 _, h.rest.setCell (p := ⟨B + 2, 0, none⟩) (.inr (by have := h.new; show _ ≤ B + 2; omega)) _, h.new⟩
/-- The power of the first k digits. -/
def pk (x n m M k : Nat) : Nat := x ^ (n / 2 ^ (m - k)) % M
theorem pk_next {x n m M k : Nat} (h : k < m) : pk x n m M (k + 1) = if bitAt n (m - 1 - k) then pk x n m M k * pk x n m M k % M * x % M else pk x n m M k * pk x n m M k % M := by
  unfold pk bitAt
  obtain ⟨j, ej⟩ : ∃ j, j = m - 1 - k := ⟨_, rfl⟩
  rw [← ej, show m - (k + 1) = j by omega, show m - k = j + 1 by omega, bstep_two]
  have e : n / 2 ^ (j + 1) = n / 2 ^ j / 2 := by rw [Nat.pow_succ, Nat.div_div_eq_div_mul]
  rw [e]
  by_cases hb : n / 2 ^ j % 2 = 1
  · rw [if_pos (by simpa using hb), bstep_one, show 2 * (n / 2 ^ j / 2) + 1 = n / 2 ^ j by omega]
  · rw [if_neg (by simpa using hb), show 2 * (n / 2 ^ j / 2) = n / 2 ^ j by omega]
theorem pk_zero {x n M : Nat} (hn : n < 2 ^ 64) : pk x n (Lib.bitLen n) M 0 = 1 % M := by
  unfold pk
  rw [Nat.sub_zero]
  by_cases h0 : n = 0
  · subst h0; simp
  · have := (Lib.bitLenAux_bounds 64 n hn h0).2.2
    unfold Lib.bitLen
    rw [Nat.div_eq_of_lt this, Nat.pow_zero]
theorem pk_all (x n m M : Nat) : pk x n m M m = x ^ n % M := by unfold pk; rw [Nat.sub_self, Nat.pow_zero, Nat.div_one]
def stepP (x M : Nat) (b : Bool) (o : Nat) : Nat := if b then o * o % M * x % M else o * o % M
theorem stepP_lt {x M : Nat} (hM : 0 < M) (b : Bool) (o : Nat) : stepP x M b o < M := by
  unfold stepP
  split <;> exact Nat.mod_lt _ hM
/-- The power when these digits have been seen. -/
def foldP (x n M : Nat) {m : Nat} (pre : List (Fin m)) : Nat := pre.foldl (fun o i => stepP x M (bitAt n (m - 1 - i.val)) o) (1 % M)
theorem foldP_snoc (x n M : Nat) {m : Nat} (pre : List (Fin m)) (i : Fin m) : foldP x n M (pre ++ [i]) = stepP x M (bitAt n (m - 1 - i.val)) (foldP x n M pre) := by simp [foldP]
theorem foldP_lt {x n M : Nat} (hM : 0 < M) {m : Nat} (pre : List (Fin m)) : foldP x n M pre < M := by
  rcases List.eq_nil_or_concat pre with e | ⟨l, i, e⟩
  · subst e; exact Nat.mod_lt _ hM
  · rw [e, List.concat_eq_append, foldP_snoc]; exact stepP_lt hM _ _
theorem foldP_take {x n M m : Nat} (hn : n < 2 ^ 64) (hm : m = Lib.bitLen n) : ∀ k, k ≤ m → foldP x n M ((List.finRange m).take k) = pk x n m M k := by
  intro k
  induction k with
  | zero => intro _; rw [hm, pk_zero hn]; rfl
  | succ k ih =>
    intro hk
    rw [fin_take (show k < m by omega), foldP_snoc, ih (by omega), pk_next (show k < m by omega)]
    rfl
theorem foldP_all {x n M m : Nat} (hn : n < 2 ^ 64) (hm : m = Lib.bitLen n) : foldP x n M (List.finRange m) = x ^ n % M := by
  have h := foldP_take (x := x) (M := M) hn hm m (Nat.le_refl _)
  rwa [fin_all, pk_all] at h
set_option maxRecDepth 100000 in
set_option maxHeartbeats 1000000 in
theorem fpow_any (a : Int) (n : Nat) (m : Int) (h0 : -9223372036854775808 ≤ a) (h1 : a ≤ 9223372036854775807) (hn : n ≤ 9223372036854775807) (hm0 : 0 < m) (hm : m ≤ 9223372036854775807) (w : World) :
    Calls Tryz.prog 20 #[.int .i64 a, .int .i64 (n : Int), .int .i64 m] w fun e w' => e = .returned (.int .i64 (powI a n m : Int)) ∧ Only NoneOf w w' := by
  obtain ⟨M, rfl⟩ : ∃ M : Nat, m = (M : Int) := ⟨m.toNat, by omega⟩
  have hM : 0 < M := by omega
  have hu : res a (M : Int) < M := by have := res_lt (a := a) hm0; omega
  have hone : res 1 (M : Int) = 1 % M := by
    have h2 := res_nat 1 M hM
    have h3 : ((1 % M : Nat) : Int) = 1 % (M : Int) := by simp
    omega
  obtain ⟨x, ex⟩ : ∃ x, x = res a (M : Int) := ⟨_, rfl⟩
  have hra := residue_any a (M : Int) h0 h1 hm0 hm
  have hrb := residue_any 1 (M : Int) (by omega) (by omega) hm0 hm
  have hres : powI a n (M : Int) = x ^ n % M := by rw [powI, ← ex, Int.toNat_natCast]
  rw [← ex] at hra hu
  rw [hone, ← pk_zero (x := x) (n := n) (by omega)] at hrb
  obtain ⟨L, eL⟩ : ∃ L, L = Lib.bitLen n := ⟨_, rfl⟩
  rw [← eL] at hrb
  have HRA := Lib.hid hra
  have HRB := Lib.hid hrb
  have HRES := Lib.hid hres
  have EL := Lib.hid eL
  have hp1 : ¬ (M : Int) < 1 := by omega
  have hn0 : decide ((n : Int) < 0) = false := decide_eq_false (by omega)
  have wM : IntKind.u64.wrap (M : Int) = (M : Int) := Mul64.wrapN _ (by omega)
  clear hra hrb hres hone ex eL h0 h1
  refine callsIn_wide.1 (callsIn_of_wp_marks (n := 9) Tryz.func20 rfl trivial ?_ rfl)
  simp only [Tryz.ntmps20, List.size_toArray, List.length_cons, List.length_nil, Nat.reduceAdd, Nat.reduceSub, Array.replicate_succ, Array.replicate_zero, List.push_toArray, List.append_toArray, List.nil_append, List.cons_append]
  refine wpIn_wide.2 ?_
  go_wp2_with fail
  refine (HRA.out _).mono ?_
  rintro e w' ⟨rfl, hw⟩
  rw [hw]
  clear hw
  go_wp2_with fail
  refine (HRB.out _).mono ?_
  rintro e w' ⟨rfl, hw⟩
  rw [hw]
  clear hw
  go_wp2_with fail
  refine (bin_any _ _).mono ?_
  rintro e w' ⟨rfl, hw⟩
  rw [hw]
  clear hw
  go_wp2_with fail
  obtain ⟨B, eB⟩ : ∃ B, B = w.heap.size := ⟨_, rfl⟩
  refine wp_gen (fun X => PowI w B x M (pk x n L M 0) X ∧ X.cell? ⟨B + 1 + 1 + 1, 0, none⟩ = some (.int .i64 (n : Int)) ∧ B + 4 ≤ X.heap.size) ?gen ?_
  case gen =>
    rw [eB]
    refine ⟨⟨(((Blk.new w _ _).alloc _).alloc _).alloc _, ?_, ?_, ((((Only.refl NoneOf w).alloc _).alloc _).alloc _).alloc _, Nat.le_refl _⟩, ?_, by simp⟩
    · have h := Blk.new (w.alloc (.cells #[.int .u64 (x : Int)] 54)) 54 #[.int .u64 (M : Int)]
      rw [World.size_alloc] at h
      exact (h.alloc _).alloc _
    · have h := Blk.new ((w.alloc (.cells #[.int .u64 (x : Int)] 54)).alloc (.cells #[.int .u64 (M : Int)] 54)) 54 #[.int .u64 ((pk x n L M 0 : Nat) : Int)]
      rw [World.size_alloc, World.size_alloc] at h
      exact h.alloc _
    · have h := (Blk.new (((w.alloc (.cells #[.int .u64 (x : Int)] 54)).alloc (.cells #[.int .u64 (M : Int)] 54)).alloc (.cells #[.int .u64 ((pk x n L M 0 : Nat) : Int)] 54)) 3 #[.int .i64 (n : Int)]).cell 0
      rw [World.size_alloc, World.size_alloc, World.size_alloc] at h
      exact h
  rintro W0 ⟨hP0, hcn, hbig0⟩
  rw [← eB]
  have HP0 := Lib.hid hP0
  have HCN := Lib.hid hcn
  have EB := Lib.hid eB
  clear hP0 hcn eB
  refine (wpIn_wide (n := 9)).1 (wpIn_rangeFunc_ownF rfl (show 1 ≤ 9 by omega) (gf := 50) (lb := #[.pointer (some ⟨B + 1 + 1 + 1, 0, none⟩)]) rfl trivial (enters_of Tryz.func50 (by kernel_rfl) rfl)
    (bin_stops 8 (B + 1 + 1 + 1) n L EL.out hn W0 HCN.out) keptA_t (keptA_b ?hA) (Below.refl _ _) ?sz
    (fun pre X => PowI w B x M (foldP x n M pre) X ∧ B + 4 ≤ X.heap.size) (fun _ _ _ => False)
    ?own (fun _ _ _ _ _ h _ _ => h) ?start ?a1 ?assign ?body ?done ?stop)
  case hA => omega
  case sz => exact fun _ => rfl
  case own => exact fun _ _ _ _ h hg hr => ⟨h.1.grown hg (fun r e => ⟨Nat.le_trans HP0.out.rest.size (hr r e).1, (hr r e).2⟩), Nat.le_trans h.2 hg.size⟩
  case start =>
    have h := HP0.out
    rw [show pk x n L M 0 = foldP x n M ([] : List (Fin L)) by rw [EL.out, pk_zero (by omega)]; rfl] at h
    exact ⟨h, hbig0⟩
  case assign =>
    intro l y X K hK
    gi_wp2
    exact hK
  case body =>
    rintro l pre y X ⟨hI, hbig⟩ hlen
    have hsn := foldP_snoc x n M pre y
    have hlt := foldP_lt (x := x) (n := n) hM pre
    obtain ⟨o, eo⟩ : ∃ o, o = foldP x n M pre := ⟨_, rfl⟩
    obtain ⟨b, eb⟩ : ∃ b, b = bitAt n (L - 1 - y.val) := ⟨_, rfl⟩
    rw [← eo] at hI hlt hsn
    rw [← eb] at hsn ⊢
    have HSN := Lib.hid hsn
    have hmul := fmul_any o o M (by omega) (by omega) hM (by omega)
    have l1 : o * o % M < M := Nat.mod_lt _ hM
    have hmul2 := fmul_any (o * o % M) x M (by omega) (by omega) hM (by omega)
    have HI := Lib.hid hI
    have hst : ∀ b, stepP x M b o = if b then o * o % M * x % M else o * o % M := fun b => rfl
    obtain ⟨v1, ev1⟩ : ∃ v1, v1 = o * o % M := ⟨_, rfl⟩
    obtain ⟨v2, ev2⟩ : ∃ v2, v2 = v1 * x % M := ⟨_, rfl⟩
    rw [← ev1] at hmul hmul2 l1 hst
    rw [← ev2] at hmul2 hst
    have HST := Lib.hid hst
    have HMUL := Lib.hid hmul
    have HMUL2 := Lib.hid hmul2
    have c0 : X.cell? ⟨B, 0, none⟩ = some (.int .u64 (x : Int)) := hI.bx.cell 0
    have c1 : X.cell? ⟨B + 1, 0, none⟩ = some (.int .u64 (M : Int)) := hI.bm.cell 0
    have c2 : X.cell? ⟨B + 1 + 1, 0, none⟩ = some (.int .u64 (o : Int)) := hI.bo.cell 0
    have f2 : X.frozen? ⟨B + 1 + 1, 0, none⟩ = false := hI.bo.frozen 0
    clear hI hmul hmul2 eo eb hsn hst ev1 ev2
    have hend : ∀ (k v : Nat), KeepsOthers X ((X.drewN k).setCell ⟨B + 1 + 1, 0, none⟩ (.int .u64 (v : Int))) ∧ KeptA (B + 1 + 1 + 1) X ((X.drewN k).setCell ⟨B + 1 + 1, 0, none⟩ (.int .u64 (v : Int))) ∧ PowI w B x M v ((X.drewN k).setCell ⟨B + 1 + 1, 0, none⟩ (.int .u64 (v : Int))) := fun k v => by
      have ho : Only (fun j => j = B + 1 + 1) X ((X.drewN k).setCell ⟨B + 1 + 1, 0, none⟩ (.int .u64 (v : Int))) := ((Only.refl (fun j => j = B + 1 + 1) X).drewN k).setCell (p := ⟨B + 1 + 1, 0, none⟩) (.inl rfl) _
      exact ⟨keepsOthers_of_only ho (fun j hj => by have e : j = B + 1 + 1 := hj; subst e; exact ⟨_, HI.out.bo, rfl⟩), ho.block _ (by omega) (by omega), (HI.out.drewN k).set v⟩
    have HEND := Lib.hid hend
    have hsz : ∀ (k v : Nat), B + 4 ≤ ((X.drewN k).setCell ⟨B + 1 + 1, 0, none⟩ (.int .u64 (v : Int))).heap.size := fun k v => by simpa [World.setCell] using hbig
    have HSZ := Lib.hid hsz
    clear hend hsz
    cases b
    · gi_wp2
      refine ⟨trivial, (CallsIn.inRound l (callsIn_wide.2 (HMUL.out _))).mono ?_⟩
      rintro e X2 ⟨rfl, k, hk⟩
      rw [hk]
      clear hk
      gi_wp2
      obtain ⟨e1, e2, e3⟩ := HEND.out k v1
      refine ⟨e1, e2, ?_, HSZ.out k v1⟩
      rw [HSN.out, HST.out]
      exact e3
    · gi_wp2
      refine ⟨trivial, (CallsIn.inRound l (callsIn_wide.2 (HMUL.out _))).mono ?_⟩
      rintro e X2 ⟨rfl, k, hk⟩
      rw [hk]
      clear hk
      have hP1 := (HEND.out k v1).2.2
      have d0 : ((X.drewN k).setCell ⟨B + 1 + 1, 0, none⟩ (.int .u64 (v1 : Int))).cell? ⟨B, 0, none⟩ = some (.int .u64 (x : Int)) := hP1.bx.cell 0
      have d1 : ((X.drewN k).setCell ⟨B + 1 + 1, 0, none⟩ (.int .u64 (v1 : Int))).cell? ⟨B + 1, 0, none⟩ = some (.int .u64 (M : Int)) := hP1.bm.cell 0
      have d2 : ((X.drewN k).setCell ⟨B + 1 + 1, 0, none⟩ (.int .u64 (v1 : Int))).cell? ⟨B + 1 + 1, 0, none⟩ = some (.int .u64 (v1 : Int)) := hP1.bo.cell 0
      clear hP1
      gi_wp2
      refine ⟨trivial, (CallsIn.inRound l (callsIn_wide.2 (HMUL2.out _))).mono ?_⟩
      rintro e X3 ⟨rfl, k2, hk2⟩
      rw [hk2]
      clear hk2
      gi_wp2
      have ho : Only (fun j => j = B + 1 + 1) X ((((X.drewN k).setCell ⟨B + 1 + 1, 0, none⟩ (.int .u64 (v1 : Int))).drewN k2).setCell ⟨B + 1 + 1, 0, none⟩ (.int .u64 (v2 : Int))) := ((((Only.refl (fun j => j = B + 1 + 1) X).drewN k).setCell (p := ⟨B + 1 + 1, 0, none⟩) (.inl rfl) _).drewN k2).setCell (p := ⟨B + 1 + 1, 0, none⟩) (.inl rfl) _
      refine ⟨keepsOthers_of_only ho (fun j hj => by have e : j = B + 1 + 1 := hj; subst e; exact ⟨_, HI.out.bo, rfl⟩), ho.block _ (by omega) (by omega), ?_, Nat.le_trans hbig ho.size⟩
      rw [HSN.out, HST.out]
      exact (((HEND.out k v1).2.2).drewN k2).set v2
  case done =>
    rintro D xs W8 hD rfl ⟨hI, hbig⟩ hK
    rw [foldP_all (by omega) EL.out] at hI
    have HI := Lib.hid hI
    have HK := Lib.hid hK
    have hlt : x ^ n % M < M := Nat.mod_lt _ hM
    obtain ⟨g, eg⟩ : ∃ g, g = x ^ n % M := ⟨_, rfl⟩
    rw [← eg] at hlt HI
    have c2 : W8.cell? ⟨B + 1 + 1, 0, none⟩ = some (.int .u64 (g : Int)) := HI.out.bo.cell 0
    have wg : IntKind.i64.wrap (g : Int) = (g : Int) := IntWalk.i64_in _ (by omega)
    have EG := Lib.hid eg
    clear hI hK eg
    go_wp2_with fail
    have hD2 : w.heap.size ≤ D := Nat.le_trans HP0.out.rest.size hD
    refine ⟨by simp, .inl ⟨_, _, rfl, run_takeDeferred HK.out, ?_⟩⟩
    refine ⟨_, results_tmp rfl _ _ _, ?_, HI.out.rest.grown (grownBy_putObj' _ D _) (fun k e => by cases e; exact .inr hD2)⟩
    exact ret_int (by rw [HRES.out, ← EG.out])
  case stop => exact fun _ _ _ _ _ _ h => h.elim
end Go.Proofs.YtmgbcjjemlcfgaaGreatDoor
