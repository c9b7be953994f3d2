/- What is proved here: a range over an iterator that never ends by itself: the loop's body leaves before a given number of rounds; no function of the program. No conditions. -/
import Derived.Test.YtdgapomeenigbaaDoorChunk
import Derived.RangeFuncNested
namespace Go.Proofs.YtdgapomeenigbaaDoor
open Go.RowKit

section
variable {F : Fence} {n : Nat} {P : Program}
/-- The contract of such an iterator: what holds between two rounds (J) holds for fewer than N pieces only. -/
def SeqEnds (F : Fence) (n : Nat) (P : Program) (g : Nat) (lb : Array Value) (encs : Nat → Array Value) (Kp : World → World → Prop) (N : Nat) (w : World) : Prop :=
  ∀ (l : Nat) (J Jx : Nat → World → Prop) (W : World), Below w.heap.size w W → AbidesFrom W.heap.size J → AbidesFrom W.heap.size Jx → (∀ k W1, J k W1 → k < N) →
    (∀ k W1, J k W1 → YieldAt F (n - 1) P l (encs k) W1 fun e W' => (e = .returned (.bool true) ∧ J (k + 1) W' ∧ Kp W1 W') ∨ (e = .returned (.bool false) ∧ Jx (k + 1) W')) →
    J 0 W → CallsIn F n P g (#[.func (.yield l) #[] #[]] ++ lb) W fun e W' => (∃ v, e = .returned v) ∧ ∃ k, Jx k W'
/-- What the loop's own record says. -/
def recAt (R : LoopState → Option Code → Loop) (b : Nat) (s : LoopState) (p : Option Code) (W : World) : Prop := W.heap[b + 1]? = some (.loop (R s p)) ∧ W.heap[b]? = some (.deferred (some []))
theorem recAt.grown {R : LoopState → Option Code → Loop} {b : Nat} {s : LoopState} {p : Option Code} {X Y : World} {row : Option Nat} (h : recAt R b s p X) (hg : X.grownBy Y row) (hr : ∀ r, row = some r → ∃ o : Obj, X.heap[r]? = some o ∧ o.isWalk = true) : recAt R b s p Y :=
  ⟨(grownBy_keeps hg hr h.1 rfl).trans h.1, (grownBy_keeps hg hr h.2 rfl).trans h.2⟩
theorem recAt.lt {R : LoopState → Option Code → Loop} {b : Nat} {s : LoopState} {p : Option Code} {X : World} (h : recAt R b s p X) : b + 1 < X.heap.size := (Array.getElem?_eq_some_iff.1 h.1).1
theorem recAt.keeps {R : LoopState → Option Code → Loop} {b : Nat} {s : LoopState} {p : Option Code} {X Y : World} (h : recAt R b s p X) (k : KeepsFrom b X Y) : recAt R b s p Y := ⟨k.same _ _ (by omega) h.1 rfl, k.same _ _ (Nat.le_refl _) h.2 rfl⟩
theorem recAt.turn {R : LoopState → Option Code → Loop} {b : Nat} {s : LoopState} {p : Option Code} {X : World} (h : recAt R b s p X) (s' : LoopState) (p' : Option Code) : recAt R b s' p' (X.putObj (b + 1) (.loop (R s' p'))) :=
  ⟨World.putObj_heap_same h.lt, (World.putObj_heap_other (by omega)).trans h.2⟩
/-- How a round may be left. -/
def leftSo (B : Nat) (Kp : World → World → Prop) (I Ix : Nat → World → Prop) (id : Nat) (xs : Nat) (W : World) : Exit → Act → World → Prop
  | .normal, _, W' => KeepsFrom B W W' ∧ Kp W W' ∧ I xs W'
  | .exit j, _, W' => j = id ∧ KeepsFrom B W W' ∧ Ix xs W'
  | _, _, _ => False
theorem wpIn_rangeFunc_ends {g : Operand} {ps : Array Tmp} {assign body : Code} {Q : Exit → Act → World → Prop} {a : Act} {w : World}
    (hro : F.round = none) (h1 : 1 ≤ n) {gf : Nat} {lb : Array Value} (hg : a.eval g = .func (.func gf) #[] lb) (hFg : F.fn gf) (eg : ∀ args w, (callFunc gf args).run P w = .ok (.enter gf args) w)
    {encs : Nat → Array Value} {Kp : World → World → Prop} {N : Nat} {w0 : World} (hseq : SeqEnds F (n - 1) P gf lb encs Kp N w0)
    (hKt : ∀ {A B C : World}, Kp A B → Kp B C → Kp A C) (hKb : ∀ (W : World) (l : Nat) (o o' : Obj), w.heap.size ≤ l → W.heap[l]? = some o → o.isCells = false → o.isWalk = false → Kp W (W.putObj l o')) (hb0 : Below w0.heap.size w0 w) (hps : ∀ x, (encs x).size = ps.size)
    (I Ix : Nat → World → Prop) (id : Nat) (hI : OwnFrom w.heap.size I) (hIx : OwnFrom w.heap.size Ix) (hN : ∀ k W, I k W → k < N) (h0 : I 0 w) (Ax : Nat → Act → World → Prop) (hAx : ∀ x a', OwnFrom w.heap.size (fun (_ : Unit) W => Ax x a' W))
    (hassign : ∀ (l x : Nat) (W : World) (K : Act → World → Prop), I x W → (∀ a' W', KeepsFrom w.heap.size W W' → Kp W W' → I x W' → Ax x a' W' → K a' W') →
      assign.wpIn (F.inRound l) (n - 1 - 1) P (Exit.then K (fun _ _ _ => False)) { tmps := (ps.zip (encs x)).foldl (fun t (p, v) => t.setIfInBounds p v) a.tmps, defers := [] } W)
    (hbody : ∀ (l x : Nat) (a' : Act) (W : World), I x W → Ax x a' W → body.wpIn (F.inRound l) (n - 1 - 1) P (leftSo w.heap.size Kp I Ix id (x + 1) W) a' W)
    (hstop : ∀ (D k : Nat) (W : World), w.heap.size ≤ D → Ix k W → W.heap[D]? = some (.deferred (some [])) → (Code.exit id).wpIn F n P Q { a with defers := { target := .collected D, args := #[] } :: a.defers } W) :
    (Code.rangeFunc g ps assign body).wpIn F n P Q a w := by
  refine wpIn_rangeFunc fun fn hfn => ?_
  rw [hro]
  obtain ⟨R, hR⟩ : ∃ R : LoopState → Option Code → Loop, R = fun st pe => { state := st, pending := pe, fn, tmps := a.tmps, params := ps, assign, body, defers := w.heap.size } := ⟨_, rfl⟩
  obtain ⟨b, hb⟩ : ∃ b, b = w.heap.size := ⟨_, rfl⟩
  obtain ⟨W1, hW1⟩ : ∃ W1, W1 = (w.alloc (.deferred (some []))).alloc (.loop (R .ready none)) := ⟨_, rfl⟩
  have hs1 : W1.heap.size = b + 2 := by rw [hW1, hb]; simp
  have r1 : recAt R b .ready none W1 := by
    rw [hW1, hb]
    refine ⟨?_, (Below.heap_alloc _ _ _ (by simp)).trans (World.alloc_heap_new w _)⟩
    have := World.alloc_heap_new (w.alloc (.deferred (some []))) (.loop (R .ready none))
    rwa [World.size_alloc] at this
  have i1 : I 0 W1 := by rw [hW1]; exact hI.alloc _ (hI.alloc _ h0)
  have below1 : Below w0.heap.size w0 W1 := by
    rw [hW1]; exact hb0.trans ((((Below.refl _ w).alloc (Nat.le_refl _) _).alloc (by simp) _).mono hb0.size)
  refine ⟨b + 1, [{ target := .collected b, args := #[] }], W1, { target := .fn (.func gf) lb, args := #[.func (.yield (b + 1)) #[] #[]] }, W1, gf, #[.func (.yield (b + 1)) #[] #[]] ++ lb, W1, ?_, ?_, ?_, ?_, fun _ => h1, ?_⟩
  · rw [hW1, hR, hb]; exact run_enterLoop_outer _ _ _ _ _
  · simp only [resolve, hg]
    simp [go_sem]
  · intro f' hf'; simp [Target.leads] at hf'; rw [← hf']; exact hFg
  · simp [invoke, go_sem, eg]
  have walk : ∀ {A : World} {row : Option Nat}, (∀ r, row = some r → W1.heap.size ≤ r ∧ ∃ o : Obj, A.heap[r]? = some o ∧ o.isWalk = true) → ∀ r, row = some r → w.heap.size ≤ r ∧ ∃ o : Obj, A.heap[r]? = some o ∧ o.isCells = false := fun h r e => by
    obtain ⟨h1, o, ho, hw⟩ := h r e
    exact ⟨by omega, o, ho, Obj.not_cells_of_walk hw⟩
  refine (hseq (b + 1) (fun pre W => I pre W ∧ recAt R b .ready none W) (fun pre W => Ix pre W ∧ recAt R b .done (some (.exit id)) W) W1 below1
    (fun s A B row h hg' hr => ⟨hI s A B row h.1 hg' (walk hr), h.2.grown hg' (fun r e => (hr r e).2)⟩)
    (fun s A B row h hg' hr => ⟨hIx s A B row h.1 hg' (walk hr), h.2.grown hg' (fun r e => (hr r e).2)⟩)
    (fun pre W h => hN pre W h.1) ?_ ⟨i1, r1⟩).mono ?_
  · rintro x W ⟨hi, hr⟩
    have hy := run_yield (P := P) (args := encs x) hr.1 (by rw [hR]; exact hps x)
    rw [hR] at hy
    refine ⟨fn, _, assign, body, hy, roundIn_of_wpIn hfn (hassign _ x W _ hi fun a' Wa hk hkp hia hax => ?_)⟩
    have hra := hr.keeps (hb ▸ hk)
    refine ⟨_, run_beginRound hra.1 (by rw [hR]), ?_⟩
    have hrb : recAt R b .busy none (Wa.putObj (b + 1) (.loop (R .busy none))) := hra.turn .busy none
    have eb : ({ R .ready none with state := .busy } : Loop) = R .busy none := by rw [hR]
    rw [eb]
    have k1 : Kp Wa (Wa.putObj (b + 1) (.loop (R .busy none))) := hKb _ _ _ _ (by omega) hra.1 rfl rfl
    refine wpIn_mono (hbody _ x a' _ (hI.putObj _ hia (by omega) hra.1 rfl) ((hAx x a').putObj (s := ()) _ hax (by omega) hra.1 rfl)) ?_
    rintro e a3 W3 hp
    cases e with
    | normal =>
      obtain ⟨k3, kp3, hi3⟩ := hp
      rw [← hb] at k3
      have hr3 := hrb.keeps k3
      have he := run_endRound (P := P) none hr3.1
      rw [hR] at he
      refine ⟨_, _, he, .inl ⟨rfl, ⟨hI.putObj _ hi3 (by omega) hr3.1 rfl, ?_⟩, hKt hkp (hKt (hKt k1 kp3) (hKb _ _ _ _ (by omega) hr3.1 rfl rfl))⟩⟩
      have := hr3.turn .ready none
      rw [hR] at this ⊢
      exact this
    | exit j =>
      obtain ⟨rfl, k3, hi3⟩ := hp
      rw [← hb] at k3
      have hr3 := hrb.keeps k3
      have he := run_endRound (P := P) (some (.exit j)) hr3.1
      rw [hR] at he
      refine ⟨_, _, he, .inr ⟨rfl, hIx.putObj _ hi3 (by omega) hr3.1 rfl, ?_⟩⟩
      have := hr3.turn .done (some (.exit j))
      rw [hR] at this ⊢
      exact this
    | ret => exact hp.elim
    | goto t => exact hp.elim
    | panic c => exact hp.elim
    | outgrown => exact hp.elim
  · rintro e W2 ⟨⟨v, rfl⟩, k, hi, hr⟩
    have he := run_endLoop (P := P) hr.1 (by rw [hR]; simp)
    rw [hR] at he
    exact ⟨some (.exit id), _, he, hb ▸ hstop b k _ (by omega) (hIx.putObj _ hi (by omega) hr.1 rfl) ((World.putObj_heap_other (by omega)).trans hr.2)⟩
end
end Go.Proofs.YtdgapomeenigbaaDoor
