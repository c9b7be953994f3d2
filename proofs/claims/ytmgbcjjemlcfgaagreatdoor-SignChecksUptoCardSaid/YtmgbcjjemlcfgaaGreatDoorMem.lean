/- What is proved here: laws on whole rows of cells that are stored and read, and on bytes in memory; no function of the program. No conditions. -/
import Derived.Test.YtmgbcjjemlcfgaaGreatDoorShaB
import Derived.BigRegion
namespace Go.Proofs.YtmgbcjjemlcfgaaGreatDoor
open Go.RowKit

def BytesAt (w : World) (g o : Nat) (b : List UInt8) : Prop := ∀ j x, b[j]? = some x → w.cell? ⟨g, o + j, none⟩ = some (bv x)
theorem BytesAt.only {S : Nat → Prop} {w w' : World} {g o : Nat} {b : List UInt8} (h : BytesAt w g o b) (ho : Only S w w') (hg : ¬ S g) : BytesAt w' g o b := fun j x hx => ho.cell_some (h j x hx) hg
theorem Blk.setCells {g : Nat} {t : TypeId} (vs : List Value) : ∀ {w : World} {xs : List Value} (o : Nat), Blk w g t xs.toArray → Blk (w.setCells g o vs) g t (setMany xs o vs).toArray := by
  induction vs with
  | nil => intro w xs o h; exact h
  | cons v l ih =>
    intro w xs o h
    have h1 := h.set_ o v
    rw [List.setIfInBounds_toArray] at h1
    exact ih (o + 1) h1
theorem Blk.filled {w : World} {g : Nat} {t : TypeId} {xs : List Value} (h : Blk w g t xs.toArray) (vs : List Value) (hl : vs.length = xs.length) : Blk (w.setCells g 0 vs) g t vs.toArray := by
  have := Blk.setCells vs 0 h
  rw [setMany_eq _ _ _ (by omega)] at this
  simpa [hl] using this
theorem Blk.there {w : World} {g : Nat} {t : TypeId} {cs : Array Value} (h : Blk w g t cs) (o n : Nat) (hn : o + n ≤ cs.size) : w.there g o n := fun j hj => by
  refine ⟨?_, by rw [h.frozen]⟩
  rw [h.cell, Array.getElem?_eq_getElem (by omega)]
  rfl
theorem Blk.farCells {g : Nat} {t : TypeId} {cs : Array Value} {b : Nat} (hne : g ≠ b) (vs : List Value) : ∀ {w : World} (o : Nat), Blk w g t cs → Blk (w.setCells b o vs) g t cs := by
  induction vs with
  | nil => intro w o h; exact h
  | cons v l ih => intro w o h; exact ih (o + 1) (h.far (p := ⟨b, o, none⟩) hne v)
/-- The world under a name, with what is known of it. -/
theorem wp_gen {P : Program} {c : Code} {Q : Exit → Act → World → Prop} {a : Act} {w : World} (R : World → Prop) (hR : R w) (h : ∀ W, R W → Code.wp P c Q a W) : Code.wp P c Q a w := h w hR
theorem setCells_size (w : World) (g o : Nat) (vs : List Value) : (w.setCells g o vs).heap.size = w.heap.size := by
  induction vs generalizing w o with
  | nil => rfl
  | cons v l ih =>
    show ((w.setCell ⟨g, o, none⟩ v).setCells g (o + 1) l).heap.size = _
    rw [ih]
    simp [World.setCell]
theorem calls_gen {P : Program} {f : FuncId} {args : Array Value} {w : World} {R : Ending → World → Prop} (S : World → Prop) (hS : S w) (h : ∀ W, S W → Calls P f args W R) : Calls P f args w R := h w hS
theorem there_old (w : World) (t : TypeId) (cs : Array Value) (o : Obj) (n : Nat) (h : n ≤ cs.size) : ((w.alloc (.cells cs t)).alloc o).there w.heap.size 0 n := ((Blk.new w t cs).alloc o).there 0 n (by omega)
theorem there_old2 (w : World) (t : TypeId) (cs : Array Value) (o : Obj) (b i : Nat) (vs : List Value) (n : Nat) (hb : b = w.heap.size) (h : n ≤ cs.size) : (((w.alloc o).alloc (.cells cs t)).setCells b i vs).there (w.heap.size + 1) 0 n := by
  have h1 := Blk.new (w.alloc o) t cs
  rw [World.size_alloc] at h1
  exact (h1.farCells (by omega) vs i).there 0 n (by omega)
theorem run_index_arr {P : Program} {t e : TypeId} {n : Nat} {cs : Array Value} {i : Nat} {v : Value} (h : P.underlying t = some (.array n e)) (hs : ∀ w, (Go.sizeOf e).run P w = .ok 1 w) (ha : ∀ w, (isAgg e).run P w = .ok false w) (hi : i < n) (hv : cs[i]? = some v) (w : World) :
    (Instr.index t (.agg cs) (.int .i64 (i : Int))).run P w = .ok v w := by
  simp [Instr.index, run_underlying h, asIntOf, hv, hs, ha, hi, go_sem]
theorem setCells_drew (w : World) (n : Nat) (g o : Nat) (vs : List Value) : (w.drewN n).setCells g o vs = (w.setCells g o vs).drewN n := by
  induction vs generalizing w o with
  | nil => rfl
  | cons v l ih => exact ih (w.setCell ⟨g, o, none⟩ v) (o + 1)
theorem results_blk {P : Program} {fn : Func} {p : Tmp} {ty : TypeId} {tmps : Array Value} {w : World} {g : Nat} {t : TypeId} {cs : Array Value} {d : TypeDesc} (h : fn.results = #[.cell p ty]) (hp : tmps.getD p undef = .pointer (some ⟨g, 0, none⟩)) (hb : Blk w g t cs) (hu : P.underlying ty = some d) (hd : d.isRow = true) (hi : (P.info? ty).map (·.size) = some cs.size) : (results fn tmps).run P w = .ok (.agg cs) w := by
  have hr : w.rangeAt g 0 cs.toList := fun j v hv => by rw [Nat.zero_add, hb.cell]; simpa using hv
  have := run_loadVar_mid (P := P) w g 0 ty cs.toList d hr hu hd (by simpa using hi)
  exact results_cell_of h hp (by simpa using this)
end Go.Proofs.YtmgbcjjemlcfgaaGreatDoor
