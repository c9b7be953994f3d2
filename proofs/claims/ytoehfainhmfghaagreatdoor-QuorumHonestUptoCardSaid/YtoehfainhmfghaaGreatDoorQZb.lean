/- What is proved here: heads and votes put into blocks that a region which draws its order makes anywhere. Conditions: roots have 32 bytes. -/
import Derived.Test.YtoehfainhmfghaaGreatDoorN1
namespace Go.Proofs.YtoehfainhmfghaaGreatDoor
open Go.RowKit
/-- A block made for a value of this type, empty so far. -/
def ZBl (t : TypeId) (cs : Array Value) (X W : World) (N : Nat) : Prop := Blk W N t cs ∧ X.heap.size ≤ N
section
variable {t : TypeId} {cs : Array Value} {X W W' : World} {N M : Nat}
theorem ZBl.new (h : Only NoneOf X W) : ZBl t cs X (W.alloc (.cells cs t)) W.heap.size := ⟨Blk.new W t cs, h.size⟩
theorem ZBl.newd (h : Only NoneOf X W) : ZBl t cs X (W.alloc (.cells cs t)).drew W.heap.size := ⟨(Blk.new W t cs).drew, h.size⟩
theorem ZBl.alloc (h : ZBl t cs X W N) (o : Obj) : ZBl t cs X (W.alloc o) N := ⟨h.1.alloc o, h.2⟩
theorem ZBl.allocd (h : ZBl t cs X W N) (o : Obj) : ZBl t cs X (W.alloc o).drew N := ⟨(h.1.alloc o).drew, h.2⟩
theorem ZBl.set (hne : N ≠ M) (h : ZBl t cs X W N) (vs : List Value) : ZBl t cs X (W.setCells M 0 vs) N := ⟨Blk.farCells hne vs 0 h.1, h.2⟩
theorem ZBl.step (h : ZBl t cs X W N) (ho : Only NoneOf W W') : ZBl t cs X W' N := ⟨Blk.only h.1 ho (fun e => e), h.2⟩
theorem ZBl.lt (h : ZBl t cs X W N) : N < W.heap.size := Blk.lt h.1
theorem ZBl.ne1 (h : ZBl t cs X W N) : (N = W.heap.size) = False := eq_false (by have := h.lt; omega)
theorem ZBl.ne2 (h : ZBl t cs X W N) : (W.heap.size = N) = False := eq_false (by have := h.lt; omega)
theorem ZBl.keep (h : ZBl t cs X W N) (ho : Only NoneOf X W) (vs : List Value) : Only NoneOf X (W.setCells N 0 vs) := only_setCells ho N 0 (.inr h.2) vs
end
/-- What must be known of worlds to put two values into two blocks. -/
structure ZLaws (t : TypeId) (cs : Array Value) (X : World) : Prop where
  z1 : ∀ W, Only NoneOf X W → ZBl t cs X (W.alloc (.cells cs t)) W.heap.size
  z11 : ∀ W o, Only NoneOf X W → ZBl t cs X ((W.alloc (.cells cs t)).alloc o) W.heap.size
  z12 : ∀ W o, Only NoneOf X W → ZBl t cs X ((W.alloc o).alloc (.cells cs t)) (W.heap.size + 1)
  z2 : ∀ W o N, ZBl t cs X W N → ZBl t cs X (W.alloc o) N
  n1 : ∀ W N, ZBl t cs X W N → (N = W.heap.size) = False
  n2 : ∀ W N, ZBl t cs X W N → (W.heap.size = N) = False
  k1 : ∀ W N vs, ZBl t cs X W N → Only NoneOf X W → Only NoneOf X (W.setCells N 0 vs)
  k2 : ∀ W N M vs us, ZBl t cs X W N → ZBl t cs X W M → Only NoneOf X W → M ≠ N → Only NoneOf X ((W.setCells N 0 vs).setCells M 0 us)
  a1 : ∀ (W : World) o, Only NoneOf X W → Only NoneOf X (W.alloc o)
  a2 : ∀ (W : World) o o', Only NoneOf X W → Only NoneOf X ((W.alloc o).alloc o')
theorem ZLaws.all (t : TypeId) (cs : Array Value) (X : World) : ZLaws t cs X :=
  ⟨fun _ h => .new h, fun _ o h => (ZBl.new h).alloc o, fun W o h => (by have := ZBl.new (t := t) (cs := cs) (h.alloc o); rwa [World.size_alloc] at this), fun _ o _ h => h.alloc o, fun _ _ h => h.ne1, fun _ _ h => h.ne2, fun _ _ vs h ho => h.keep ho vs, fun _ _ _ vs us h h' ho hne => (h'.set hne vs).keep (h.keep ho vs) us, fun _ o h => h.alloc o, fun _ o o' h => (h.alloc o).alloc o'⟩
theorem zb_head {X : World} {h : Hd} (hl : h.root.length = 32) (W : World) (N : Nat) (hz : ZBl tHd hd0C X W N) : (hdStore (.pointer (some ⟨N, 0, none⟩)) (.agg (hdC h).toArray)).run Tryz.prog W = .ok () (W.setCells N 0 (hdC h)) := hd_store hz.1 rfl hl
theorem zb_vote {X : World} {v : Vt} (hl : v.head.root.length = 32) (W : World) (N : Nat) (hz : ZBl tVt vt0C X W N) : (vtStore (.pointer (some ⟨N, 0, none⟩)) (.agg (vtC v).toArray)).run Tryz.prog W = .ok () (W.setCells N 0 (vtC v)) := vt_store hz.1 rfl hl
theorem zb_head2 {X : World} {h : Hd} (hl : h.root.length = 32) (W : World) (N M : Nat) (vs : List Value) (hne : M ≠ N) (hz : ZBl tHd hd0C X W M) : (hdStore (.pointer (some ⟨M, 0, none⟩)) (.agg (hdC h).toArray)).run Tryz.prog (W.setCells N 0 vs) = .ok () ((W.setCells N 0 vs).setCells M 0 (hdC h)) := hd_store (hz.set hne vs).1 rfl hl
theorem zb_vote2 {X : World} {v : Vt} (hl : v.head.root.length = 32) (W : World) (N M : Nat) (vs : List Value) (hne : M ≠ N) (hz : ZBl tVt vt0C X W M) : (vtStore (.pointer (some ⟨M, 0, none⟩)) (.agg (vtC v).toArray)).run Tryz.prog (W.setCells N 0 vs) = .ok () ((W.setCells N 0 vs).setCells M 0 (vtC v)) := vt_store (hz.set hne vs).1 rfl hl
/-- Two heads in two blocks. -/
structure TwoH (X : World) (N M : Nat) (a b : Hd) (W : World) : Prop where
  a : HdAt W N a
  b : HdAt W M b
  only : Only NoneOf X W
theorem TwoH.made {X W : World} {N M : Nat} {a b : Hd} (hN : ZBl tHd hd0C X W N) (hM : ZBl tHd hd0C X W M) (hne : N ≠ M) (ho : Only NoneOf X W) (la : a.root.length = 32) (lb : b.root.length = 32) : TwoH X N M a b ((W.setCells N 0 (hdC a)).setCells M 0 (hdC b)) := by
  have h1 := filled_whole (ds := hdC a) hN.1 (by rw [hdC_len la]; rfl)
  have h2 : ZBl tHd hd0C X (W.setCells N 0 (hdC a)) M := hM.set (Ne.symm hne) _
  exact ⟨Blk.farCells hne _ 0 h1, filled_whole (ds := hdC b) h2.1 (by rw [hdC_len lb]; rfl), h2.keep (hN.keep ho _) _⟩
/-- Two votes in two blocks. -/
structure TwoV (X : World) (N M : Nat) (a b : Vt) (W : World) : Prop where
  a : VtAt W N a
  b : VtAt W M b
  only : Only NoneOf X W
theorem TwoV.made {X W : World} {N M : Nat} {a b : Vt} (hN : ZBl tVt vt0C X W N) (hM : ZBl tVt vt0C X W M) (hne : N ≠ M) (ho : Only NoneOf X W) (la : a.head.root.length = 32) (lb : b.head.root.length = 32) : TwoV X N M a b ((W.setCells N 0 (vtC a)).setCells M 0 (vtC b)) := by
  have h1 := filled_whole (ds := vtC a) hN.1 (by rw [vtC_len la]; rfl)
  have h2 : ZBl tVt vt0C X (W.setCells N 0 (vtC a)) M := hM.set (Ne.symm hne) _
  exact ⟨Blk.farCells hne _ 0 h1, filled_whole (ds := vtC b) h2.1 (by rw [vtC_len lb]; rfl), h2.keep (hN.keep ho _) _⟩
theorem TwoH.keep {X : World} {N M : Nat} {a b : Hd} {W W' : World} (h : TwoH X N M a b W) (ho : Only NoneOf W W') : TwoH X N M a b W' := ⟨Blk.only h.a ho (fun e => e), Blk.only h.b ho (fun e => e), h.only.trans ho⟩
theorem TwoV.keep {X : World} {N M : Nat} {a b : Vt} {W W' : World} (h : TwoV X N M a b W) (ho : Only NoneOf W W') : TwoV X N M a b W' := ⟨Blk.only h.a ho (fun e => e), Blk.only h.b ho (fun e => e), h.only.trans ho⟩
end Go.Proofs.YtoehfainhmfghaaGreatDoor
