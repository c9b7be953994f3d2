/- What is proved here: slices of records in memory, those that come in and those that a call makes; contents of bids in memory. No conditions. -/
import Derived.Test.YtpdlbmieciabmaaGreatDoorM1
import Derived.Test.YtpdlbmieciabmaaGreatDoorQ1
import Derived.Deep.MidRow
import Derived.Deep.RegionLaw
import Derived.Deep.AppendLies
namespace Go.Proofs.YtpdlbmieciabmaaGreatDoor
open Go.RowKit
theorem rng_stay {w w' : World} {g o : Nat} {cs : List Value} (h : w.rangeAt g o cs) (ho : Only NoneOf w w') : w'.rangeAt g o cs := fun j v hj => ho.cell_some (h j v hj) (fun e => e)
/-- A slice that reads as these records. -/
def SlOf {α : Type} (c : α → List Value) (k : Nat) (w : World) (v : Value) (P : List α) : Prop :=
  ∃ A cap, v = .slice A P.length cap ∧ P.length ≤ cap ∧ cap ≤ 9223372036854775807 ∧ ∀ (i : Nat) (p : α), P[i]? = some p → ∃ g o, A = some ⟨g, o, none⟩ ∧ g < w.heap.size ∧ w.rangeAt g (o + i * k) (c p)
theorem SlOf.only {α : Type} {c : α → List Value} {k : Nat} {w w' : World} {v : Value} {P : List α} (h : SlOf c k w v P) (ho : Only NoneOf w w') : SlOf c k w' v P := by
  obtain ⟨A, cap, hv, h1, h2, h3⟩ := h
  refine ⟨A, cap, hv, h1, h2, fun i p hp => ?_⟩
  obtain ⟨g, o, hA, hg, hr⟩ := h3 i p hp
  exact ⟨g, o, hA, Nat.lt_of_lt_of_le hg ho.size, rng_stay hr ho⟩
theorem SlOf.empty {α : Type} (c : α → List Value) (k : Nat) (w : World) : SlOf c k w (.slice none 0 0) [] := ⟨none, 0, rfl, Nat.le_refl _, by omega, fun i p hp => by simp at hp⟩
/-- Records that the call made. -/
def OwnOf {α : Type} (t : TypeId) (c : α → List Value) (k : Nat) (w : World) (base : Nat) (v : Value) (n : Nat) (P : List α) : Prop := w.ownsRow base t k v n (P.flatMap c)
theorem OwnOf.sl {α : Type} {t : TypeId} {c : α → List Value} {k : Nat} (hc : ∀ p, (c p).length = k) {w : World} {base : Nat} {v : Value} {P : List α} (h : OwnOf t c k w base v P.length P) : SlOf c k w v P := by
  rcases h.2 with ⟨rfl, h0⟩ | ⟨g, cap, cur, rfl, hb, hh, hcap, hm, hs, ht⟩
  · have hP0 : P = [] := List.eq_nil_of_length_eq_zero h0
    subst hP0
    exact SlOf.empty c k w
  · rw [maxLen_val] at hm
    refine ⟨some ⟨g, 0, none⟩, cap, rfl, hcap, hm, fun i p hp => ⟨g, 0, rfl, Blk.lt (t := t) hh, fun j x hj => ?_⟩⟩
    have hj2 : j < k := by
      have := (List.getElem?_eq_some_iff.1 hj).1
      rw [hc] at this; exact this
    have h1 := flat_get hc P i j hj2 p hp
    have h2 := World.ownsRow.cells h rfl (i * k + j) x (h1.trans hj)
    rw [Addr.add_mid, Nat.zero_add] at h2
    rw [Nat.zero_add]
    exact h2
/-- Nothing but a block that is not this slice's changes. -/
theorem OwnOf.keep {α : Type} {t : TypeId} {c : α → List Value} {k : Nat} {S : Nat → Prop} {w w' : World} {base n : Nat} {v : Value} {P : List α} (h : OwnOf t c k w base v n P) (ho : Only S w w') (hne : ∀ b, v.ownBlock = some b → ¬ S b) : OwnOf t c k w' base v n P := own_only h ho hne
/-! ### The records of bids -/
def vlC (v : Vl) : List Value := [.string v.name, .int .i64 v.n]
/-- An entry's cells hold its values' slice. -/
structure Ec where
  lot : Int
  price : Int
  v : Value
def ecC (e : Ec) : List Value := [.int .i64 0, .int .i64 e.lot, .int .i64 0, .int .i64 e.price, e.v]
structure Rc where
  v : Value
  pc : Int
def rcC (r : Rc) : List Value := [r.v, .int .i64 r.pc]
def inC (n : Int) : List Value := [.int .i64 n]
def shC (p : Int × Int) : List Value := [.int .i64 p.1, .int .i64 p.2]
theorem vlC_len (v : Vl) : (vlC v).length = 2 := rfl
theorem ecC_len (e : Ec) : (ecC e).length = 5 := rfl
theorem rcC_len (r : Rc) : (rcC r).length = 2 := rfl
theorem inC_len (n : Int) : (inC n).length = 1 := rfl
theorem shC_len (p : Int × Int) : (shC p).length = 2 := rfl
/-- Entries and rebates in memory. -/
def EcR (w : World) (c : Ec) (e : En) : Prop := c.lot = e.lot ∧ c.price = e.price ∧ SlOf vlC 2 w c.v e.values
def EnSl (w : World) (v : Value) (es : List En) : Prop := ∃ L : List Ec, L.length = es.length ∧ SlOf ecC 5 w v L ∧ ∀ (i : Nat) (c : Ec) (e : En), L[i]? = some c → es[i]? = some e → EcR w c e
def RcR (w : World) (c : Rc) (r : Rb) : Prop := c.pc = r.pc ∧ SlOf inC 1 w c.v r.lots
def RbSl (w : World) (v : Value) (rs : List Rb) : Prop := ∃ L : List Rc, L.length = rs.length ∧ SlOf rcC 2 w v L ∧ ∀ (i : Nat) (c : Rc) (r : Rb), L[i]? = some c → rs[i]? = some r → RcR w c r
theorem EcR.only {w w' : World} {c : Ec} {e : En} (h : EcR w c e) (ho : Only NoneOf w w') : EcR w' c e := ⟨h.1, h.2.1, h.2.2.only ho⟩
theorem RcR.only {w w' : World} {c : Rc} {r : Rb} (h : RcR w c r) (ho : Only NoneOf w w') : RcR w' c r := ⟨h.1, h.2.only ho⟩
theorem EnSl.only {w w' : World} {v : Value} {es : List En} (h : EnSl w v es) (ho : Only NoneOf w w') : EnSl w' v es := by
  obtain ⟨L, h1, h2, h3⟩ := h
  exact ⟨L, h1, h2.only ho, fun i c e hc he => (h3 i c e hc he).only ho⟩
theorem RbSl.only {w w' : World} {v : Value} {rs : List Rb} (h : RbSl w v rs) (ho : Only NoneOf w w') : RbSl w' v rs := by
  obtain ⟨L, h1, h2, h3⟩ := h
  exact ⟨L, h1, h2.only ho, fun i c e hc he => (h3 i c e hc he).only ho⟩
theorem EnSl.empty (w : World) : EnSl w (.slice none 0 0) [] := ⟨[], rfl, SlOf.empty _ _ w, fun i c e h _ => by simp at h⟩
theorem RbSl.empty (w : World) : RbSl w (.slice none 0 0) [] := ⟨[], rfl, SlOf.empty _ _ w, fun i c e h _ => by simp at h⟩
/-- An entry of a list by its place. -/
theorem EnSl.at_ {w : World} {A : Option Addr} {n cap : Nat} {es : List En} (h : EnSl w (.slice A n cap) es) : n = es.length ∧ n ≤ cap ∧ cap ≤ 9223372036854775807 ∧ ∀ (i : Nat) (e : En), es[i]? = some e → ∃ g o c, A = some ⟨g, o, none⟩ ∧ g < w.heap.size ∧ w.rangeAt g (o + i * 5) (ecC c) ∧ EcR w c e := by
  obtain ⟨L, h1, ⟨A', cap', hv, h2, h3, h4⟩, h5⟩ := h
  obtain ⟨rfl, rfl, rfl⟩ := hv
  refine ⟨h1, h2, h3, fun i e he => ?_⟩
  have hi : i < L.length := by rw [h1]; exact (List.getElem?_eq_some_iff.1 he).1
  obtain ⟨c, hc⟩ : ∃ c, L[i]? = some c := ⟨_, List.getElem?_eq_getElem hi⟩
  obtain ⟨g, o, h6, h7, h8⟩ := h4 i c hc
  exact ⟨g, o, c, h6, h7, h8, h5 i c e hc he⟩
theorem RbSl.at_ {w : World} {A : Option Addr} {n cap : Nat} {rs : List Rb} (h : RbSl w (.slice A n cap) rs) : n = rs.length ∧ n ≤ cap ∧ cap ≤ 9223372036854775807 ∧ ∀ (i : Nat) (r : Rb), rs[i]? = some r → ∃ g o c, A = some ⟨g, o, none⟩ ∧ g < w.heap.size ∧ w.rangeAt g (o + i * 2) (rcC c) ∧ RcR w c r := by
  obtain ⟨L, h1, ⟨A', cap', hv, h2, h3, h4⟩, h5⟩ := h
  obtain ⟨rfl, rfl, rfl⟩ := hv
  refine ⟨h1, h2, h3, fun i r hr => ?_⟩
  have hi : i < L.length := by rw [h1]; exact (List.getElem?_eq_some_iff.1 hr).1
  obtain ⟨c, hc⟩ : ∃ c, L[i]? = some c := ⟨_, List.getElem?_eq_getElem hi⟩
  obtain ⟨g, o, h6, h7, h8⟩ := h4 i c hc
  exact ⟨g, o, c, h6, h7, h8, h5 i c r hc hr⟩
end Go.Proofs.YtpdlbmieciabmaaGreatDoor
