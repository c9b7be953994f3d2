/- What is proved here: records that a call makes and appends, one by one, in slices of its own: lots with values, rebates, rows of words. Conditions: there are few. -/
import Derived.Test.YtpdlbmieciabmaaGreatDoorQ3
import Derived.Test.YtpdlbmieciabmaaGreatDoorQ1
import Derived.Maps.AppendAt
namespace Go.Proofs.YtpdlbmieciabmaaGreatDoor
open Go.RowKit Go.Shelf
/-- An append under a name that the walk does not open. -/
def aph (ts : Array TypeId) (t : TypeId) (vs : Array Value) : Sem Value := Builtin.append_ ts t vs
theorem aph_eq (ts : Array TypeId) (t : TypeId) (vs : Array Value) : Builtin.append_ ts t vs = aph ts t vs := rfl
/-- What is known of a record's type: its number of cells and of bytes. -/
def RecI (t : TypeId) (k B : Nat) : Prop := ∃ ie z, Tryz.prog.info? t = some ie ∧ ie.size = k ∧ ie.zero = some z ∧ z.cells.size = k ∧ ie.bytes = B
theorem recI_of {t : TypeId} {k B : Nat} (h1 : (Tryz.prog.info? t).map (·.size) = some k) (h2 : ((Tryz.prog.info? t).bind (·.zero)).map (fun z => z.cells.size) = some k) (h3 : (Tryz.prog.info? t).map (·.bytes) = some B) : RecI t k B := by
  cases hie : Tryz.prog.info? t with
  | none => simp [hie] at h1
  | some ie =>
    simp only [hie, Option.map_some, Option.some.injEq, Option.bind_some] at h1 h2 h3
    cases hz : ie.zero with
    | none => simp [hz] at h2
    | some z =>
      simp only [hz, Option.map_some, Option.some.injEq] at h2
      exact ⟨ie, z, hie, h1, hz, h2, h3⟩
/-- One record is appended to those that the call made. -/
theorem run_append_rec {α : Type} {T t : TypeId} {k B : Nat} {c : α → List Value} (hT : Tryz.prog.underlying T = some (.slice t)) (hI : RecI t k B) (hk : 0 < k) (hB : B ≤ 128) (hc : ∀ p, (c p).length = k) (W : World) (base : Nat) (v : Value) (P : List α) (p : α) (h1 : ∀ u ∈ c p, u.oneCell' = true) (hown : OwnOf t c k W base v P.length P) (N : Nat) (hsrc : Blk W N t (c p).toArray) (hn : P.length ≤ 1000000000) (hb : base ≤ W.heap.size) (ty : TypeId) :
    ∃ A cap W', (aph #[T, T] ty #[v, .slice (some ⟨N, 0, none⟩) 1 1]).run Tryz.prog W = .ok (.slice A (P.length + 1) cap) W' ∧ OwnOf t c k W' base (.slice A (P.length + 1) cap) (P.length + 1) (P ++ [p]) ∧ W.grownBy W' v.ownBlock ∧ ((Value.slice A (P.length + 1) cap).ownBlock = v.ownBlock ∨ (Value.slice A (P.length + 1) cap).ownBlock = some W.heap.size) := by
  obtain ⟨ie, z, hie, hsz, hz, hzc, hby⟩ := hI
  have hnews : ∀ j x, (c p)[j]? = some x → W.cell? ((⟨N, 0, none⟩ : Addr).add j) = some x := fun j x hj => by
    rw [Addr.add_mid, Nat.zero_add, hsrc.cell]
    simpa using hj
  have hmul : (P.length + 1) * B ≤ (P.length + 1) * 128 := Nat.mul_le_mul (Nat.le_refl _) hB
  obtain ⟨v', W', hr, h2, h3, _, h5⟩ := run_append_own_at (P := Tryz.prog) W base T ty t ie z k B hT hie hz hsz hby hzc hk v P.length (P.flatMap c) hown ⟨N, 0, none⟩ 1 1 (c p) (by rw [hc, Nat.one_mul]) hnews h1 (by rw [maxLen_val]; omega) (by omega) hb
  obtain ⟨A, cap', e, _, _⟩ := own_form' h2
  subst e
  exact ⟨A, cap', W', hr, by unfold OwnOf; rw [List.flatMap_append, List.flatMap_cons, List.flatMap_nil, List.append_nil]; exact h2, h3, h5⟩
/-! ### Slices whose block's type is known -/
def SlT {α : Type} (t : TypeId) (c : α → List Value) (k : Nat) (w : World) (v : Value) (P : List α) : Prop :=
  ∃ A cap, v = .slice A P.length cap ∧ P.length ≤ cap ∧ cap ≤ 9223372036854775807 ∧ ∀ (i : Nat) (p : α), P[i]? = some p → ∃ g o cur, A = some ⟨g, o, none⟩ ∧ Blk w g t cur ∧ w.rangeAt g (o + i * k) (c p)
theorem SlT.sl {α : Type} {t : TypeId} {c : α → List Value} {k : Nat} {w : World} {v : Value} {P : List α} (h : SlT t c k w v P) : SlOf c k w v P := by
  obtain ⟨A, cap, hv, h1, h2, h3⟩ := h
  refine ⟨A, cap, hv, h1, h2, fun i p hp => ?_⟩
  obtain ⟨g, o, cur, hA, hb, hr⟩ := h3 i p hp
  exact ⟨g, o, hA, hb.lt, hr⟩
theorem SlT.keep {α : Type} {t : TypeId} {c : α → List Value} {k : Nat} {S : Nat → Prop} {w w' : World} {v : Value} {P : List α} (h : SlT t c k w v P) (ho : Only S w w') (hS : ∀ g cur, Blk w g t cur → v.ownBlock = some g → ¬ S g) : SlT t c k w' v P := by
  obtain ⟨A, cap, hv, h1, h2, h3⟩ := h
  refine ⟨A, cap, hv, h1, h2, fun i p hp => ?_⟩
  obtain ⟨g, o, cur, hA, hb, hr⟩ := h3 i p hp
  have hg : ¬ S g := hS g cur hb (by rw [hv, hA]; rfl)
  exact ⟨g, o, cur, hA, hb.only ho hg, fun j x hj => ho.cell_some (hr j x hj) hg⟩
theorem SlT.none_ {α : Type} {t : TypeId} {c : α → List Value} {k : Nat} {w w' : World} {v : Value} {P : List α} (h : SlT t c k w v P) (ho : Only NoneOf w w') : SlT t c k w' v P := h.keep ho (fun _ _ _ _ e => e)
theorem SlT.nil {α : Type} (t : TypeId) (c : α → List Value) (k : Nat) (w : World) : SlT t c k w (.slice none 0 0) [] := ⟨none, 0, rfl, Nat.le_refl _, by omega, fun i p hp => by simp at hp⟩
theorem OwnOf.slT {α : Type} {t : TypeId} {c : α → List Value} {k : Nat} (hc : ∀ p, (c p).length = k) {w : World} {base : Nat} {v : Value} {P : List α} (h : OwnOf t c k w base v P.length P) : SlT t c k w v P := by
  have hs := OwnOf.sl hc h
  obtain ⟨A, cap, hv, h1, h2, h3⟩ := hs
  refine ⟨A, cap, hv, h1, h2, fun i p hp => ?_⟩
  obtain ⟨g, o, hA, hg, hr⟩ := h3 i p hp
  rcases h.2 with ⟨h0, h9⟩ | ⟨g', cap', cur, h0, hb, hh, _⟩
  · rw [List.eq_nil_of_length_eq_zero h9] at hp
    simp at hp
  · rw [hv, hA] at h0
    cases h0
    exact ⟨g, 0, cur, hA, hh, hr⟩
theorem OwnOf.nil {α : Type} (t : TypeId) (c : α → List Value) (k : Nat) (w : World) (base : Nat) : OwnOf t c k w base (.slice none 0 0) 0 [] := ⟨(by simp), .inl ⟨rfl, rfl⟩⟩
theorem OwnOf.cur {α : Type} {t : TypeId} {c : α → List Value} {k : Nat} {w w' : World} {base n C : Nat} {v : Value} {L : List α} (h : OwnOf t c k w base v n L) (ho : Only (· = C) w w') (hC : C < base) : OwnOf t c k w' base v n L := OwnOf.keep h ho (fun b hb e => by
  have := (own_ge h hb).1
  have e' : b = C := e
  omega)
/-- A slice without its first records. -/
theorem SlT.drop {α : Type} {t : TypeId} {c : α → List Value} {k : Nat} {w : World} {g o n cap : Nat} {P : List α} (h : SlT t c k w (.slice (some ⟨g, o, none⟩) n cap) P) (j : Nat) (hj : j ≤ P.length) : SlT t c k w (.slice (some ⟨g, o + j * k, none⟩) (n - j) (cap - j)) (P.drop j) := by
  obtain ⟨A, cap', hv, h1, h2, h3⟩ := h
  cases hv
  refine ⟨_, _, by rw [List.length_drop], by rw [List.length_drop]; omega, by omega, fun i p hp => ?_⟩
  rw [List.getElem?_drop] at hp
  obtain ⟨g', o', cur, hA, hb, hr⟩ := h3 (j + i) p hp
  cases hA
  refine ⟨g, _, cur, rfl, hb, ?_⟩
  rw [show o + j * k + i * k = o + (j + i) * k by rw [Nat.add_mul, Nat.add_assoc]]
  exact hr
/-! ### Rows of words -/
def strC (t : ByteArray) : List Value := [.string t]
def valC (v : Value) : List Value := [v]
theorem strC_len (t : ByteArray) : (strC t).length = 1 := rfl
theorem valC_len (v : Value) : (valC v).length = 1 := rfl
/-- Rows of words that the call made. -/
def RowsOwn (w : World) (base : Nat) (v : Value) (n : Nat) (rows : List (List ByteArray)) : Prop := ∃ L : List Value, L.length = rows.length ∧ OwnOf 72 valC 1 w base v n L ∧ ∀ (i : Nat) (u : Value) (r : List ByteArray), L[i]? = some u → rows[i]? = some r → SlT 9 strC 1 w u r
/-- Rows of words to be read. -/
def RowsSl (w : World) (v : Value) (rows : List (List ByteArray)) : Prop := ∃ A cap, v = .slice A rows.length cap ∧ rows.length ≤ cap ∧ cap ≤ 9223372036854775807 ∧ ∀ (i : Nat) (r : List ByteArray), rows[i]? = some r → ∃ g o u, A = some ⟨g, o, none⟩ ∧ w.cell? ⟨g, o + i, none⟩ = some u ∧ SlT 9 strC 1 w u r
theorem RowsOwn.sl {w : World} {base : Nat} {v : Value} {rows : List (List ByteArray)} (h : RowsOwn w base v rows.length rows) : RowsSl w v rows := by
  obtain ⟨L, hl, h1, h2⟩ := h
  rw [← hl] at h1
  obtain ⟨A, cap, hv, h3, h4, h5⟩ := OwnOf.sl valC_len h1
  refine ⟨A, cap, by rw [hv, hl], by omega, h4, fun i r hr => ?_⟩
  have hi : i < L.length := by rw [hl]; exact (List.getElem?_eq_some_iff.1 hr).1
  obtain ⟨u, hu⟩ : ∃ u, L[i]? = some u := ⟨_, List.getElem?_eq_getElem hi⟩
  obtain ⟨g, o, hA, _, hrg⟩ := h5 i u hu
  exact ⟨g, o, u, hA, by simpa using hrg 0 u rfl, h2 i u r hu hr⟩
theorem RowsSl.only {w w' : World} {v : Value} {rows : List (List ByteArray)} (h : RowsSl w v rows) (ho : Only NoneOf w w') : RowsSl w' v rows := by
  obtain ⟨A, cap, hv, h1, h2, h3⟩ := h
  refine ⟨A, cap, hv, h1, h2, fun i r hr => ?_⟩
  obtain ⟨g, o, u, hA, hc, hs⟩ := h3 i r hr
  exact ⟨g, o, u, hA, ho.cell_some hc (fun e => e), hs.none_ ho⟩
theorem RowsOwn.nil (w : World) (base : Nat) : RowsOwn w base (.slice none 0 0) 0 [] := ⟨[], rfl, OwnOf.nil _ _ _ _ _, fun i u r h _ => by simp at h⟩
theorem RowsOwn.keep {S : Nat → Prop} {w w' : World} {base n : Nat} {v : Value} {rows : List (List ByteArray)} (h : RowsOwn w base v n rows) (ho : Only S w w') (h1 : ∀ b, v.ownBlock = some b → ¬ S b) (h2 : ∀ b cur, Blk w b 9 cur → ¬ S b) : RowsOwn w' base v n rows := by
  obtain ⟨L, hl, k1, k2⟩ := h
  exact ⟨L, hl, OwnOf.keep k1 ho h1, fun i u r hu hr => (k2 i u r hu hr).keep ho (fun g cur hb _ => h2 g cur hb)⟩
theorem rowsI : RecI 72 1 24 := recI_of (by kernel_rfl) (by kernel_rfl) (by kernel_rfl)
theorem val_one (u : Value) (h : u.oneCell' = true) : ∀ x ∈ valC u, x.oneCell' = true := fun x hx => by
  obtain rfl := List.mem_singleton.1 hx
  exact h
end Go.Proofs.YtpdlbmieciabmaaGreatDoor
