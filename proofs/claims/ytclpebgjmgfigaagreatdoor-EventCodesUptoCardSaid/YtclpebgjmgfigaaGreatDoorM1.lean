/- What is proved here: several parts. plain lemmas on worlds, on blocks that are left alone, and on lists of records laid out as cells; they name no function of the program. No conditions. · a law that answers true and leaves all that was there as it was meets the statements' form. Conditions: the arguments' types can be read. · how a slice, or a struct, that comes in is opened to plain records. Conditions: what comes in can be read. · how a slice of records that comes in is opened, the bulk of each record with it. Conditions: what comes in can be read. · SHA-256 in plain Lean, and laws on words of 32 bits as the walk writes them. No program in sight. No conditions. · the constants and the rotation of the reference's SHA-256. No conditions. · the words of the program's SHA-256. No conditions. · laws on whole rows of cells that are stored and read, and on bytes in memory; no function of the program. No conditions. -/
import Derived.Test.YtclpebgjmgfigaaGreatDoorRows
import Derived.WalkKit
import Derived.WalkSpells
import Derived.WalkLawsBesides
import Derived.Deep.QuietTactic
import Derived.BigQuiet
import Derived.Deep.DrawnRows
import Derived.Lib.Hide
import Derived.ProofKit
import Derived.Carry
import Derived.JoinedCond
import Derived.Deep.Slices
import Derived.Deep.Fields
import Derived.Lib.SmallJoins
import Derived.Lib.Bits
import Derived.Deep.MidRow
import Derived.IntWalk
import Derived.BigRegion
namespace Go.Proofs.YtclpebgjmgfigaaGreatDoor
open Go.RowKit

/-- Only blocks in S (and new ones) may have turned. -/
structure Only (S : Nat → Prop) (w w' : World) : Prop where
  os : w'.os = w.os
  tape : w'.tape = w.tape
  output : w'.output = w.output
  size : w.heap.size ≤ w'.heap.size
  block : ∀ k, k < w.heap.size → ¬ S k → w'.heap[k]? = w.heap[k]?

def NoneOf : Nat → Prop := fun _ => False

section
variable {S S' : Nat → Prop} {a b w w' w'' : World}
theorem Only.refl (S : Nat → Prop) (w : World) : Only S w w := ⟨rfl, rfl, rfl, Nat.le_refl _, fun _ _ _ => rfl⟩
theorem Only.trans (h : Only S w w') (k : Only S w' w'') : Only S w w'' :=
  ⟨k.os.trans h.os, k.tape.trans h.tape, k.output.trans h.output, Nat.le_trans h.size k.size,
    fun i hi hn => (k.block i (Nat.lt_of_lt_of_le hi h.size) hn).trans (h.block i hi hn)⟩
/-- The second may turn more, as long as that is new. -/
theorem Only.trans' (h : Only S w w') (k : Only S' w' w'') (hS : ∀ i, i < w.heap.size → S' i → S i) : Only S w w'' :=
  ⟨k.os.trans h.os, k.tape.trans h.tape, k.output.trans h.output, Nat.le_trans h.size k.size,
    fun i hi hn => (k.block i (Nat.lt_of_lt_of_le hi h.size) (fun hs => hn (hS i hi hs))).trans (h.block i hi hn)⟩
theorem Only.mono (h : Only S w w') (hS : ∀ i, i < w.heap.size → S i → S' i) : Only S' w w' :=
  ⟨h.os, h.tape, h.output, h.size, fun i hi hn => h.block i hi (fun hs => hn (hS i hi hs))⟩
theorem Only.drew (h : Only S w w') : Only S w w'.drew := ⟨h.os, h.tape, h.output, h.size, h.block⟩
theorem Only.drewN (h : Only S w w') (n : Nat) : Only S w (w'.drewN n) := ⟨h.os, h.tape, h.output, h.size, h.block⟩
theorem Only.alloc (h : Only S w w') (o : Obj) : Only S w (w'.alloc o) :=
  ⟨h.os, h.tape, h.output, Nat.le_trans h.size (by simp), fun i hi hn => (Below.heap_alloc w' o i (Nat.lt_of_lt_of_le hi h.size)).trans (h.block i hi hn)⟩
theorem Only.setCell (h : Only S w w') {p : Addr} (hp : S p.block ∨ w.heap.size ≤ p.block) (u : Value) : Only S w (w'.setCell p u) :=
  ⟨h.os, h.tape, h.output, by simpa [World.setCell] using h.size, fun i hi hn => (Below.heap_setCell w' p u i (by
    rintro rfl
    rcases hp with hp | hp
    · exact hn hp
    · omega)).trans (h.block i hi hn)⟩
theorem Only.grown {row : Option Nat} (h : Only S w w') (hg : w'.grownBy w'' row) (hr : ∀ k, row = some k → S k ∨ w.heap.size ≤ k) : Only S w w'' :=
  ⟨hg.os.trans h.os, hg.tape.trans h.tape, hg.output.trans h.output, Nat.le_trans h.size hg.size,
    fun i hi hn => (hg.block i (Nat.lt_of_lt_of_le hi h.size) (fun e => by
      rcases hr i e.symm with h1 | h1
      · exact hn h1
      · omega)).trans (h.block i hi hn)⟩
theorem Only.below' {B : Nat} (h : Only S w w') (k : Below B w' w'') (hB : w.heap.size ≤ B) : Only S w w'' :=
  ⟨k.os.trans h.os, k.tape.trans h.tape, k.output.trans h.output, Nat.le_trans h.size k.size,
    fun i hi hn => (k.block i (Nat.lt_of_lt_of_le hi hB)).trans (h.block i hi hn)⟩
theorem Only.of_below (h : Below w.heap.size w w') (S : Nat → Prop) : Only S w w' := ⟨h.os, h.tape, h.output, h.size, fun i hi _ => h.block i hi⟩
theorem Only.below {B : Nat} (h : Only S w w') (hB : B ≤ w.heap.size) (hS : ∀ i, S i → B ≤ i) : Below B w w' :=
  ⟨h.os, h.tape, h.output, h.size, fun i hi => h.block i (by omega) (fun hs => by have := hS i hs; omega)⟩
theorem Only.cell (h : Only S w w') {p : Addr} (hp : p.block < w.heap.size) (hn : ¬ S p.block) : w'.cell? p = w.cell? p := World.cell?_of_block (h.block _ hp hn)
theorem Only.cell_some (h : Only S w w') {p : Addr} {v : Value} (hv : w.cell? p = some v) (hn : ¬ S p.block) : w'.cell? p = some v :=
  (h.cell (World.block_lt_of_cell? w p hv) hn).trans hv
theorem Only.grownBy {g : Option Nat} (h : Only S w w') (hS : ∀ i, S i → some i = g) : w.grownBy w' g :=
  ⟨h.os, h.tape, h.output, h.size, fun i hi hn => h.block i hi (fun hs => hn (hS i hs))⟩
end

/-- A block that is known whole, none of it frozen. -/
def Blk (w : World) (g : Nat) (t : TypeId) (cs : Array Value) : Prop := w.heap[g]? = some (.cells cs t (0, 0))

section
variable {S : Nat → Prop} {w w' : World} {g : Nat} {t : TypeId} {cs : Array Value}
theorem Blk.lt (h : Blk w g t cs) : g < w.heap.size := by
  rcases Nat.lt_or_ge g w.heap.size with hlt | hge
  · exact hlt
  · unfold Blk at h; rw [Array.getElem?_eq_none hge] at h; cases h
theorem Blk.cell (h : Blk w g t cs) (i : Nat) : w.cell? ⟨g, i, none⟩ = cs[i]? := cell_of_row w g i cs t (0, 0) h
theorem Blk.frozen (h : Blk w g t cs) (i : Nat) : w.frozen? ⟨g, i, none⟩ = false := by
  unfold Blk at h
  simp [World.frozen?, h]
theorem Blk.new (w : World) (t : TypeId) (cs : Array Value) : Blk (w.alloc (.cells cs t)) w.heap.size t cs := heap_alloc_new w _
theorem Blk.drew (h : Blk w g t cs) : Blk w.drew g t cs := h
theorem Blk.drewN (h : Blk w g t cs) (n : Nat) : Blk (w.drewN n) g t cs := h
theorem Blk.alloc (h : Blk w g t cs) (o : Obj) : Blk (w.alloc o) g t cs := (Below.heap_alloc w o g h.lt).trans h
theorem Blk.set_ (h : Blk w g t cs) (i : Nat) (u : Value) : Blk (w.setCell ⟨g, i, none⟩ u) g t (cs.setIfInBounds i u) := by
  unfold Blk at h ⊢
  simp [World.setCell, Array.getElem?_modify, h]
theorem Blk.far (h : Blk w g t cs) {p : Addr} (hp : g ≠ p.block) (u : Value) : Blk (w.setCell p u) g t cs := (Below.heap_setCell w p u g hp).trans h
theorem Blk.only (h : Blk w g t cs) (hb : Only S w w') (hg : ¬ S g) : Blk w' g t cs := (hb.block g h.lt hg).trans h
theorem Blk.below {B : Nat} (h : Blk w g t cs) (hb : Below B w w') (hg : g < B) : Blk w' g t cs := (hb.block g hg).trans h
theorem Blk.grown {row : Option Nat} (h : Blk w g t cs) (hb : w.grownBy w' row) (hg : some g ≠ row) : Blk w' g t cs := (hb.block g h.lt hg).trans h
theorem Blk.ne_ {g' : Nat} {t' : TypeId} {cs' : Array Value} (h : Blk w g t cs) (h' : Blk w g' t' cs') (hne : t ≠ t') : g ≠ g' := by
  rintro rfl
  unfold Blk at h h'
  rw [h] at h'
  injection h' with h'
  injection h' with _ ht
  exact hne ht
end

section
variable {S : Nat → Prop} {w w' : World} {base : Nat} {e : TypeId} {size n : Nat} {v : Value} {xs : List Value}
theorem own_only (h : w.ownsRow base e size v n xs) (hg : Only S w w') (hne : ∀ k, v.ownBlock = some k → ¬ S k) : w'.ownsRow base e size v n xs := by
  refine ⟨h.1, ?_⟩
  rcases h.2 with h0 | ⟨g, cap, cur, rfl, hb, hh, hr⟩
  · exact .inl h0
  · refine .inr ⟨g, cap, cur, rfl, hb, ?_, hr⟩
    exact Blk.only (t := e) hh hg (hne g rfl)
theorem own_blk_ne {g : Nat} {t : TypeId} {cs : Array Value} (h : w.ownsRow base e size v n xs) (hg : Blk w g t cs) (hne : e ≠ t) : v.ownBlock ≠ some g := by
  rcases h.2 with ⟨rfl, _⟩ | ⟨g', cap, cur, rfl, _, hh, _⟩
  · simp [Value.ownBlock]
  · intro he
    have : g' = g := by simpa [Value.ownBlock] using he
    subst this
    exact Blk.ne_ (t := e) hh hg hne rfl
theorem own_own_ne {e' : TypeId} {base' size' n' : Nat} {v' : Value} {xs' : List Value} (h : w.ownsRow base e size v n xs) (h' : w.ownsRow base' e' size' v' n' xs') (hne : e ≠ e') {g : Nat} (hg : v.ownBlock = some g) : v'.ownBlock ≠ some g := by
  rcases h.2 with ⟨rfl, _⟩ | ⟨g', cap, cur, rfl, _, hh, _⟩
  · simp [Value.ownBlock] at hg
  · have : g' = g := by simpa [Value.ownBlock] using hg
    subst this
    exact own_blk_ne h' hh (Ne.symm hne)
theorem own_far (h : w.ownsRow base e size v n xs) {p : Addr} (hp : v.ownBlock ≠ some p.block) (u : Value) : (w.setCell p u).ownsRow base e size v n xs :=
  own_only h ((Only.refl (fun k => k = p.block) w).setCell (.inl rfl) u) (fun k hk hs => hp (by rw [hk, hs]))
theorem own_drewN (h : w.ownsRow base e size v n xs) (k : Nat) : (w.drewN k).ownsRow base e size v n xs := h
theorem own_drew (h : w.ownsRow base e size v n xs) : w.drew.ownsRow base e size v n xs := h
theorem own_form (h : w.ownsRow base e size v n xs) (hn : 0 < n) : ∃ g cap, v = .slice (some ⟨g, 0, none⟩) n cap ∧ base ≤ g ∧ g < w.heap.size ∧ n ≤ cap ∧ cap ≤ maxLen := by
  rcases h.2 with ⟨_, h0⟩ | ⟨g, cap, cur, hv, hb, hh, hc, hm, _⟩
  · omega
  · exact ⟨g, cap, hv, hb, Blk.lt (t := e) hh, hc, hm⟩
theorem own_form' (h : w.ownsRow base e size v n xs) : ∃ A cap, v = .slice A n cap ∧ n ≤ cap ∧ cap ≤ maxLen := by
  rcases h.2 with ⟨rfl, rfl⟩ | ⟨g, cap, cur, hv, hb, hh, hc, hm, _⟩
  · exact ⟨none, 0, rfl, by omega, by unfold maxLen; omega⟩
  · exact ⟨_, cap, hv, hc, hm⟩
theorem own_base {base' : Nat} (h : w.ownsRow base e size v n xs) (hb : base' ≤ base) : w.ownsRow base' e size v n xs := by
  refine ⟨h.1, ?_⟩
  rcases h.2 with h0 | ⟨g, cap, cur, rfl, hb', hr⟩
  · exact .inl h0
  · exact .inr ⟨g, cap, cur, rfl, by omega, hr⟩
theorem own_shrink {g cap m : Nat} (h : w.ownsRow base e size (.slice (some ⟨g, 0, none⟩) n cap) n xs) (hm : m ≤ n) : w.ownsRow base e size (.slice (some ⟨g, 0, none⟩) m cap) m (xs.take (m * size)) := by
  have hms : m * size ≤ n * size := Nat.mul_le_mul_right _ hm
  refine ⟨by rw [List.length_take, h.1]; omega, .inr ?_⟩
  rcases h.2 with ⟨hv, _⟩ | ⟨g', cap', cur, hv, hb, hh, hc, hx, hs, ht⟩
  · simp at hv
  · simp only [Value.slice.injEq, Option.some.injEq, Addr.mk.injEq, and_true, true_and] at hv
    obtain ⟨rfl, rfl⟩ := hv
    exact ⟨g, cap, cur, rfl, hb, hh, by omega, hx, hs, by rw [← ht, List.take_take, Nat.min_eq_left hms]⟩
theorem own_ge (h : w.ownsRow base e size v n xs) {g : Nat} (hg : v.ownBlock = some g) : base ≤ g ∧ g < w.heap.size := h.lt g hg
end

/-! ### Lists of records, laid out as cells -/
section
variable {α : Type} {f : α → List Value} {s : Nat}
theorem flat_len (hf : ∀ p, (f p).length = s) (L : List α) : (L.flatMap f).length = L.length * s := by
  induction L with
  | nil => simp
  | cons x l ih => simp [List.flatMap_cons, hf, ih, Nat.add_mul]; omega
theorem flat_get (hf : ∀ p, (f p).length = s) (L : List α) (i k : Nat) (hk : k < s) (p : α) (hp : L[i]? = some p) : (L.flatMap f)[i * s + k]? = (f p)[k]? := by
  induction L generalizing i with
  | nil => simp at hp
  | cons x l ih =>
    cases i with
    | zero =>
      simp at hp; subst hp
      simp only [List.flatMap_cons, Nat.zero_mul, Nat.zero_add]
      rw [List.getElem?_append_left (by rw [hf]; exact hk)]
    | succ i =>
      simp only [List.flatMap_cons]
      rw [List.getElem?_append_right (by rw [hf, Nat.add_mul]; omega), hf, show (i + 1) * s + k - s = i * s + k by rw [Nat.add_mul]; omega]
      exact ih i (by simpa using hp)
theorem flat_take (hf : ∀ p, (f p).length = s) (L : List α) (i : Nat) : (L.flatMap f).take (i * s) = (L.take i).flatMap f := by
  induction L generalizing i with
  | nil => simp
  | cons x l ih =>
    cases i with
    | zero => simp
    | succ i =>
      simp only [List.flatMap_cons, List.take_succ_cons]
      rw [List.take_append, hf, show (i + 1) * s - s = i * s by rw [Nat.add_mul]; omega, ih, List.take_of_length_le (by rw [hf, Nat.add_mul]; omega)]
theorem flat_drop (hf : ∀ p, (f p).length = s) (L : List α) (i : Nat) : (L.flatMap f).drop (i * s) = (L.drop i).flatMap f := by
  induction L generalizing i with
  | nil => simp
  | cons x l ih =>
    cases i with
    | zero => simp
    | succ i =>
      simp only [List.flatMap_cons, List.drop_succ_cons]
      rw [List.drop_append, hf, show (i + 1) * s - s = i * s by rw [Nat.add_mul]; omega, ih, List.drop_of_length_le (by rw [hf, Nat.add_mul]; omega)]
      simp
theorem flat_set (hf : ∀ p, (f p).length = s) (L : List α) (i : Nat) (hi : i < L.length) (p : α) :
    (L.set i p).flatMap f = (L.flatMap f).take (i * s) ++ f p ++ (L.flatMap f).drop (i * s + s) := by
  rw [show i * s + s = (i + 1) * s by rw [Nat.add_mul]; omega, flat_take hf, flat_drop hf, List.set_eq_take_append_cons_drop, if_pos hi]
  simp
end
/-- Cells set one behind the other. -/
def setMany (xs : List Value) (o : Nat) : List Value → List Value
  | [] => xs
  | v :: l => setMany (xs.set o v) (o + 1) l
theorem setMany_eq (l : List Value) : ∀ (xs : List Value) (o : Nat), o + l.length ≤ xs.length → setMany xs o l = xs.take o ++ l ++ xs.drop (o + l.length) := by
  induction l with
  | nil => intro xs o _; simp [setMany]
  | cons v l ih =>
    intro xs o h
    simp only [List.length_cons] at h
    simp only [setMany, List.length_cons]
    rw [ih _ _ (by simp; omega), List.take_set, List.drop_set, if_pos (by omega)]
    rw [List.take_add_one, List.getElem?_eq_getElem (by omega)]
    simp only [Option.toList_some]
    rw [List.set_append_right _ _ (by simp; omega)]
    simp only [List.length_take]
    rw [show o - min o xs.length = 0 by omega]
    simp
    rw [show o + 1 + l.length = o + (l.length + 1) by omega]
theorem flat_setMany {α : Type} {f : α → List Value} {s : Nat} (hf : ∀ p, (f p).length = s) (L : List α) (i : Nat) (hi : i < L.length) (p : α) :
    setMany (L.flatMap f) (i * s) (f p) = (L.set i p).flatMap f := by
  have h1 : i * s + s ≤ L.length * s := by
    have : (i + 1) * s ≤ L.length * s := Nat.mul_le_mul_right _ hi
    rw [Nat.add_mul] at this; omega
  rw [setMany_eq _ _ _ (by rw [hf, flat_len hf]; exact h1), hf, flat_set hf L i hi]

/-- Cells stored one behind the other. -/
def stores (w : World) (g o : Nat) : List Value → World
  | [] => w
  | v :: l => stores (w.setCell ⟨g, o, none⟩ v) g (o + 1) l
theorem own_stores {base : Nat} {e : TypeId} {size n cap g : Nat} (l : List Value) : ∀ {w : World} {xs : List Value} (o : Nat), w.ownsRow base e size (.slice (some ⟨g, 0, none⟩) n cap) n xs →
    (stores w g o l).ownsRow base e size (.slice (some ⟨g, 0, none⟩) n cap) n (setMany xs o l) := by
  induction l with
  | nil => intro w xs o h; exact h
  | cons v l ih => intro w xs o h; exact ih (o + 1) (h.stored o v).1
theorem only_stores {S : Nat → Prop} {a : World} {g : Nat} (hg : S g ∨ a.heap.size ≤ g) (l : List Value) : ∀ {w : World} (o : Nat), Only S a w → Only S a (stores w g o l) := by
  induction l with
  | nil => intro w o h; exact h
  | cons v l ih => intro w o h; exact ih (o + 1) (h.setCell (p := ⟨g, o, none⟩) hg v)
theorem own_put {α : Type} {f : α → List Value} {s : Nat} (hf : ∀ p, (f p).length = s) {w : World} {base : Nat} {e : TypeId} {n cap g : Nat} {L : List α} {i : Nat} (p : α)
    (h : w.ownsRow base e s (.slice (some ⟨g, 0, none⟩) n cap) n (L.flatMap f)) (hi : i < L.length) :
    (stores w g (i * s) (f p)).ownsRow base e s (.slice (some ⟨g, 0, none⟩) n cap) n ((L.set i p).flatMap f) := by
  have := own_stores (f p) (i * s) h
  rwa [flat_setMany hf L i hi p] at this

theorem maxLen_val : maxLen = 9223372036854775807 := rfl
theorem ret_int {k : IntKind} {a b : Int} (h : a = b) : Ending.returned (.int k a) = .returned (.int k b) := by rw [h]
theorem ret_bool {a b : Bool} (h : a = b) : Ending.returned (.bool a) = .returned (.bool b) := by rw [h]
end Go.Proofs.YtclpebgjmgfigaaGreatDoor
namespace Go.Proofs.YtclpebgjmgfigaaGreatDoor
open Go.ChangeShapes Go.WideShapes Go.ChangeAt Go.RowKit

theorem Law.own : ownKnob Tryz.prog.godebug = none := by kernel_rfl
theorem Law.laidOut : laidOutB Tryz.prog = true := by kernel_rfl

def readRows (P : Program) (ts : List TypeId) : Bool := ts.all fun t => P.readableRec t && decide (t < P.types.size)
theorem below_trodAll {H : Type} {enc : TypeId × Value → H} {P : Program} (hl : laidOutB P = true) {W W' : World} (hb : Below W.heap.size W W') :
    ∀ {ts : List TypeId} {vs : List Value} {ds : List (DataW H)} {ps : List MemPlace}, readRows P ts = true → DataW.TrodAll enc P W 0 (fun _ => true) true ts vs ds ps →
      DataW.TrodAll enc P W' 0 (fun b => decide (b < W.heap.size)) true ts vs ds ps
  | [], [], [], _, _, h => h
  | [], [], _ :: _, _, _, h => h.elim
  | [], _ :: _, _, _, _, h => h.elim
  | _ :: _, [], _, _, _, h => h.elim
  | _ :: _, _ :: _, [], _, _, h => h.elim
  | t :: ts, v :: vs, d :: ds, ps, hr, h => by
    have hlt := h.lt
    obtain ⟨p, q, h1, h2, e⟩ := h
    simp only [readRows, List.all_cons, Bool.and_eq_true] at hr
    refine ⟨p, q, Below.trod hl hr.1.1 (by simpa using hr.1.2) h1 hb (fun x hx => hlt x (by rw [e]; exact List.mem_append_left _ hx)), below_trodAll hl hb (by simpa [readRows] using hr.2) h2, e⟩

section
variable {H : Type} {enc : TypeId × Value → H} {P : Program}
theorem trod_len {w : World} {base : Nat} {sp : Nat → Bool} {held : Bool} : ∀ {ts : List TypeId} {vs : List Value} {ds : List (DataW H)} {ps : List MemPlace}, DataW.TrodAll enc P w base sp held ts vs ds ps → ds.length = ts.length
  | [], [], [], _, _ => rfl
  | [], [], _ :: _, _, h => h.elim
  | [], _ :: _, _, _, h => h.elim
  | _ :: _, [], _, _, h => h.elim
  | _ :: _, _ :: _, [], _, h => h.elim
  | _ :: _, _ :: _, _ :: _, _, ⟨_, _, _, h2, _⟩ => by simp [trod_len h2]
theorem law_post {f : Func} {s : ChangeSpec} {W W' : World} {args : Array Value} {ds gs : List (DataW H)} {before : List MemPlace} {t : TypeId}
    (hl : laidOutB P = true) (hrows : readRows P f.params.toList = true) (hvars : s.vars = []) (hrt : f.resultTypes = #[t]) (ht : P.underlying t = some .bool)
    (hfn : ∀ ds : List (DataW H), ds.length = f.params.toList.length → (s.fn H (ds ++ [])).results = [.lit (.bool true)] ∧ (s.fn H (ds ++ [])).args = ds ∧ (s.fn H (ds ++ [])).vars = [])
    (hW : DataW.Whole enc P f.params.toList s.vars false W args.toList ds gs before) (hb : Below W.heap.size W W') :
    s.post enc P f false true false false W args (.bool true) W' := by
  have hlt : ∀ p ∈ before, p.block < W.heap.size := fun p hp => hW.lt p hp
  have hW' := hW
  obtain ⟨p, q, hA, hV, hpq, _, _⟩ := hW
  have hv2 : gs = [] ∧ q = [] := by
    have hV' : DataW.TrodVars enc P W (fun _ => true) [] gs q := by rw [← hvars]; exact hV
    obtain ⟨h1, h2⟩ := trodVars_none hV'
    exact ⟨h1, h2⟩
  obtain ⟨rfl, rfl⟩ := hv2
  rw [List.append_nil] at hpq
  subst hpq
  obtain ⟨e1, e2, e3⟩ := hfn ds (trod_len hA)
  refine ⟨ds, [], before, [], before, [], hW', ?_, ?_, ?_, World.keptBut_mono (fun x hx => ⟨hx, .inr (.inl hx)⟩) (hb.frame (· ∈ before)), fun h => by cases h⟩
  · rw [e1, hrt]
    exact trodAll_mk1 (shut_bool ht true)
  · rw [e2]
    exact below_trodAll hl hb hrows hA
  · rw [e3, hvars]
    rfl
end
end Go.Proofs.YtclpebgjmgfigaaGreatDoor
namespace Go.Proofs.YtclpebgjmgfigaaGreatDoor
open Go.ChangeShapes Go.WideShapes Go.ChangeAt Go.RowKit Go.Deep

/-- A slice that came in, which reads as a list of records of s cells. -/
def Arg {α : Type} (f : α → List Value) (s : Nat) (w : World) (A : Option Addr) (n : Nat) (L : List α) : Prop :=
  L.length = n ∧ ∀ (i : Nat) (t : α), L[i]? = some t → ∃ bk off, A = some ⟨bk, off, none⟩ ∧ bk < w.heap.size ∧ ∀ j, j < s → w.cell? ⟨bk, off + i * s + j, none⟩ = (f t)[j]?
theorem Arg.keep {α : Type} {f : α → List Value} {s : Nat} {w w' : World} {A : Option Addr} {n : Nat} {L : List α} (h : Arg f s w A n L) (hb : Below w.heap.size w w') : Arg f s w' A n L := by
  refine ⟨h.1, fun i t ht => ?_⟩
  obtain ⟨bk, off, hA, hlt, hc⟩ := h.2 i t ht
  exact ⟨bk, off, hA, by have := hb.size; omega, fun j hj => by rw [hb.cell (p := ⟨bk, _, none⟩) hlt]; exact hc j hj⟩

theorem add_off (a : Addr) (n : Nat) : (a.add n).off = a.off + n ∧ (a.add n).block = a.block := by
  unfold Addr.add; split <;> simp_all
theorem cell_spot {w : World} {a : Addr} {v : Value} (h : w.cell? a = some v) : a.spot = none := by
  unfold World.cell? at h
  split at h
  · split at h
    · cases h
    · rename_i hs; simpa using hs
  · cases h
theorem addr_none {a : Addr} (h : a.spot = none) : a = ⟨a.block, a.off, none⟩ := by cases a; simp_all

theorem list_of {α : Type} {R : Nat → α → Prop} (k : Nat) (h : ∀ i, i < k → ∃ y, R i y) : ∃ L : List α, L.length = k ∧ ∀ i y, L[i]? = some y → R i y := by
  induction k with
  | zero => exact ⟨[], rfl, fun i y h => by simp at h⟩
  | succ k ih =>
    obtain ⟨L, hL, hg⟩ := ih (fun i hi => h i (by omega))
    obtain ⟨y, hy⟩ := h k (by omega)
    refine ⟨L ++ [y], by simp [hL], fun i z hz => ?_⟩
    by_cases hi : i < L.length
    · rw [List.getElem?_append_left hi] at hz
      exact hg i z hz
    · rw [List.getElem?_append_right (by omega)] at hz
      have hik : i - L.length = 0 := by
        rcases Nat.eq_zero_or_pos (i - L.length) with h0 | h0
        · exact h0
        · rw [List.getElem?_eq_none (by simp; omega)] at hz; cases hz
      rw [hik] at hz
      simp at hz
      subst hz
      have : i = k := by omega
      rw [this]; exact hy
section
variable {H : Type} {enc : TypeId × Value → H} {P : Program} {w : World} {base : Nat} {spare : Nat → Bool} {held : Bool}
theorem open_arg {α : Type} {Q : α → Prop} (f : α → List Value) (s : Nat) (hs0 : 0 < s) {t e : TypeId} {r : Reach} {b0 : Nat} {v : Value} {d : DataW H} {p : List MemPlace} (hf : ∀ x, (f x).length = s) (ht : P.underlying t = some (.slice e)) (hC : P.cellsOf e = s)
    (hread : ∀ n cs x, DataW.trod enc P w base spare held n e cs = some x → ∃ y : α, cs = f y ∧ Q y)
    (hv : Value.okWide P w r b0 t v) (h : DataW.Trod enc P w base spare held t v d p) : ∃ A n c L, v = .slice A n c ∧ Arg f s w A n L ∧ n ≤ maxLen ∧ n ≤ c ∧ ∀ y ∈ L, Q y := by
  obtain ⟨a0, len, cap, rfl⟩ := okWide_slice ht hv
  obtain ⟨fuel, hf0⟩ := h
  rcases open_slice ht hf0 with ⟨hcs, _⟩ | ⟨a, len', cap', m, n, D, Pl, hcs, hb, hl, hm, hmm, hx, hi⟩
  · simp [Value.cells] at hcs
    obtain ⟨rfl, rfl, rfl⟩ := hcs
    exact ⟨none, 0, 0, [], rfl, ⟨rfl, fun i t h => by simp at h⟩, by unfold maxLen; omega, Nat.le_refl _, fun y hy => by cases hy⟩
  · simp [Value.cells] at hcs
    obtain ⟨rfl, rfl, rfl⟩ := hcs
    have hml : len ≤ m := by rw [hmm]; split <;> omega
    have hspot0 : 0 < len → a.spot = none := fun hl0 => by
      obtain ⟨cs', hc, htr⟩ := hi 0 (by omega)
      obtain ⟨y, rfl, hq⟩ := hread _ _ _ htr
      rw [hC] at hc
      obtain ⟨_, hcl, hat⟩ := World.cells?_some hc
      have h1 : w.cell? ((a.add (0 * s)).add 0) = (f y)[0]? := hat 0 hs0
      rw [List.getElem?_eq_getElem (by rw [hf]; exact hs0)] at h1
      have h2 := cell_spot h1
      simpa [Addr.add] using h2
    have key : ∀ i, i < len → ∃ y : α, Q y ∧ a.spot = none ∧ a.block < w.heap.size ∧ ∀ j, j < s → w.cell? ⟨a.block, a.off + i * s + j, none⟩ = (f y)[j]? := by
      intro i hil
      obtain ⟨cs', hc, htr⟩ := hi i (by omega)
      obtain ⟨y, rfl, hq⟩ := hread _ _ _ htr
      rw [hC] at hc
      obtain ⟨_, hcl, hat⟩ := World.cells?_some hc
      have hcell : ∀ j, j < s → w.cell? ((a.add (i * s)).add j) = (f y)[j]? := fun j hj => hat j hj
      have hspot : ∀ j, j < s → ((a.add (i * s)).add j).spot = none := fun j hj => by
        have h1 := hcell j hj
        rw [List.getElem?_eq_getElem (by rw [hf]; exact hj)] at h1
        exact cell_spot h1
      have hblk : a.block < w.heap.size := by
        have h1 := hcell 0 hs0
        rw [List.getElem?_eq_getElem (by rw [hf]; exact hs0)] at h1
        have := World.block_lt_of_cell? w _ h1
        rw [(add_off _ _).2, (add_off _ _).2] at this
        exact this
      refine ⟨y, hq, ?_, hblk, fun j hj => ?_⟩
      · exact hspot0 (by omega)
      · rw [← hcell j hj, addr_none (hspot j hj), (add_off _ _).1, (add_off _ _).2, (add_off _ _).1, (add_off _ _).2]
    obtain ⟨L, hL, hget⟩ := list_of len key
    refine ⟨some a, len, cap, L, rfl, ⟨hL, fun i y hy => ?_⟩, by omega, hl, fun y hy => ?_⟩
    · obtain ⟨_, h1, h2, h3⟩ := hget i y hy
      exact ⟨a.block, a.off, by rw [← addr_none h1], h2, h3⟩
    · obtain ⟨i, hi'⟩ := List.getElem?_of_mem hy
      exact (hget i y hi').1
end
end Go.Proofs.YtclpebgjmgfigaaGreatDoor
namespace Go.Proofs.YtclpebgjmgfigaaGreatDoor
open Go.ChangeShapes Go.WideShapes Go.ChangeAt Go.RowKit Go.Deep
theorem bulk_mem {H : Type} {d : DataW H} {l : List (DataW H)} (h : d ∈ l) : Rows.uptoBulk d ≤ Rows.uptoBulkAll l := by
  induction l with
  | nil => cases h
  | cons x r ih =>
    simp only [Rows.uptoBulkAll]
    rcases List.mem_cons.1 h with e | e
    · subst e; omega
    · have := ih e; omega
section
variable {H : Type} {enc : TypeId × Value → H} {P : Program} {w : World} {base : Nat} {spare : Nat → Bool} {held : Bool}
theorem open_argB {α : Type} {Q : α → Prop} {M : α → Nat} (f : α → List Value) (s : Nat) (hs0 : 0 < s) {t e : TypeId} {r : Reach} {b0 : Nat} {v : Value} {d : DataW H} {p : List MemPlace} (hf : ∀ x, (f x).length = s) (ht : P.underlying t = some (.slice e)) (hC : P.cellsOf e = s)
    (hread : ∀ n cs x, DataW.trod enc P w base spare held n e cs = some x → ∃ y : α, cs = f y ∧ Q y ∧ M y ≤ Rows.uptoBulk x.1)
    (hv : Value.okWide P w r b0 t v) (h : DataW.Trod enc P w base spare held t v d p) : ∃ A n c L, v = .slice A n c ∧ Arg f s w A n L ∧ n ≤ maxLen ∧ n ≤ c ∧ c ≤ maxLen ∧ ∀ y ∈ L, Q y ∧ M y ≤ Rows.uptoBulk d := by
  obtain ⟨a0, len, cap, rfl⟩ := okWide_slice ht hv
  obtain ⟨fuel, hf0⟩ := h
  rcases open_slice ht hf0 with ⟨hcs, _⟩ | ⟨a, len', cap', m, n, D, Pl, hcs, hb, hl, hm, hmm, hx, hi⟩
  · simp [Value.cells] at hcs
    obtain ⟨rfl, rfl, rfl⟩ := hcs
    exact ⟨none, 0, 0, [], rfl, ⟨rfl, fun i t h => by simp at h⟩, by unfold maxLen; omega, Nat.le_refl _, Nat.zero_le _, fun y hy => by cases hy⟩
  · simp [Value.cells] at hcs
    obtain ⟨rfl, rfl, rfl⟩ := hcs
    have hd : d = .slice ((List.range len).map D) ((List.range (m - len)).map fun j => D (len + j)) := by simpa using congrArg Prod.fst hx
    have hml : len ≤ m := by rw [hmm]; split <;> omega
    have hspot0 : 0 < len → a.spot = none := fun hl0 => by
      obtain ⟨cs', hc, htr⟩ := hi 0 (by omega)
      obtain ⟨y, rfl, hq, _⟩ := hread _ _ _ htr
      rw [hC] at hc
      obtain ⟨_, hcl, hat⟩ := World.cells?_some hc
      have h1 : w.cell? ((a.add (0 * s)).add 0) = (f y)[0]? := hat 0 hs0
      rw [List.getElem?_eq_getElem (by rw [hf]; exact hs0)] at h1
      have h2 := cell_spot h1
      simpa [Addr.add] using h2
    have key : ∀ i, i < len → ∃ y : α, (Q y ∧ M y ≤ Rows.uptoBulk d) ∧ a.spot = none ∧ a.block < w.heap.size ∧ ∀ j, j < s → w.cell? ⟨a.block, a.off + i * s + j, none⟩ = (f y)[j]? := by
      intro i hil
      obtain ⟨cs', hc, htr⟩ := hi i (by omega)
      obtain ⟨y, rfl, hq, hm0⟩ := hread _ _ _ htr
      have hm1 : M y ≤ Rows.uptoBulk d := by
        refine Nat.le_trans hm0 ?_
        rw [hd]
        simp only [Rows.uptoBulk]
        have := bulk_mem (l := (List.range len).map D) (List.mem_map.2 ⟨i, List.mem_range.2 hil, rfl⟩)
        omega
      rw [hC] at hc
      obtain ⟨_, hcl, hat⟩ := World.cells?_some hc
      have hcell : ∀ j, j < s → w.cell? ((a.add (i * s)).add j) = (f y)[j]? := fun j hj => hat j hj
      have hspot : ∀ j, j < s → ((a.add (i * s)).add j).spot = none := fun j hj => by
        have h1 := hcell j hj
        rw [List.getElem?_eq_getElem (by rw [hf]; exact hj)] at h1
        exact cell_spot h1
      have hblk : a.block < w.heap.size := by
        have h1 := hcell 0 hs0
        rw [List.getElem?_eq_getElem (by rw [hf]; exact hs0)] at h1
        have := World.block_lt_of_cell? w _ h1
        rw [(add_off _ _).2, (add_off _ _).2] at this
        exact this
      refine ⟨y, ⟨hq, hm1⟩, ?_, hblk, fun j hj => ?_⟩
      · exact hspot0 (by omega)
      · rw [← hcell j hj, addr_none (hspot j hj), (add_off _ _).1, (add_off _ _).2, (add_off _ _).1, (add_off _ _).2]
    obtain ⟨L, hL, hget⟩ := list_of len key
    refine ⟨some a, len, cap, L, rfl, ⟨hL, fun i y hy => ?_⟩, by omega, hl, hm, fun y hy => ?_⟩
    · obtain ⟨_, h1, h2, h3⟩ := hget i y hy
      exact ⟨a.block, a.off, by rw [← addr_none h1], h2, h3⟩
    · obtain ⟨i, hi'⟩ := List.getElem?_of_mem hy
      exact (hget i y hi').1
end
end Go.Proofs.YtclpebgjmgfigaaGreatDoor
namespace Go.Proofs.YtclpebgjmgfigaaGreatDoor
open Go.RowKit

abbrev W := BitVec 32
/-- A word as a value. -/
def wv (x : W) : Value := .int .u32 (x.toNat : Int)
def bv (x : UInt8) : Value := .int .u8 (x.toNat : Int)
def shaK : List W := [
  0x428a2f98, 0x71374491, 0xb5c0fbcf, 0xe9b5dba5, 0x3956c25b, 0x59f111f1, 0x923f82a4, 0xab1c5ed5,
  0xd807aa98, 0x12835b01, 0x243185be, 0x550c7dc3, 0x72be5d74, 0x80deb1fe, 0x9bdc06a7, 0xc19bf174,
  0xe49b69c1, 0xefbe4786, 0x0fc19dc6, 0x240ca1cc, 0x2de92c6f, 0x4a7484aa, 0x5cb0a9dc, 0x76f988da,
  0x983e5152, 0xa831c66d, 0xb00327c8, 0xbf597fc7, 0xc6e00bf3, 0xd5a79147, 0x06ca6351, 0x14292967,
  0x27b70a85, 0x2e1b2138, 0x4d2c6dfc, 0x53380d13, 0x650a7354, 0x766a0abb, 0x81c2c92e, 0x92722c85,
  0xa2bfe8a1, 0xa81a664b, 0xc24b8b70, 0xc76c51a3, 0xd192e819, 0xd6990624, 0xf40e3585, 0x106aa070,
  0x19a4c116, 0x1e376c08, 0x2748774c, 0x34b0bcb5, 0x391c0cb3, 0x4ed8aa4a, 0x5b9cca4f, 0x682e6ff3,
  0x748f82ee, 0x78a5636f, 0x84c87814, 0x8cc70208, 0x90befffa, 0xa4506ceb, 0xbef9a3f7, 0xc67178f2]
def sha0 : List W := [0x6a09e667, 0xbb67ae85, 0x3c6ef372, 0xa54ff53a, 0x510e527f, 0x9b05688c, 0x1f83d9ab, 0x5be0cd19]
def rr (x : W) (n : Nat) : W := (x >>> n) ||| (x <<< (32 - n))
def smix (x : W) (a b c : Nat) : W := rr x a ^^^ rr x b ^^^ rr x c
def ssig (x : W) (a b c : Nat) : W := rr x a ^^^ rr x b ^^^ (x >>> c)
def sch (e f g : W) : W := (e &&& f) ^^^ (~~~e &&& g)
def smaj (a b c : W) : W := (a &&& b) ^^^ (a &&& c) ^^^ (b &&& c)
def byteAt (b : List UInt8) (i : Nat) : W := BitVec.ofNat 32 (b.getD i 0).toNat
def wordAt (b : List UInt8) (i : Nat) : W := (byteAt b (4 * i) <<< 24) ||| (byteAt b (4 * i + 1) <<< 16) ||| (byteAt b (4 * i + 2) <<< 8) ||| byteAt b (4 * i + 3)
/-- The first n words of the schedule of a block. -/
def sched (b : List UInt8) : Nat → List W
  | 0 => []
  | n + 1 =>
    let w := sched b n
    w ++ [if n < 16 then wordAt b n else w.getD (n - 16) 0 + ssig (w.getD (n - 15) 0) 7 18 3 + w.getD (n - 7) 0 + ssig (w.getD (n - 2) 0) 17 19 10]
theorem sched_len (b : List UInt8) (n : Nat) : (sched b n).length = n := by
  induction n with
  | zero => rfl
  | succ n ih => simp [sched, ih]
theorem sched_get (b : List UInt8) (n m i : Nat) (h : i < n) (hm : n ≤ m) : (sched b m)[i]? = (sched b n)[i]? := by
  induction m with
  | zero => omega
  | succ m ih =>
    by_cases hnm : n = m + 1
    · subst hnm; rfl
    · rw [← ih (by omega), sched, List.getElem?_append_left (by rw [sched_len]; omega)]

structure St where
  a : W
  b : W
  c : W
  d : W
  e : W
  f : W
  g : W
  h : W
def St.vals (s : St) : List Value := [wv s.a, wv s.b, wv s.c, wv s.d, wv s.e, wv s.f, wv s.g, wv s.h]
def rnd (s : St) (k w : W) : St :=
  let t := s.h + smix s.e 6 11 25 + sch s.e s.f s.g + k + w
  let u := smix s.a 2 13 22 + smaj s.a s.b s.c
  ⟨t + u, s.a, s.b, s.c, s.d + t, s.e, s.f, s.g⟩
def rnds (s : St) (w : List W) : Nat → St
  | 0 => s
  | n + 1 => rnd (rnds s w n) (shaK.getD n 0) (w.getD n 0)
def St.add (s t : St) : St := ⟨s.a + t.a, s.b + t.b, s.c + t.c, s.d + t.d, s.e + t.e, s.f + t.f, s.g + t.g, s.h + t.h⟩
def comp (s : St) (blk : List UInt8) : St := s.add (rnds s (sched blk 64) 64)
def st0 : St := ⟨0x6a09e667, 0xbb67ae85, 0x3c6ef372, 0xa54ff53a, 0x510e527f, 0x9b05688c, 0x1f83d9ab, 0x5be0cd19⟩
def comps (s : St) (m : List UInt8) : Nat → St
  | 0 => s
  | n + 1 => comp (comps s m n) ((m.drop (64 * n)).take 64)
def padN (n : Nat) : Nat := (120 - (n + 1) % 64) % 64
def be8 (n : Nat) : List UInt8 := [7, 6, 5, 4, 3, 2, 1, 0].map fun i => UInt8.ofNat (n / 2 ^ (8 * i))
def padded (m : List UInt8) : List UInt8 := m ++ 0x80 :: List.replicate (padN m.length) 0 ++ be8 (8 * m.length)
def be4 (x : W) : List UInt8 := [24, 16, 8, 0].map fun i => UInt8.ofNat (x.toNat / 2 ^ i)
def shaL (m : List UInt8) : List UInt8 :=
  let p := padded m
  let s := comps st0 p (p.length / 64)
  be4 s.a ++ be4 s.b ++ be4 s.c ++ be4 s.d ++ be4 s.e ++ be4 s.f ++ be4 s.g ++ be4 s.h
theorem padded_len (m : List UInt8) : (padded m).length % 64 = 0 := by
  simp [padded, be8, padN]; omega

example : shaL "abc".toUTF8.toList = [0xba, 0x78, 0x16, 0xbf, 0x8f, 0x01, 0xcf, 0xea, 0x41, 0x41, 0x40, 0xde, 0x5d, 0xae, 0x22, 0x23, 0xb0, 0x03, 0x61, 0xa3, 0x96, 0x17, 0x7a, 0x9c, 0xb4, 0x10, 0xff, 0x61, 0xf2, 0x00, 0x15, 0xad] := by decide +kernel
/-! ### Words as the walk writes them -/
theorem w_ofInt (x : W) : BitVec.ofInt 32 (x.toNat : Int) = x := by simp
theorem w_back (x : W) : IntKind.u32.wrap (x.toNat : Int) = (x.toNat : Int) := by
  have := x.isLt
  simp [IntKind.wrap, IntKind.bits, IntKind.signed]; omega
theorem w_and (x y : W) : bits .and .u32 (x.toNat : Int) (y.toNat : Int) = ((x &&& y).toNat : Int) := by
  show IntKind.u32.wrap ((BitVec.ofInt 32 (x.toNat : Int) &&& BitVec.ofInt 32 (y.toNat : Int)).toNat : Int) = _
  rw [w_ofInt, w_ofInt, w_back]
theorem w_or (x y : W) : bits .or .u32 (x.toNat : Int) (y.toNat : Int) = ((x ||| y).toNat : Int) := by
  show IntKind.u32.wrap ((BitVec.ofInt 32 (x.toNat : Int) ||| BitVec.ofInt 32 (y.toNat : Int)).toNat : Int) = _
  rw [w_ofInt, w_ofInt, w_back]
theorem w_xor (x y : W) : bits .xor .u32 (x.toNat : Int) (y.toNat : Int) = ((x ^^^ y).toNat : Int) := by
  show IntKind.u32.wrap ((BitVec.ofInt 32 (x.toNat : Int) ^^^ BitVec.ofInt 32 (y.toNat : Int)).toNat : Int) = _
  rw [w_ofInt, w_ofInt, w_back]
theorem w_not (x : W) : bits .xor .u32 4294967295 (x.toNat : Int) = ((~~~x).toNat : Int) := by
  show IntKind.u32.wrap ((BitVec.ofInt 32 4294967295 ^^^ BitVec.ofInt 32 (x.toNat : Int)).toNat : Int) = _
  rw [w_ofInt, w_back, show BitVec.ofInt 32 4294967295 = BitVec.allOnes 32 from by decide, BitVec.allOnes_xor]
theorem w_shr (x : W) (n : Nat) : (x.toNat : Int) / 2 ^ n = ((x >>> n).toNat : Int) := by
  rw [BitVec.toNat_ushiftRight, Nat.shiftRight_eq_div_pow]
  push_cast
  rfl
theorem w_shl (x : W) (n : Nat) : (x.toNat : Int) * 2 ^ n % 4294967296 = ((x <<< n).toNat : Int) := by
  rw [BitVec.toNat_shiftLeft, Nat.shiftLeft_eq, Int.natCast_emod, Int.natCast_mul, show ((2 ^ n : Nat) : Int) = 2 ^ n from Int.natCast_pow 2 n]
  rw [show ((2 ^ 32 : Nat) : Int) = 4294967296 from by decide]
theorem w_add (x y : W) : ((x.toNat : Int) + (y.toNat : Int)) % 4294967296 = ((x + y).toNat : Int) := by
  rw [BitVec.toNat_add, Int.natCast_emod, Int.natCast_add]
  rw [show ((2 ^ 32 : Nat) : Int) = 4294967296 from by decide]
theorem w_add' (x y : W) : IntKind.u32.wrap ((x.toNat : Int) + (y.toNat : Int)) = ((x + y).toNat : Int) := by
  rw [← w_add]
  simp [IntKind.wrap, IntKind.bits, IntKind.signed]
end Go.Proofs.YtclpebgjmgfigaaGreatDoor
namespace Go.Proofs.YtclpebgjmgfigaaGreatDoor
open Go.RowKit
theorem only_setCells {S : Nat → Prop} {w w' : World} (h : Only S w w') (b o : Nat) (hb : S b ∨ w.heap.size ≤ b) (vs : List Value) : Only S w (w'.setCells b o vs) := by
  induction vs generalizing o w' with
  | nil => exact h
  | cons v vs ih => exact ih (h.setCell (p := ⟨b, o, none⟩) hb v) (o + 1)
theorem there_new (w : World) (t : TypeId) (cs : Array Value) (n : Nat) (h : n ≤ cs.size) : (w.alloc (.cells cs t)).there w.heap.size 0 n := fun j hj => by
  have hb := Blk.new w t cs
  refine ⟨?_, by simp [hb.frozen j]⟩
  have := hb.cell j
  rw [Nat.zero_add, this, Array.getElem?_eq_getElem (by omega)]
  rfl
theorem results_cell_of {P : Program} {fn : Func} {p : Tmp} {ty : TypeId} {a : Addr} {v : Value} {tmps : Array Value} {w : World} (h : fn.results = #[.cell p ty]) (hp : tmps.getD p undef = .pointer (some a)) (hv : (loadVar ty a).run P w = .ok v w) : (results fn tmps).run P w = .ok v w := by
  have hp' : tmps[p]?.getD undef = .pointer (some a) := by simpa using hp
  simp [results, h, hp', asAddr, hv]
set_option maxRecDepth 100000 in
set_option maxHeartbeats 400000 in
theorem rounds_any (w : World) :
    Calls Tryz.prog 99 #[] w fun e w' => e = .returned (.agg (shaK.map wv).toArray) ∧ Only NoneOf w w' := by
  have hsz : (shaK.map wv).toArray.size = 64 := by decide +kernel
  have hl : (shaK.map wv).length = 64 := by decide +kernel
  go_enter Tryz.func99, Tryz.ntmps99
  go_wp2_with (refine wpList_store_mid rfl 138 (.tmp 0) (.tmp 1) rfl w.heap.size 0 (shaK.map wv).toArray rfl rfl (by rw [hsz]; exact there_new w 138 _ 64 (Nat.le_refl _)) (by kernel_rfl) (by decide +kernel) ?_)
  have ho := only_setCells ((Only.refl NoneOf w).alloc (.cells (Array.replicate 64 (.int .u32 0)) 138)) w.heap.size 0 (.inr (Nat.le_refl _)) (shaK.map wv)
  have hr := World.rangeAt_setCells_same _ w.heap.size 0 (shaK.map wv) (by rw [hl]; exact there_new w 138 (Array.replicate 64 (.int .u32 0)) 64 (by simp))
  have hv := run_loadVar_mid (P := Tryz.prog) _ _ _ 138 _ _ hr Tryz.underlying138 (by rfl) (by kernel_rfl)
  refine bodyPost_ret (v := .agg (shaK.map wv).toArray) ?_ rfl ⟨rfl, ho⟩
  exact results_cell_of rfl rfl hv
set_option maxRecDepth 100000 in
set_option maxHeartbeats 400000 in
theorem drounds_any (w : World) :
    Calls Tryz.prog 97 #[] w fun e w' => e = .returned (.agg (shaK.map wv).toArray) ∧ Only NoneOf w w' := by
  have hsz : (shaK.map wv).toArray.size = 64 := by decide +kernel
  have hl : (shaK.map wv).length = 64 := by decide +kernel
  go_enter Tryz.func97, Tryz.ntmps97
  go_wp2_with (refine wpList_store_mid rfl 138 (.tmp 0) (.tmp 1) rfl w.heap.size 0 (shaK.map wv).toArray rfl rfl (by rw [hsz]; exact there_new w 138 _ 64 (Nat.le_refl _)) (by kernel_rfl) (by decide +kernel) ?_)
  have ho := only_setCells ((Only.refl NoneOf w).alloc (.cells (Array.replicate 64 (.int .u32 0)) 138)) w.heap.size 0 (.inr (Nat.le_refl _)) (shaK.map wv)
  have hr := World.rangeAt_setCells_same _ w.heap.size 0 (shaK.map wv) (by rw [hl]; exact there_new w 138 (Array.replicate 64 (.int .u32 0)) 64 (by simp))
  have hv := run_loadVar_mid (P := Tryz.prog) _ _ _ 138 _ _ hr Tryz.underlying138 (by rfl) (by kernel_rfl)
  refine bodyPost_ret (v := .agg (shaK.map wv).toArray) ?_ rfl ⟨rfl, ho⟩
  exact results_cell_of rfl rfl hv
set_option maxHeartbeats 400000 in
theorem rot_any (x : W) (n : Nat) (hn : n ≤ 32) (w : World) :
    Calls Tryz.prog 100 #[wv x, .int .i64 n] w fun e w' => e = .returned (wv (rr x n)) ∧ ∃ q, w' = w.drewN q := by
  unfold wv
  have e1 : IntKind.i64.wrap (32 - (n : Int)) = 32 - (n : Int) := IntWalk.i64_in _ (by omega)
  go_enter Tryz.func100, Tryz.ntmps100
  go_wp2
  go_quiet (fail)
  go_wp2
  go_ret
  refine ⟨?_, _, rfl⟩
  show Ending.returned (Value.int IntKind.u32 _) = _
  rw [w_shr, w_shl, w_or]
  rfl
end Go.Proofs.YtclpebgjmgfigaaGreatDoor
namespace Go.Proofs.YtclpebgjmgfigaaGreatDoor
open Go.RowKit
theorem and31 : ∀ n : Fin 32, 0 < n.val → bits .and .u64 (IntKind.u64.wrap (-(n.val : Int))) 31 = 32 - (n.val : Int) := by decide +kernel
set_option maxHeartbeats 400000 in
theorem rotl_any (x : W) (n : Nat) (hn : 0 < n) (hn2 : n < 32) (w : World) :
    Calls Tryz.prog 124 #[wv x, .int .i64 (-(n : Int))] w fun e w' => e = .returned (wv (rr x n)) ∧ w' = w := by
  unfold wv
  have h31 := and31 ⟨n, hn2⟩ hn
  simp only at h31
  have e1 : IntKind.u64.wrap (32 - (32 - (n : Int))) = (n : Int) := by
    have : (32 - (32 - (n : Int))) = (n : Int) := by omega
    rw [this, IntKind.wrap_u64]; omega
  have e2 : (32 - (n : Int)).toNat = 32 - n := by omega
  go_enter Tryz.func124, Tryz.ntmps124
  go_wp2
  go_ret
  refine ⟨?_, rfl⟩
  show Ending.returned (Value.int IntKind.u32 _) = _
  rw [w_shl, w_shr, w_or, BitVec.or_comm]
  rfl
set_option maxHeartbeats 400000 in
theorem mixed_any (x : W) (a b c : Nat) (ha : 0 < a ∧ a < 32) (hb : 0 < b ∧ b < 32) (hc : 0 < c ∧ c < 32) (w : World) :
    Calls Tryz.prog 98 #[wv x, .int .i64 a, .int .i64 b, .int .i64 c] w fun e w' => e = .returned (wv (smix x a b c)) ∧ w' = w := by
  have ra := rotl_any x a ha.1 ha.2 w
  have rb := rotl_any x b hb.1 hb.2 w
  have rc := rotl_any x c hc.1 hc.2 w
  unfold wv at *
  have e1 : IntKind.i64.wrap (-(a : Int)) = -(a : Int) := IntWalk.i64_in _ (by omega)
  have e2 : IntKind.i64.wrap (-(b : Int)) = -(b : Int) := IntWalk.i64_in _ (by omega)
  have e3 : IntKind.i64.wrap (-(c : Int)) = -(c : Int) := IntWalk.i64_in _ (by omega)
  have RA := Lib.hid ra
  have RB := Lib.hid rb
  have RC := Lib.hid rc
  clear ra rb rc
  go_enter Tryz.func98, Tryz.ntmps98
  go_wp2_with fail
  refine RA.out.mono ?_
  rintro e w1 ⟨rfl, rfl⟩
  go_wp2_with fail
  refine RB.out.mono ?_
  rintro e w1 ⟨rfl, rfl⟩
  go_wp2_with fail
  refine RC.out.mono ?_
  rintro e w1 ⟨rfl, rfl⟩
  go_wp2_with fail
  go_ret
  refine ⟨?_, rfl⟩
  show Ending.returned (Value.int IntKind.u32 _) = _
  rw [w_xor, w_xor]
  rfl
set_option maxHeartbeats 400000 in
theorem bytes_any (x : W) (w : World) :
    Calls Tryz.prog 59 #[wv x] w fun e w' => e = .returned (.slice (some ⟨w.heap.size, 0, none⟩) 4 4) ∧ w' = w.alloc (.cells ((be4 x).map bv).toArray 5) := by
  unfold wv
  go_enter Tryz.func59, Tryz.ntmps59
  go_wp2_with fail
  go_ret
  refine ⟨rfl, ?_⟩
  have hb : ∀ n : Nat, bv (UInt8.ofNat n) = .int .u8 ((n : Int) % 256) := fun n => by simp [bv]
  have hx := x.isLt
  simp only [be4, List.map_cons, List.map_nil, hb]
  have h1 : ((x.toNat / 2 ^ 24 : Nat) : Int) % 256 = (x.toNat : Int) / 16777216 := by omega
  have h2 : ((x.toNat / 2 ^ 16 : Nat) : Int) % 256 = (x.toNat : Int) / 65536 % 256 := by omega
  have h3 : ((x.toNat / 2 ^ 8 : Nat) : Int) % 256 = (x.toNat : Int) / 256 % 256 := by omega
  have h4 : ((x.toNat / 2 ^ 0 : Nat) : Int) % 256 = (x.toNat : Int) % 256 := by omega
  rw [h1, h2, h3, h4]
def bw (x : UInt8) : W := BitVec.ofNat 32 x.toNat
theorem bw_nat (x : UInt8) : (x.toNat : Int) = ((bw x).toNat : Int) := by
  have := x.toNat_lt
  rw [bw, BitVec.toNat_ofNat, Nat.mod_eq_of_lt (by omega)]
theorem w_shlk (x : W) (n : Nat) (m : Int) (hm : m = 2 ^ n) : (x.toNat : Int) * m % 4294967296 = ((x <<< n).toNat : Int) := by rw [hm]; exact w_shl x n
set_option maxHeartbeats 400000 in
theorem word_any {g o n c : Nat} {x0 x1 x2 x3 : UInt8} {w : World} (hn : 4 ≤ n) (h0 : w.cell? ⟨g, o, none⟩ = some (bv x0)) (h1 : w.cell? ⟨g, o + 1, none⟩ = some (bv x1)) (h2 : w.cell? ⟨g, o + 2, none⟩ = some (bv x2)) (h3 : w.cell? ⟨g, o + 3, none⟩ = some (bv x3)) :
    Calls Tryz.prog 123 #[.slice (some ⟨g, o, none⟩) n c] w fun e w' => e = .returned (wv ((bw x0 <<< 24) ||| (bw x1 <<< 16) ||| (bw x2 <<< 8) ||| bw x3)) ∧ ∃ q, w' = w.drewN q := by
  unfold bv at *
  rw [bw_nat] at h0 h1 h2 h3
  go_enter Tryz.func123, Tryz.ntmps123
  go_wp2_with fail
  go_quiet (fail)
  go_wp2_with fail
  go_ret
  refine ⟨?_, _, rfl⟩
  show Ending.returned (Value.int IntKind.u32 _) = _
  rw [w_shlk (bw x0) 24 16777216 (by decide), w_shlk (bw x1) 16 65536 (by decide), w_shlk (bw x2) 8 256 (by decide), w_or, w_or, w_or]
  rfl
end Go.Proofs.YtclpebgjmgfigaaGreatDoor
namespace Go.Proofs.YtclpebgjmgfigaaGreatDoor
open Go.RowKit

def BytesAt (w : World) (g o : Nat) (b : List UInt8) : Prop := ∀ j x, b[j]? = some x → w.cell? ⟨g, o + j, none⟩ = some (bv x)
theorem BytesAt.only {S : Nat → Prop} {w w' : World} {g o : Nat} {b : List UInt8} (h : BytesAt w g o b) (ho : Only S w w') (hg : ¬ S g) : BytesAt w' g o b := fun j x hx => ho.cell_some (h j x hx) hg
theorem Blk.setCells {g : Nat} {t : TypeId} (vs : List Value) : ∀ {w : World} {xs : List Value} (o : Nat), Blk w g t xs.toArray → Blk (w.setCells g o vs) g t (setMany xs o vs).toArray := by
  induction vs with
  | nil => intro w xs o h; exact h
  | cons v l ih =>
    intro w xs o h
    have h1 := h.set_ o v
    rw [List.setIfInBounds_toArray] at h1
    exact ih (o + 1) h1
theorem Blk.filled {w : World} {g : Nat} {t : TypeId} {xs : List Value} (h : Blk w g t xs.toArray) (vs : List Value) (hl : vs.length = xs.length) : Blk (w.setCells g 0 vs) g t vs.toArray := by
  have := Blk.setCells vs 0 h
  rw [setMany_eq _ _ _ (by omega)] at this
  simpa [hl] using this
theorem Blk.there {w : World} {g : Nat} {t : TypeId} {cs : Array Value} (h : Blk w g t cs) (o n : Nat) (hn : o + n ≤ cs.size) : w.there g o n := fun j hj => by
  refine ⟨?_, by rw [h.frozen]⟩
  rw [h.cell, Array.getElem?_eq_getElem (by omega)]
  rfl
theorem Blk.farCells {g : Nat} {t : TypeId} {cs : Array Value} {b : Nat} (hne : g ≠ b) (vs : List Value) : ∀ {w : World} (o : Nat), Blk w g t cs → Blk (w.setCells b o vs) g t cs := by
  induction vs with
  | nil => intro w o h; exact h
  | cons v l ih => intro w o h; exact ih (o + 1) (h.far (p := ⟨b, o, none⟩) hne v)
/-- The world under a name, with what is known of it. -/
theorem wp_gen {P : Program} {c : Code} {Q : Exit → Act → World → Prop} {a : Act} {w : World} (R : World → Prop) (hR : R w) (h : ∀ W, R W → Code.wp P c Q a W) : Code.wp P c Q a w := h w hR
theorem setCells_size (w : World) (g o : Nat) (vs : List Value) : (w.setCells g o vs).heap.size = w.heap.size := by
  induction vs generalizing w o with
  | nil => rfl
  | cons v l ih =>
    show ((w.setCell ⟨g, o, none⟩ v).setCells g (o + 1) l).heap.size = _
    rw [ih]
    simp [World.setCell]
theorem calls_gen {P : Program} {f : FuncId} {args : Array Value} {w : World} {R : Ending → World → Prop} (S : World → Prop) (hS : S w) (h : ∀ W, S W → Calls P f args W R) : Calls P f args w R := h w hS
theorem there_old (w : World) (t : TypeId) (cs : Array Value) (o : Obj) (n : Nat) (h : n ≤ cs.size) : ((w.alloc (.cells cs t)).alloc o).there w.heap.size 0 n := ((Blk.new w t cs).alloc o).there 0 n (by omega)
theorem there_old2 (w : World) (t : TypeId) (cs : Array Value) (o : Obj) (b i : Nat) (vs : List Value) (n : Nat) (hb : b = w.heap.size) (h : n ≤ cs.size) : (((w.alloc o).alloc (.cells cs t)).setCells b i vs).there (w.heap.size + 1) 0 n := by
  have h1 := Blk.new (w.alloc o) t cs
  rw [World.size_alloc] at h1
  exact (h1.farCells (by omega) vs i).there 0 n (by omega)
theorem run_index_arr {P : Program} {t e : TypeId} {n : Nat} {cs : Array Value} {i : Nat} {v : Value} (h : P.underlying t = some (.array n e)) (hs : ∀ w, (Go.sizeOf e).run P w = .ok 1 w) (ha : ∀ w, (isAgg e).run P w = .ok false w) (hi : i < n) (hv : cs[i]? = some v) (w : World) :
    (Instr.index t (.agg cs) (.int .i64 (i : Int))).run P w = .ok v w := by
  simp [Instr.index, run_underlying h, asIntOf, hv, hs, ha, hi, go_sem]
theorem setCells_drew (w : World) (n : Nat) (g o : Nat) (vs : List Value) : (w.drewN n).setCells g o vs = (w.setCells g o vs).drewN n := by
  induction vs generalizing w o with
  | nil => rfl
  | cons v l ih => exact ih (w.setCell ⟨g, o, none⟩ v) (o + 1)
theorem results_blk {P : Program} {fn : Func} {p : Tmp} {ty : TypeId} {tmps : Array Value} {w : World} {g : Nat} {t : TypeId} {cs : Array Value} {d : TypeDesc} (h : fn.results = #[.cell p ty]) (hp : tmps.getD p undef = .pointer (some ⟨g, 0, none⟩)) (hb : Blk w g t cs) (hu : P.underlying ty = some d) (hd : d.isRow = true) (hi : (P.info? ty).map (·.size) = some cs.size) : (results fn tmps).run P w = .ok (.agg cs) w := by
  have hr : w.rangeAt g 0 cs.toList := fun j v hv => by rw [Nat.zero_add, hb.cell]; simpa using hv
  have := run_loadVar_mid (P := P) w g 0 ty cs.toList d hr hu hd (by simpa using hi)
  exact results_cell_of h hp (by simpa using this)
end Go.Proofs.YtclpebgjmgfigaaGreatDoor
