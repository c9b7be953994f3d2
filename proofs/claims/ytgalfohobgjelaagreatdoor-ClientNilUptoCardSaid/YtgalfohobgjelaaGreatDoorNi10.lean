/- What is proved here: several parts. several parts. maps in memory, told by what stands at each key; no function of the program. No conditions. · how two structs are compared, field by field. No conditions. · several parts. the officers of a setup, by the program. Conditions: the persons' numbers are ints, there are few. · the officers of a setup, by the reference. Conditions: the persons' numbers are ints, there are few. -/
import Derived.Test.YtgalfohobgjelaaGreatDoorNi01
import Derived.Test.YtgalfohobgjelaaGreatDoorNi09
import Derived.Maps.RangeWalk
import Derived.WideKeyEntry
import Derived.DeepKeys4
import Derived.Laws.StructEq
import Derived.Stop.BytesEq
import Derived.BigQuiet
import Derived.Deep.QuietTactic
namespace Go.Proofs.YtgalfohobgjelaaGreatDoor
open Go.RowKit
open Go.Maps (Keyed)
open Go.WideMaps (KeyLaw)
/-- A map's element as it stands. -/
def Rv (v : Value) : Option (DataW Value × List MemPlace) := some (.held v, [])
noncomputable def eqv (x y : Value) : Bool := @decide (x = y) (Classical.propDecidable _)
theorem eqv_true {x y : Value} : eqv x y = true ↔ x = y := by unfold eqv; simp
theorem eqv_false {x y : Value} : eqv x y = false ↔ x ≠ y := by unfold eqv; simp
theorem eqv_self (x : Value) : eqv x x = true := eqv_true.2 rfl
/-- What stands at each key, once v was stored at one. -/
noncomputable def put1 (f : Value → Option Value) (key v : Value) : Value → Option Value := fun x => if eqv x key then some v else f x
theorem put1_same (f : Value → Option Value) (key v : Value) : put1 f key v key = some v := by unfold put1; rw [eqv_self]; rfl
theorem put1_other {f : Value → Option Value} {key v x : Value} (h : x ≠ key) : put1 f key v x = f x := by unfold put1; rw [eqv_false.2 h]; rfl
/-- The datum D holds at each key what f says. -/
structure Tells (P : Program) (k : TypeId) (D : DataW Value) (f : Value → Option Value) : Prop where
  key : ∀ key, f key ≠ none → ∃ kl, Go.keyOf P k key = some kl
  at_ : ∀ key kl, Go.keyOf P k key = some kl → Maps.has D kl = (f key).isSome ∧ ∀ v, f key = some v → ∀ z, D.atKey kl z = .held v
/-- Block b is a map of at most n entries; f says what stands at each key. -/
def MapV (w : World) (P : Program) (k : TypeId) (b n : Nat) (f : Value → Option Value) : Prop := ∃ D, w.ownsMap P k Rv b n D ∧ Tells P k D f
section
variable {P : Program} {k : TypeId} {w : World} {b n : Nat} {f : Value → Option Value}
theorem MapV.made (w : World) (P : Program) (k : TypeId) : MapV (w.alloc (.map #[] 0)) P k w.heap.size 0 (fun _ => none) :=
  ⟨_, World.ownsMap_made w P k Rv, ⟨fun key h => (h rfl).elim, fun key kl _ => ⟨rfl, fun v h => by cases h⟩⟩⟩
theorem MapV.lt (h : MapV w P k b n f) : b < w.heap.size := by obtain ⟨D, h, _⟩ := h; exact h.lt
theorem MapV.grown {w' : World} {row : Option Nat} (h : MapV w P k b n f) (hg : w.grownBy w' row) (hne : some b ≠ row) : MapV w' P k b n f := by
  obtain ⟨D, h, t⟩ := h
  exact ⟨D, h.kept hg hne, t⟩
theorem MapV.only {S : Nat → Prop} {w' : World} (h : MapV w P k b n f) (ho : Only S w w') (hb : ¬ S b) : MapV w' P k b n f := by
  obtain ⟨D, h, t⟩ := h
  have hlt := h.lt
  obtain ⟨es, clock, hh, F, hs, hD⟩ := h
  exact ⟨D, ⟨es, clock, (ho.block b hlt hb).trans hh, F, hs, hD⟩, t⟩
theorem MapV.congr {g : Value → Option Value} (h : MapV w P k b n f) (e : ∀ x, f x = g x) : MapV w P k b n g := by
  rw [show g = f from funext fun x => (e x).symm]; exact h
/-- What is read at a key. -/
theorem MapV.look_any (c : Bool) (h : MapV w P k b n f) (K : Keyed P k) {t e : TypeId} (ht : P.underlying t = some (.map k e)) {z : Value} (hz : (zeroValue e).run P w = .ok z w) {key : Value} {kl : Lit} (hkey : Go.keyOf P k key = some kl) :
    (Instr.lookup t (.map (some b)) key c).run P w = .ok (if c then .tuple #[(f key).getD z, .bool (f key).isSome] else (f key).getD z) w := by
  obtain ⟨D, ⟨es, clock, hb, F, _, rfl⟩, t0⟩ := h
  obtain ⟨h1, h2⟩ := t0.at_ key kl hkey
  rcases Maps.fit_look c K ht hz hb F hkey with ⟨hrun, _, hat⟩ | ⟨e0, y, _, _, hrun, hRv, hat, _⟩
  · rw [Maps.has_false_of_atKey hat] at h1
    cases hf : f key with
    | none => rw [hrun]; rfl
    | some v => rw [hf] at h1; cases h1
  · rw [Maps.has_true_of_atKey hat] at h1
    cases hf : f key with
    | none => rw [hf] at h1; cases h1
    | some v =>
      have h3 := (h2 v hf (.held z)).symm.trans (hat (.held z))
      unfold Rv at hRv
      cases hRv
      simp only [DataW.held.injEq] at h3
      rw [hrun, h3]
      rfl
theorem MapV.look (h : MapV w P k b n f) (K : Keyed P k) {t e : TypeId} (ht : P.underlying t = some (.map k e)) {z : Value} (hz : (zeroValue e).run P w = .ok z w) {key : Value} {kl : Lit} (hkey : Go.keyOf P k key = some kl) :
    (Instr.lookup t (.map (some b)) key false).run P w = .ok ((f key).getD z) w := h.look_any false K ht hz hkey
theorem MapV.look_ok (h : MapV w P k b n f) (K : Keyed P k) {t e : TypeId} (ht : P.underlying t = some (.map k e)) {z : Value} (hz : (zeroValue e).run P w = .ok z w) {key : Value} {kl : Lit} (hkey : Go.keyOf P k key = some kl) :
    (Instr.lookup t (.map (some b)) key true).run P w = .ok (.tuple #[(f key).getD z, .bool (f key).isSome]) w := h.look_any true K ht hz hkey
theorem Tells.put {D : DataW Value} (t : Tells P k D f) (hm : Maps.IsMap D) (K : Keyed P k) {key : Value} {kl : Lit} (hkey : Go.keyOf P k key = some kl) (v : Value) : Tells P k (D.put kl (.held v)) (put1 f key v) := by
  refine ⟨fun x hx => ?_, fun x xl hx => ?_⟩
  · by_cases e : x = key
    · rw [e]; exact ⟨kl, hkey⟩
    · rw [put1_other e] at hx; exact t.key x hx
  · by_cases e : x = key
    · subst e
      obtain rfl : xl = kl := Option.some.inj (hx.symm.trans hkey)
      rw [put1_same]
      refine ⟨Maps.has_put_same hm (K.key hkey) _, fun v' hv' z => ?_⟩
      cases hv'
      exact Maps.atKey_put_same hm (K.key hkey) _ _
    · have hne : xl ≠ kl := fun h => e (K.inj hx (h ▸ hkey))
      rw [put1_other e, Maps.has_put_other hne]
      refine ⟨(t.at_ x xl hx).1, fun v' hv' z => ?_⟩
      rw [Maps.atKey_put_other hne]
      exact (t.at_ x xl hx).2 v' hv' z
theorem isMap_own {D : DataW Value} (h : w.ownsMap P k Rv b n D) : Maps.IsMap D := by
  obtain ⟨es, clock, _, _, _, rfl⟩ := h
  exact ⟨_, rfl⟩
/-- The world behind a store at a key. -/
noncomputable def mapPut (P : Program) (t : TypeId) (b : Nat) (key v : Value) (w : World) : World :=
  match (Instr.mapUpdate t (.map (some b)) key v).run P w with
  | .ok _ w' => w'
  | .halt _ w' => w'
theorem MapV.put (h : MapV w P k b n f) (K : Keyed P k) {t e : TypeId} (ht : P.underlying t = some (.map k e)) (hn : n < maxLen) {key : Value} {kl : Lit} (hkey : Go.keyOf P k key = some kl) (v : Value) :
    (Instr.mapUpdate t (.map (some b)) key v).run P w = .ok () (mapPut P t b key v w) ∧ MapV (mapPut P t b key v w) P k b (n + 1) (put1 f key v) ∧ w.grownBy (mapPut P t b key v w) (some b) := by
  obtain ⟨D, h, t0⟩ := h
  obtain ⟨w', hrun, ho, hg⟩ := h.update K ht hn (val := v) hkey (d := .held v) (ps := []) rfl
  have e : mapPut P t b key v w = w' := by unfold mapPut; rw [hrun]
  rw [e]
  exact ⟨hrun, ⟨_, ho, t0.put (isMap_own h) K hkey v⟩, hg⟩
/-- 'm[k] op= v': the entry is found or made, then stored into. -/
theorem MapV.entry (h : MapV w P k b n f) (K : KeyLaw P k) {t e : TypeId} (ht : P.underlying t = some (.map k e)) (hn : n < maxLen) {z : Value} (hz : ∀ u : World, (zeroValue e).run P u = .ok z u) {key : Value} {kl : Lit} (hkey : Go.keyOf P k key = some kl) :
    ∃ (v0 : Value) (st : Nat) (w1 : World), (Instr.mapEntry t (.map (some b)) key).run P w = .ok (.tuple #[v0, .int .i64 (st : Int)]) w1 ∧ w.grownBy w1 (some b) ∧
      ∀ (w2 : World) (val : Value), w1.grownBy w2 none → ∃ w3, (Instr.entryStore t (.map (some b)) (.int .i64 (st : Int)) val).run P w2 = .ok () w3 ∧ MapV w3 P k b (n + 1) (put1 f key val) ∧ w2.grownBy w3 (some b) := by
  have h0 := h
  obtain ⟨D, ⟨es, clock, hb, F, hs, hD⟩, t0⟩ := h
  obtain ⟨v0, st, es1, clock1, hrun, _, hst⟩ := WideElems.entry_then_store K ht hz hb F hkey
  have hlt : b < w.heap.size := h0.lt
  refine ⟨v0, st, ChangeMaps.setBlock w b (.map es1 clock1), hrun, ⟨rfl, rfl, rfl, by simp [ChangeMaps.setBlock], fun i _ hi => ChangeMaps.heap_setBlock_other hb _ (fun e => hi (by rw [e]))⟩, fun w2 val hg => ?_⟩
  have hw2 : w2.heap[b]? = some (.map es1 clock1) := (hg.block b (by simpa [ChangeMaps.setBlock] using hlt) (by simp)).trans (ChangeMaps.heap_setBlock_same hb _)
  obtain ⟨es', clock', hrun2, hrun3⟩ := hst w2 val hw2
  obtain ⟨hr, hm, _⟩ := h0.put (Keyed.of_law K) ht hn hkey val
  have hw' : mapPut P t b key val w = ChangeMaps.setBlock w b (.map es' clock') := by
    rw [hrun3] at hr
    injection hr with _ hr
    exact hr.symm
  rw [hw'] at hm
  refine ⟨_, hrun2, ?_, ⟨rfl, rfl, rfl, by simp [ChangeMaps.setBlock], fun i _ hi => ChangeMaps.heap_setBlock_other hw2 _ (fun e => hi (by rw [e]))⟩⟩
  obtain ⟨D', ⟨es2, clock2, hb2, F2, hs2, hD2⟩, t2⟩ := hm
  rw [ChangeMaps.heap_setBlock_same hb] at hb2
  exact ⟨D', ⟨es2, clock2, (ChangeMaps.heap_setBlock_same hw2 _).trans hb2, F2, hs2, hD2⟩, t2⟩
/-- .. and what is read in between. -/
theorem MapV.entry_look (h : MapV w P k b n f) (K : KeyLaw P k) {t e : TypeId} (ht : P.underlying t = some (.map k e)) (hn : n < maxLen) {z : Value} (hz : ∀ u : World, (zeroValue e).run P u = .ok z u) {key : Value} {kl : Lit} (hkey : Go.keyOf P k key = some kl) {r : Value} {w1 : World}
    (hrun : (Instr.mapEntry t (.map (some b)) key).run P w = .ok r w1) : (Instr.lookup t (.map (some b)) key false).run P w1 = .ok ((f key).getD z) w1 := by
  have h0 := h
  obtain ⟨D, ⟨es, clock, hb, F, hs, hD⟩, t0⟩ := h
  have hlk := h0.look (Keyed.of_law K) ht (hz w) hkey
  rcases K.find w hkey es.toList F.keys with ⟨h1, h2⟩ | ⟨j, e0, h1, h2, h3⟩
  · have hr2 : (Instr.mapEntry t (.map (some b)) key).run P w = .ok (.tuple #[z, goInt clock]) (ChangeMaps.setBlock w b (.map (es.push ⟨key, z, clock⟩) (clock + 1))) := by
      simp [Instr.mapEntry, run_underlying ht, MapKept.run_getObj_map hb, K.check w false hkey, h1, hz, MapKept.run_setObj_map _ hb, Result.andThen, ChangeMaps.setBlock]
    have hr3 : (Instr.mapUpdate t (.map (some b)) key z).run P w = .ok () (ChangeMaps.setBlock w b (.map (es.push ⟨key, z, clock⟩) (clock + 1))) := by
      simp [Instr.mapUpdate, run_underlying ht, MapKept.run_getObj_map hb, K.check w false hkey, h1, MapKept.run_setObj_map _ hb, Result.andThen, ChangeMaps.setBlock]
    have hr4 : (Instr.lookup t (.map (some b)) key false).run P w = .ok z w := by
      simp [Instr.lookup, run_underlying ht, MapKept.run_getObj_map hb, K.check w _ hkey, h1, hz, Result.andThen]
    rw [hr4] at hlk
    have hv : z = (f key).getD z := by injection hlk
    obtain ⟨hp1, hp2, _⟩ := h0.put (Keyed.of_law K) ht hn hkey z
    have e1 : mapPut P t b key z w = w1 := by
      have ha := hr3.symm.trans hp1
      have hb2 := hr2.symm.trans hrun
      injection ha with _ ha
      injection hb2 with _ hb2
      rw [← ha, hb2]
    rw [e1] at hp2
    rw [hp2.look (Keyed.of_law K) ht (hz w1) hkey, put1_same, ← hv]
    rfl
  · have hj : es[j]? = some e0 := by simpa using h2
    have hsame : es.modify j (fun e => { e with key := key }) = es := by
      apply Array.ext'
      rw [Array.toList_modify, ChangeMaps.modify_eq_set _ _ _ _ h2]
      have he : ({ e0 with key := key } : MapEntry) = e0 := by rw [← h3]
      rw [he]
      exact WideElems.set_self _ _ _ h2
    have hr2 : (Instr.mapEntry t (.map (some b)) key).run P w = .ok (.tuple #[e0.val, goInt e0.born]) (ChangeMaps.setBlock w b (.map es clock)) := by
      simp [Instr.mapEntry, run_underlying ht, MapKept.run_getObj_map hb, K.check w false hkey, h1, hj, h3, K.stays w hkey, hsame, MapKept.run_setObj_map _ hb, Result.andThen, ChangeMaps.setBlock]
    have e1 : ChangeMaps.setBlock w b (.map es clock) = w1 := by
      have hb2 := hr2.symm.trans hrun
      injection hb2
    rw [← e1]
    have hm1 : MapV (ChangeMaps.setBlock w b (.map es clock)) P k b n f := ⟨D, ⟨es, clock, ChangeMaps.heap_setBlock_same hb _, F, hs, hD⟩, t0⟩
    exact hm1.look (Keyed.of_law K) ht (hz _) hkey
/-- A map is ranged over: 'left' says which keys are still to come. -/
def RangeV (w : World) (P : Program) (k : TypeId) (b r n : Nat) (f : Value → Option Value) (left : Value → Bool) (cnt : Nat) : Prop :=
  ∃ D leftL, w.ranges P k Rv b r n D leftL cnt ∧ Tells P k D f ∧ ∀ key kl, Go.keyOf P k key = some kl → leftL kl = left key
theorem RangeV.map {r : Nat} {left : Value → Bool} {cnt : Nat} (h : RangeV w P k b r n f left cnt) : MapV w P k b n f := by
  obtain ⟨D, _, h, t, _⟩ := h
  exact ⟨D, h.owns, t⟩
theorem RangeV.left_eq {r : Nat} {left : Value → Bool} {cnt : Nat} (h : RangeV w P k b r n f left cnt) : w.rangeLeft b r = cnt := by
  obtain ⟨D, _, h, t, _⟩ := h
  exact h.left_eq
theorem RangeV.cnt_le {r : Nat} {left : Value → Bool} {cnt : Nat} (h : RangeV w P k b r n f left cnt) : cnt ≤ n := by
  obtain ⟨D, l, ⟨es, clock, since, seen, c0, hb, F, hs, hD, hr, ho, hc, _⟩, _⟩ := h
  rw [← hc]
  exact Nat.le_trans (by unfold leftOf; exact Array.size_filter_le) hs
theorem RangeV.lt {r : Nat} {left : Value → Bool} {cnt : Nat} (h : RangeV w P k b r n f left cnt) : r < w.heap.size := by
  obtain ⟨D, _, h, t, _⟩ := h
  exact h.lt
theorem RangeV.only {S : Nat → Prop} {w' : World} {r : Nat} {left : Value → Bool} {cnt : Nat} (h : RangeV w P k b r n f left cnt) (ho : Only S w w') (hb : ¬ S b) (hr : ¬ S r) : RangeV w' P k b r n f left cnt := by
  have h1 := h.map.lt
  have h2 := h.lt
  obtain ⟨D, l, ⟨es, clock, since, seen, c0, hb', F, hs, hD, hr', rest⟩, t⟩ := h
  exact ⟨D, l, ⟨es, clock, since, seen, c0, (ho.block b h1 hb).trans hb', F, hs, hD, (ho.block r h2 hr).trans hr', rest⟩, t⟩
theorem MapV.range (h : MapV w P k b n f) (K : Keyed P k) {t e : TypeId} (ht : P.underlying t = some (.map k e)) :
    ∃ w', (Instr.range t (.map (some b))).run P w = .ok (.pointer (some ⟨w.heap.size, 0, none⟩)) w' ∧ (∃ cnt, RangeV w' P k b w.heap.size n f (fun x => (f x).isSome) cnt) ∧ Only NoneOf w w' ∧ w'.heap.size = w.heap.size + 1 := by
  obtain ⟨D, h, t0⟩ := h
  obtain ⟨w', hrun, hr, hg, hs⟩ := h.range K ht
  exact ⟨w', hrun, ⟨_, D, _, hr, t0, fun key kl hkey => (t0.at_ key kl hkey).1⟩, (Only.refl _ _).grown hg (fun k e => by cases e), hs⟩
theorem RangeV.next {r : Nat} {left : Value → Bool} {cnt : Nat} (h : RangeV w P k b r n f left cnt) (K : Keyed P k) (ty : TypeId) :
    (cnt = 0 ∧ (∀ key, f key ≠ none → left key = false) ∧ (Instr.next (.pointer (some ⟨r, 0, none⟩)) false ty).run P w = .ok (.tuple #[.bool false]) w) ∨
    ∃ key v w' cnt', f key = some v ∧ left key = true ∧ (Instr.next (.pointer (some ⟨r, 0, none⟩)) false ty).run P w = .ok (.tuple #[.bool true, key, v]) w' ∧
      RangeV w' P k b r n f (fun x => left x && !eqv x key) cnt' ∧ cnt' < cnt ∧ w.grownBy w' (some r) ∧ w'.heap.size = w.heap.size ∧ (Instr.entry (.pointer (some ⟨r, 0, none⟩))).run P w' = .ok (.tuple #[key, v]) w' := by
  obtain ⟨D, l, h, t, hl⟩ := h
  rcases h.next K ty with ⟨h0, hf, hrun⟩ | ⟨key, v, kl, y, w', cnt', hkey, hlk, hv, hat, hrun, hrg, hlt, hgr, hsz, hen⟩
  · refine .inl ⟨h0, fun key hk => ?_, hrun⟩
    obtain ⟨kl, hkl⟩ := t.key key hk
    rw [← hl key kl hkl]; exact hf kl
  · obtain ⟨h1, h2⟩ := t.at_ key kl hkey
    rw [Maps.has_true_of_atKey hat] at h1
    cases hfk : f key with
    | none => rw [hfk] at h1; cases h1
    | some v' =>
      have h3 := (h2 v' hfk (.held v)).symm.trans (hat (.held v))
      unfold Rv at hv
      cases hv
      simp only [DataW.held.injEq] at h3
      subst h3
      refine .inr ⟨key, v', w', cnt', hfk, by rw [← hl key kl hkey]; exact hlk, hrun, ⟨D, _, hrg, t, fun x xl hx => ?_⟩, hlt, hgr, hsz, hen⟩
      rw [hl x xl hx]
      congr 2
      by_cases e : x = key
      · subst e
        obtain rfl : xl = kl := Option.some.inj (hx.symm.trans hkey)
        rw [eqv_self]; exact WideAt.sameKey_self (K.key hx)
      · rw [eqv_false.2 e]
        exact Maps.sameKey_ne (fun h => e (K.inj hx (h ▸ hkey)))
end
section
variable {P : Program} (w : World) {ops : Array Oper} {rest : List Oper} {o : Oper} {a : Act} {Q : Exit → Act → World → Prop}
/-- 'm[k] = v' for the walk. -/
theorem wpList_put (hg : o.guard = none) (m x v : Operand) (t : TypeId) (hop : o.op = Op.mapUpdate t m x v)
    (k e : TypeId) (K : Keyed P k) (ht : P.underlying t = some (.map k e)) (b n : Nat) (f : Value → Option Value)
    (hm : a.eval m = .map (some b)) (hown : MapV w P k b n f) (hn : n < maxLen) (key val : Value) (kl : Lit) (hx : a.eval x = key) (hv : a.eval v = val) (hkey : Go.keyOf P k key = some kl)
    (hK : ∀ w', MapV w' P k b (n + 1) (put1 f key val) → w.grownBy w' (some b) → wpList P ops Q rest (a.put o.dst undef) w') :
    wpList P ops Q (o :: rest) a w := by
  refine wpList_plain hg fun K' hK' => ?_
  obtain ⟨hrun, r1, r2⟩ := hown.put K ht hn hkey val
  unfold Oper.wp
  simp [execOp, hop, hm, hx, hv, hrun, Result.andThen]
  exact hK' _ _ (hK _ r1 r2)
/-- 'range m' for the walk. -/
theorem wpList_rangeV (hg : o.guard = none) (m : Operand) (t : TypeId) (hop : o.op = Op.range t m) (k e : TypeId) (K : Keyed P k) (ht : P.underlying t = some (.map k e)) (b n : Nat) (f : Value → Option Value)
    (hm : a.eval m = .map (some b)) (hown : MapV w P k b n f)
    (hK : ∀ w' cnt, RangeV w' P k b w.heap.size n f (fun x => (f x).isSome) cnt → Only NoneOf w w' → w'.heap.size = w.heap.size + 1 → wpList P ops Q rest (a.put o.dst (.pointer (some ⟨w.heap.size, 0, none⟩))) w') :
    wpList P ops Q (o :: rest) a w := by
  refine wpList_plain hg fun K' hK' => ?_
  obtain ⟨w', hrun, ⟨cnt, r1⟩, r2, r3⟩ := hown.range K ht
  unfold Oper.wp
  simp [execOp, hop, hm, hrun, Result.andThen]
  exact hK' _ _ (hK w' cnt r1 r2 r3)
/-- The step of a range for the walk. -/
theorem wpList_nextV (hg : o.guard = none) (it : Operand) (hop : o.op = Op.next it false) (k : TypeId) (K : Keyed P k) (b r n : Nat) (f : Value → Option Value) (left : Value → Bool) (cnt : Nat)
    (hit : a.eval it = .pointer (some ⟨r, 0, none⟩)) (h : RangeV w P k b r n f left cnt)
    (hDone : cnt = 0 → (∀ key, f key ≠ none → left key = false) → wpList P ops Q rest (a.put o.dst (.tuple #[.bool false])) w)
    (hMore : ∀ (key v : Value) (w' : World) (cnt' : Nat), f key = some v → left key = true → RangeV w' P k b r n f (fun x => left x && !eqv x key) cnt' → cnt' < cnt →
      w.grownBy w' (some r) → w'.heap.size = w.heap.size → (Instr.entry (.pointer (some ⟨r, 0, none⟩))).run P w' = .ok (.tuple #[key, v]) w' → wpList P ops Q rest (a.put o.dst (.tuple #[.bool true, key, v])) w') :
    wpList P ops Q (o :: rest) a w := by
  refine wpList_plain hg fun K' hK' => ?_
  unfold Oper.wp
  rcases h.next K o.type with ⟨h0, hl, hrun⟩ | ⟨key, v, w', cnt', hf, hlk, hrun, hrg, hlt, hgr, hsz, hen⟩
  · simp [execOp, hop, hit, hrun, Result.andThen]
    exact hK' _ _ (hDone h0 hl)
  · simp [execOp, hop, hit, hrun, Result.andThen]
    exact hK' _ _ (hMore key v w' cnt' hf hlk hrg hlt hgr hsz hen)
end
end Go.Proofs.YtgalfohobgjelaaGreatDoor
namespace Go.Proofs.YtgalfohobgjelaaGreatDoor
open Go.RowKit
section
variable {P : Program} {w : World}
/-- Fields, each by its name, type and offset, compared one behind the other. -/
def eqT (d : Nat) (xs ys : Array Value) : List (String × TypeId × Nat) → Sem Bool
  | [] => pure true
  | (n, t, o) :: fs =>
    if n ≠ "_" then do
      let a ← Go.part t xs o
      let b ← Go.part t ys o
      let r ← Op.equalIn d t a b
      if (!r) = true then pure false else eqT d xs ys fs
    else eqT d xs ys fs
theorem eqT_fields (d : Nat) (xs ys : Array Value) : ∀ fs : List Field, Op.eqFields d xs ys fs = eqT d xs ys (fs.map fun f => (f.name, f.type, f.offset))
  | [] => rfl
  | f :: fs => by
    simp only [Op.eqFields, List.map_cons, eqT]
    rw [eqT_fields d xs ys fs]
theorem eqT_cons {d : Nat} {xs ys : Array Value} {n : String} {t : TypeId} {o : Nat} {l : List (String × TypeId × Nat)} {a b : Value} {r s : Bool} (hn : n ≠ "_") (ha : (Go.part t xs o).run P w = .ok a w) (hb : (Go.part t ys o).run P w = .ok b w)
    (he : (Op.equalIn d t a b).run P w = .ok r w) (hr : (eqT d xs ys l).run P w = .ok s w) : (eqT d xs ys ((n, t, o) :: l)).run P w = .ok (r && s) w := by
  unfold eqT
  rw [if_pos hn]
  simp only [Sem.run_bind, ha, hb, he, Result.andThen_ok]
  cases r
  · simp
  · simpa using hr
theorem eqT_nil {d : Nat} {xs ys : Array Value} : (eqT d xs ys []).run P w = .ok true w := rfl
theorem part_one {t : TypeId} {xs : Array Value} {o : Nat} {v : Value} (ha : (isAgg t).run P w = .ok false w) (hv : xs[o]? = some v) : (Go.part t xs o).run P w = .ok v w := by
  simp [Go.part, ha, hv]
theorem part_agg {t : TypeId} {xs : Array Value} {o n : Nat} (ha : (isAgg t).run P w = .ok true w) (hs : (sizeOf t).run P w = .ok n w) : (Go.part t xs o).run P w = .ok (.agg (xs.extract o (o + n))) w := by
  simp [Go.part, ha, hs]
/-- A struct's cells compared, from the list of its fields. -/
theorem eq_struct {d : Nat} {t : TypeId} {xs ys : Array Value} {l : List (String × TypeId × Nat)} {r : Bool} (ht : P.underlying t = some (.struct (P.fieldsOf t))) (hp : P.stoodInHeld t = false) (hl : (P.fieldsOf t).toList.map (fun f => (f.name, f.type, f.offset)) = l)
    (h : (eqT d xs ys l).run P w = .ok r w) : (Op.equalIn (d + 1) t (.agg xs) (.agg ys)).run P w = .ok r w := by
  rw [run_equalIn_agg w d t xs ys ht hp, eqT_fields, hl]
  exact h
end
theorem agg_int (w : World) : (isAgg 3).run Tryz.prog w = .ok false w := by kernel_rfl
theorem eq_int {d : Nat} (a b : Int) (w : World) : (Op.equalIn (d + 1) 3 (.int .i64 a) (.int .i64 b)).run Tryz.prog w = .ok (a == b) w := run_equalIn_int w d 3 .i64 .i64 a b Tryz.underlying3
end Go.Proofs.YtgalfohobgjelaaGreatDoor
namespace Go.Proofs.YtgalfohobgjelaaGreatDoor
open Go.RowKit
open Go.Maps (Keyed)
/-- A setup of persons alone. -/
def setV (pv : Value) : Value := .agg #[pv, .int .i64 0, .slice none 0 0, .slice none 0 0, .int .i64 0, .int .i64 0]
structure Pers.Ok (p : Pers) : Prop where
  id : In p.id
  role : In p.role
  pub : In p.pub
def PersOk (P : List Pers) : Prop := ∀ p ∈ P, p.Ok
theorem PersOk.offs {P : List Pers} (h : PersOk P) : PersOk (offs P) := fun p hp => h p (offs_sub P p hp)
theorem int_law : Keyed Tryz.prog 3 := Go.Maps.int_keyed Tryz.underlying3
theorem wf_in {n : Int} (h : In n) : (Lit.int .i64 n).wf = true := by
  obtain ⟨a, b⟩ := h
  simp [Lit.wf, IntKind.min, IntKind.max, IntKind.signed, IntKind.bits, a, b]
theorem key_int {n : Int} (h : In n) : Go.keyOf Tryz.prog 3 (.int .i64 n) = some (.int .i64 n) := Go.Maps.keyOf_int_mk Tryz.underlying3 (wf_in h)
theorem zero_bool (w : World) : (zeroValue 4).run Tryz.prog w = .ok (.bool false) w := by kernel_rfl
/-- What a set of Ids holds. -/
noncomputable def seenF (ids : List Int) : Value → Option Value := fun x => if ids.any (fun id => eqv x (.int .i64 id)) = true then some (.bool true) else none
theorem seenF_nil : seenF [] = fun _ => none := by funext x; unfold seenF; simp
theorem seenF_in {ids : List Int} {id : Int} (h : id ∈ ids) : seenF ids (.int .i64 id) = some (.bool true) := by
  unfold seenF
  rw [if_pos (List.any_eq_true.2 ⟨id, h, eqv_self _⟩)]
theorem seenF_out {ids : List Int} {id : Int} (h : id ∉ ids) : seenF ids (.int .i64 id) = none := by
  unfold seenF
  rw [if_neg]
  intro hh
  obtain ⟨i, hi, e⟩ := List.any_eq_true.1 hh
  have := eqv_true.1 e
  cases this
  exact h hi
theorem seenF_put (ids : List Int) (id : Int) (x : Value) : put1 (seenF ids) (.int .i64 id) (.bool true) x = seenF (ids ++ [id]) x := by
  by_cases e : x = .int .i64 id
  · subst e
    rw [put1_same, seenF_in (by simp)]
  · rw [put1_other e]
    unfold seenF
    rw [List.any_append]
    simp [eqv_false.2 e]
/-- What the loop keeps. -/
structure OfS (w : World) (b : Nat) (P : List Pers) (k : Nat) (ov : Value) (W : World) : Prop where
  map : MapV W Tryz.prog 3 b k (seenF ((P.take k).map (·.id)))
  own : PerOwn W w.heap.size ov (offs (P.take k)).length (offs (P.take k))
  only : Only NoneOf w W
theorem own_map_ne {w : World} {base : Nat} {e : TypeId} {size n m : Nat} {v : Value} {xs : List Value} {P : Program} {k : TypeId} {b : Nat} {f : Value → Option Value} (h : w.ownsRow base e size v n xs) (hm : MapV w P k b m f) : v.ownBlock ≠ some b := by
  rcases h.2 with ⟨rfl, _⟩ | ⟨g, cap, cur, rfl, _, hh, _⟩
  · simp [Value.ownBlock]
  · intro he
    have : g = b := by simpa [Value.ownBlock] using he
    subst this
    obtain ⟨D, ⟨es, clock, hb, _⟩, _⟩ := hm
    rw [hh] at hb
    cases hb
set_option maxRecDepth 100000 in
set_option maxHeartbeats 4000000 in
theorem qofficers_any (P : List Pers) (hP : PersOk P) (hlen : P.length ≤ 1000) (pv : Value) (w : World) (hp : PerSl w pv P) : Calls Tryz.prog 87 #[setV pv] w fun e w' => ∃ ov, e = .returned ov ∧ PerSl w' ov (offs P) ∧ Only NoneOf w w' := by
  obtain ⟨ie, z, hie, hsz, hz, hzc, hby⟩ := pers_info3
  obtain ⟨A, cap, rfl, hlc, hcm, hA⟩ := hp
  unfold setV
  obtain ⟨b, eb⟩ : ∃ b, b = w.heap.size + 1 := ⟨_, rfl⟩
  have hs0 : OfS w b P 0 (.slice none 0 0) ((w.alloc (.cells #[.slice A P.length cap, .int .i64 0, .slice none 0 0, .slice none 0 0, .int .i64 0, .int .i64 0] 50)).alloc (.map #[] 0)) := by
    have h1 := MapV.made (w.alloc (.cells #[.slice A P.length cap, .int .i64 0, .slice none 0 0, .slice none 0 0, .int .i64 0, .int .i64 0] 50)) Tryz.prog 3
    rw [World.size_alloc, ← eb] at h1
    refine ⟨?_, ⟨rfl, .inl ⟨rfl, rfl⟩⟩, ((Only.refl _ _).alloc _).alloc _⟩
    rw [List.take_zero, List.map_nil, seenF_nil]
    exact h1
  have HS0 := Lib.hid hs0
  have HA := Lib.hid hA
  have HPO := Lib.hid hP
  have HIE := Lib.hid hie
  have HSZ := Lib.hid hsz
  have HZ := Lib.hid hz
  have HZC := Lib.hid hzc
  have HBY := Lib.hid hby
  have HEB := Lib.hid eb
  have hwb : w.heap.size ≤ b := by omega
  clear hs0 hA hP hie hsz hz hzc hby eb
  have hmm := @run_makeMap Tryz.prog
  go_enter Tryz.func87, Tryz.ntmps87
  go_upto_region 2 with (fail)
  rw [← HEB.out]
  refine wp_gen (fun Y => OfS w b P 0 (.slice none 0 0) Y ∧ Y.cell? ⟨w.heap.size, 0, none⟩ = some (.slice A P.length cap)) ⟨HS0.out, ((Blk.new w 50 #[.slice A P.length cap, .int .i64 0, .slice none 0 0, .slice none 0 0, .int .i64 0, .int .i64 0]).alloc _).cell 0⟩ ?_
  rintro Y ⟨hY, cY⟩
  have HY := Lib.hid hY
  clear hY HS0 hmm
  go_wp2_with fail
  go_loopw [4, 11] (fun ov i wr => ∃ k : Nat, i = .int .i64 k ∧ k ≤ P.length ∧ OfS w b P k ov wr) (fun _ i _ => P.length - (intOf i).toNat)
  case atStart => exact ⟨0, rfl, Nat.zero_le _, HY.out⟩
  case round =>
    obtain ⟨k, rfl, hk, hS⟩ := hrel
    by_cases hlt : k < P.length
    · obtain ⟨p, hp⟩ : ∃ p, P[k]? = some p := ⟨_, List.getElem?_eq_getElem hlt⟩
      obtain ⟨g, o, hA', hg, hr⟩ := HA.out k p hp
      subst hA'
      have hpo := HPO.out p (List.mem_of_getElem? hp)
      have hr2 := rng_only hr hS.only
      have ik : (k : Int) < (P.length : Int) := by omega
      have c0 : wr.cell? ⟨g, o + k * 3, none⟩ = some (.int .i64 p.id) := hr2 0 _ rfl
      have c1 : wr.cell? ⟨g, o + k * 3 + 1, none⟩ = some (.int .i64 p.role) := hr2 1 _ rfl
      have c2 : wr.cell? ⟨g, o + k * 3 + 2, none⟩ = some (.int .i64 p.pub) := hr2 2 _ rfl
      have htk := offs_take hp
      have hid : (P.take (k + 1)).map (·.id) = (P.take k).map (·.id) ++ [p.id] := by
        rw [List.take_add_one, hp, Option.toList_some, List.map_append]; rfl
      have hm1 : ∀ o, MapV (wr.alloc o) Tryz.prog 3 b k (seenF ((P.take k).map (·.id))) := fun o => hS.map.only ((Only.refl NoneOf _).alloc o) (fun e => e)
      have hkey := key_int hpo.id
      have HS := Lib.hid hS
      have HTK := Lib.hid htk
      have HID := Lib.hid hid
      have HM1 := Lib.hid hm1
      have HKEY := Lib.hid hkey
      clear hS htk hid hm1 hkey hr hr2
      by_cases hseen : p.id ∈ (P.take k).map (·.id)
      · have hlk : ∀ o, (Instr.lookup 193 (.map (some b)) (.int .i64 p.id) false).run Tryz.prog (wr.alloc o) = .ok (.bool true) (wr.alloc o) := fun o => by
          rw [(HM1.out o).look int_law Tryz.underlying193 (zero_bool _) HKEY.out, seenF_in hseen]; rfl
        have hn : ¬ (p.id ∉ (P.take k).map (·.id) ∧ p.role = 2) := fun h => h.1 hseen
        have HN := Lib.hid hn
        clear hseen hn
        go_wp2_with (first
          | (at_mapUpdate; refine wpList_put _ rfl _ _ _ 193 rfl 3 4 int_law Tryz.underlying193 b k _ rfl (HM1.out _) (by rw [maxLen_val]; omega) _ _ _ rfl rfl HKEY.out ?_; intro w1 hown1 hgrow1))
        have hnew : OfS w b P (k + 1) u4 w1 := by
          refine ⟨?_, ?_, ((HS.out.only.alloc _).grown hgrow1 (fun j e => by cases e; exact .inr hwb))⟩
          · rw [HID.out]; exact hown1.congr (seenF_put _ _)
          · rw [HTK.out, if_neg HN.out, List.append_nil]
            exact World.ownsRow.kept (World.ownsRow.alloc (show World.ownsRow wr _ _ _ _ _ _ from HS.out.own) _) hgrow1 (.inr (own_map_ne HS.out.own HS.out.map))
        have HNEW := Lib.hid hnew
        clear hown1 hgrow1 hnew c0 c1 c2 hlk
        go_roundw
        case rel => exact ⟨k + 1, by go_num, by omega, HNEW.out⟩
        case measure => simp [intOf]; omega
      · have hlk : ∀ o, (Instr.lookup 193 (.map (some b)) (.int .i64 p.id) false).run Tryz.prog (wr.alloc o) = .ok (.bool false) (wr.alloc o) := fun o => by
          rw [(HM1.out o).look int_law Tryz.underlying193 (zero_bool _) HKEY.out, seenF_out hseen]; rfl
        by_cases hrole : p.role = 2
        · have hr2 : (p.role == 2) = true := beq_iff_eq.2 hrole
          have hn : p.id ∉ (P.take k).map (·.id) ∧ p.role = 2 := ⟨hseen, hrole⟩
          have HN := Lib.hid hn
          clear hseen hn hrole
          have hcells : (offs (P.take (k + 1))).flatMap persC = (offs (P.take k)).flatMap persC ++ [.int .i64 p.id, .int .i64 p.role, .int .i64 p.pub] := by
            rw [HTK.out, if_pos HN.out, List.flatMap_append, List.flatMap_cons, List.flatMap_nil, List.append_nil]; rfl
          have hol : (offs (P.take k)).length ≤ k := Nat.le_trans (offs_len _) (List.length_take_le _ _)
          have hol1 : (offs (P.take (k + 1))).length = (offs (P.take k)).length + 1 := by rw [HTK.out, if_pos HN.out, List.length_append]; rfl
          have hsz := HS.out.only.size
          have HCELLS := Lib.hid hcells
          have HOL1 := Lib.hid hol1
          have HC2 : Hid (∀ o w2, World.grownBy ((wr.alloc (.cells #[.int .i64 p.id, .int .i64 p.role, .int .i64 p.pub] 67)).alloc o) w2 (Value.ownBlock u4) → w2.cell? ⟨wr.heap.size, 0, none⟩ = some (.int .i64 p.id)) := Lib.hid (fun o w2 hg => by
            rw [hg.cell_far ⟨wr.heap.size, 0, none⟩ (by simp; omega) (fun e => by have := (World.ownsRow.lt (show World.ownsRow wr _ _ _ _ _ _ from HS.out.own) _ e.symm).2; simp at this)]
            exact ((Blk.new wr 67 #[.int .i64 p.id, .int .i64 p.role, .int .i64 p.pub]).alloc o).cell 0)
          have hm2all : ∀ o o', MapV ((wr.alloc o).alloc o') Tryz.prog 3 b k (seenF ((P.take k).map (·.id))) := fun o o' => (HM1.out o).only ((Only.refl NoneOf _).alloc o') (fun e => e)
          clear hcells hol1
          go_wp2_with (first
            | (at_builtin; refine wpList_append_lies _ rfl _ _ 46 rfl w.heap.size 67 ie z 3 24 Tryz.underlying46 HIE.out HZ.out HSZ.out HBY.out HZC.out (by omega) u4 _ _ rfl ((HS.out.own.alloc _).alloc _) ⟨wr.heap.size + 1, 0, none⟩ 1 1 [.int .i64 p.id, .int .i64 p.role, .int .i64 p.pub] rfl rfl (World.news_of_block (cs := #[.int .i64 p.id, .int .i64 p.role, .int .i64 p.pub]) (t := 67) (fr := (0, 0)) (by have h9 := heap_alloc_new (wr.alloc (.cells #[.int .i64 p.id, .int .i64 p.role, .int .i64 p.pub] 67)) (.cells #[.int .i64 p.id, .int .i64 p.role, .int .i64 p.pub] 67); rw [World.size_alloc] at h9; exact h9)) (by simp [Value.oneCell']) (by omega) (by rw [maxLen_val]; omega) (by omega) (by simp; omega) (wr.heap.size + 1 + 1) (by simp) ?_; intro g2 cap2 w2 hown2 hgrow2 hat2 hlt2; have hm2 := (hm2all _ _).grown hgrow2 (Ne.symm (own_map_ne HS.out.own HS.out.map)); have hc2 := HC2.out _ w2 hgrow2)
            | (at_mapUpdate; refine wpList_put _ rfl _ _ _ 193 rfl 3 4 int_law Tryz.underlying193 b k _ rfl hm2 (by rw [maxLen_val]; omega) _ _ _ rfl rfl HKEY.out ?_; intro w1 hown1 hgrow1))
          have hnew : OfS w b P (k + 1) (.slice (some ⟨g2, 0, none⟩) ((offs (P.take k)).length + 1) cap2) w1 := by
            refine ⟨?_, ?_, (((HS.out.only.alloc _).alloc _).grown hgrow2 (fun j e => .inr (World.ownsRow.lt (show World.ownsRow wr _ _ _ _ _ _ from HS.out.own) _ e).1)).grown hgrow1 (fun j e => by cases e; exact .inr hwb)⟩
            · rw [HID.out]; exact hown1.congr (seenF_put _ _)
            · unfold PerOwn
              rw [HCELLS.out, HOL1.out]
              exact World.ownsRow.kept hown2 hgrow1 (.inr (own_map_ne hown2 hm2))
          have HNEW := Lib.hid hnew
          clear hown1 hgrow1 hown2 hgrow2 hm2 hc2 hm2all hnew c0 c1 c2 hlk hr2 hat2 hlt2
          go_roundw
          case rel => exact ⟨k + 1, by go_num, by omega, HNEW.out⟩
          case measure => simp [intOf]; omega
        · have hr2 : (p.role == 2) = false := beq_eq_false_iff_ne.2 hrole
          have hn : ¬ (p.id ∉ (P.take k).map (·.id) ∧ p.role = 2) := fun h => hrole h.2
          have HN := Lib.hid hn
          clear hseen hn hrole
          go_wp2_with (first
            | (at_mapUpdate; refine wpList_put _ rfl _ _ _ 193 rfl 3 4 int_law Tryz.underlying193 b k _ rfl (HM1.out _) (by rw [maxLen_val]; omega) _ _ _ rfl rfl HKEY.out ?_; intro w1 hown1 hgrow1))
          have hnew : OfS w b P (k + 1) u4 w1 := by
            refine ⟨?_, ?_, ((HS.out.only.alloc _).grown hgrow1 (fun j e => by cases e; exact .inr hwb))⟩
            · rw [HID.out]; exact hown1.congr (seenF_put _ _)
            · rw [HTK.out, if_neg HN.out, List.append_nil]
              exact World.ownsRow.kept (World.ownsRow.alloc (show World.ownsRow wr _ _ _ _ _ _ from HS.out.own) _) hgrow1 (.inr (own_map_ne HS.out.own HS.out.map))
          have HNEW := Lib.hid hnew
          clear hown1 hgrow1 hnew c0 c1 c2 hlk hr2
          go_roundw
          case rel => exact ⟨k + 1, by go_num, by omega, HNEW.out⟩
          case measure => simp [intOf]; omega
    · obtain rfl : k = P.length := by omega
      have hall : P.take P.length = P := List.take_length
      have hown := hS.own
      rw [hall] at hown
      have HSL := Lib.hid (hown.sl)
      have HO := Lib.hid hS.only
      clear hS hown hall
      go_wp2_with fail
      go_ret
      exact ⟨_, rfl, HSL.out, HO.out⟩
end Go.Proofs.YtgalfohobgjelaaGreatDoor
namespace Go.Proofs.YtgalfohobgjelaaGreatDoor
open Go.RowKit
end Go.Proofs.YtgalfohobgjelaaGreatDoor
