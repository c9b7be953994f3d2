/- What is proved here: an event's cells set one by one, and a hash among them; what a function with an event and a number for results answers. No conditions. -/
import Derived.Test.YtclpebgjmgfigaaGreatDoorEcM
import Derived.Test.YtclpebgjmgfigaaGreatDoorG2
import Derived.Test.YtclpebgjmgfigaaGreatDoorBent
namespace Go.Proofs.YtclpebgjmgfigaaGreatDoor
open Go.RowKit Go.Shelf
/-- An event with its signature alone. -/
def sigE (r s : Int) : Ev := { blank0 with r := r, s := s }
theorem sigE_ok {r s : Int} (hr : In r) (hs : In s) : (sigE r s).Ok := ⟨in0, in0, in0, in0, in0, in0, in0, in0, in0, in0, rfl, hr, hs⟩
theorem set_name (e : Ev) (v : ByteArray) : (evC e).set 8 (.string v) = evC { e with name := v } ∧ (evC e).set 9 (.string v) = evC { e with text := v } := ⟨rfl, rfl⟩
theorem set_num (e : Ev) (n : Int) : ∀ k : Nat, k < 10 → (evC e).set (offN k) (.int .i64 n) = evC (e.setN k n)
  | 0, _ => rfl
  | 1, _ => rfl
  | 2, _ => rfl
  | 3, _ => rfl
  | 4, _ => rfl
  | 5, _ => rfl
  | 6, _ => rfl
  | 7, _ => rfl
  | 8, _ => rfl
  | 9, _ => rfl
  | k + 10, h => by omega
theorem num_cell (e : Ev) : ∀ k : Nat, k < 10 → ∃ n : Int, (evC e)[offN k]? = some (.int .i64 n)
  | 0, _ => ⟨_, rfl⟩
  | 1, _ => ⟨_, rfl⟩
  | 2, _ => ⟨_, rfl⟩
  | 3, _ => ⟨_, rfl⟩
  | 4, _ => ⟨_, rfl⟩
  | 5, _ => ⟨_, rfl⟩
  | 6, _ => ⟨_, rfl⟩
  | 7, _ => ⟨_, rfl⟩
  | 8, _ => ⟨_, rfl⟩
  | 9, _ => ⟨_, rfl⟩
  | k + 10, h => by omega
theorem ev_cells {W : World} {B : Nat} {e : Ev} (h : EvAt W B e) (he : e.prev.length = 32) {L : List UInt8} (hL : L.length = 32) : EvAt (W.setCells B 12 (L.map bv)) B { e with prev := L } := by
  have h1 := Blk.setCells (L.map bv) 12 h
  have h2 : setMany (evC e) 12 (L.map bv) = evC { e with prev := L } := by
    rw [setMany_eq _ _ _ (by rw [evC_len he, List.length_map, hL]; omega)]
    unfold evC
    simp [hL, he]
  rw [h2] at h1
  exact h1
/-- The first k numbers of another event. -/
def mixN (e x : Ev) : Nat → Ev
  | 0 => e
  | k + 1 => (mixN e x k).setN k (x.nums.getD k 0)
theorem mixN_rest (e x : Ev) : ∀ k : Nat, (mixN e x k).r = e.r ∧ (mixN e x k).s = e.s ∧ (mixN e x k).prev = e.prev ∧ (mixN e x k).name = e.name ∧ (mixN e x k).text = e.text
  | 0 => ⟨rfl, rfl, rfl, rfl, rfl⟩
  | k + 1 => by
    obtain ⟨a1, a2, a3, a4, a5⟩ := setN_rest (mixN e x k) k (x.nums.getD k 0)
    obtain ⟨b1, b2, b3, b4, b5⟩ := mixN_rest e x k
    exact ⟨a1.trans b1, a2.trans b2, a3.trans b3, a4.trans b4, a5.trans b5⟩
theorem mixN_all {e x : Ev} (h : x.r = e.r ∧ x.s = e.s ∧ x.prev = e.prev ∧ x.name = e.name ∧ x.text = e.text) : mixN e x 10 = x := by
  obtain ⟨h1, h2, h3, h4, h5⟩ := h
  cases e; cases x
  simp only at h1 h2 h3 h4 h5
  subst h1 h2 h3 h4 h5
  rfl
theorem hx_store_at {W : World} {g o : Nat} {m : List UInt8} (h : W.there g o 32) (hm : m.length = 32) : (hxStore (.pointer (some ⟨g, o, none⟩)) (.agg (m.map bv).toArray)).run Tryz.prog W = .ok () (W.setCells g o (m.map bv)) :=
  run_storeAt_mid (P := Tryz.prog) W g o 25 (m.map bv).toArray (by rw [List.size_toArray, List.length_map, hm]; exact h) (by rw [List.size_toArray, List.length_map, hm]; kernel_rfl) (all_oneCell_toArray (bvs_one _))
/-- The blank event made, under a name that the walk does not open. -/
def evZero (parts : Array (Nat × Value)) : Sem Value := Instr.build 29 parts
theorem evZero_eq (parts : Array (Nat × Value)) : Instr.build 29 parts = evZero parts := rfl
theorem evZero_run (W : World) : (evZero #[]).run Tryz.prog W = .ok (.agg (evC blank0).toArray) W := run_build (P := Tryz.prog) W 29 _ _ (by kernel_rfl)
theorem ev_fill {w W : World} {P : Nat} {e f : Ev} (h : EvAt W P e) (ho : Only NoneOf w W) (hP : w.heap.size ≤ P) (he : e.prev.length = 32) (hf : f.prev.length = 32) : (evStore (.pointer (some ⟨P, 0, none⟩)) (.agg (evC f).toArray)).run Tryz.prog W = .ok () (W.setCells P 0 (evC f)) ∧ EvAt (W.setCells P 0 (evC f)) P f ∧ Only NoneOf w (W.setCells P 0 (evC f)) :=
  ⟨ev_store h (evC_len he) hf, setCells_own h (by rw [evC_len hf, evC_len he]), only_setCells ho P 0 (.inr hP) _⟩
/-- The results: an event in a block, and a number. -/
theorem read_evt {fn : Func} {p u : Tmp} {tmps : Array Value} {w : World} {g : Nat} {e : Ev} {v : Value} (hf : fn.results = #[.cell p tEv, .tmp u]) (hp : tmps.getD p undef = .pointer (some ⟨g, 0, none⟩)) (hu : tmps.getD u undef = v) (hb : EvAt w g e) (he : e.prev.length = 32) : (results fn tmps).run Tryz.prog w = .ok (.tuple #[.agg (evC e).toArray, v]) w := by
  have h2 := run_loadVar_mid (P := Tryz.prog) w g 0 tEv (evC e) _ (ev_all hb) Tryz.underlying29 rfl (by rw [evC_len he]; kernel_rfl)
  rw [results_cell_tmp hf, hp, hu]
  simp only [asAddr]
  show (Result.andThen (Result.ok _ w) _) = _
  simp only [Result.andThen]
  rw [h2]
/-- What a decoder of codes answers. -/
def DecE (s : ByteArray) (w : World) (e : Ending) (w' : World) : Prop := ∃ (u : Ev) (code : Int), e = .returned (.tuple #[.agg (evC u).toArray, .int .i64 code]) ∧ CodR s.data.toList blank0 u code ∧ u.Ok ∧ u.name.size ≤ s.size ∧ u.text.size ≤ s.size ∧ Only NoneOf w w'
end Go.Proofs.YtclpebgjmgfigaaGreatDoor
