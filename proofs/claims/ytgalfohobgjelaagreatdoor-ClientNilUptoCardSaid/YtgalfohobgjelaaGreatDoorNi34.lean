/- What is proved here: several parts. what the rows of this seat share: what the listed table gives, and a world that holds the listed tables. No conditions. · how lists of ballots, and pairs of numbers, that come in as arguments are opened. Conditions: what comes in can be read. · how an event, a slice of events, and an array of ints that come in as arguments are opened. Conditions: what comes in can be read. · how the client laws' arguments are opened: slices within records, worlds, slices of bytes. Conditions: what comes in can be read. -/
import Derived.Test.YtgalfohobgjelaaGreatDoorNi01
import Derived.Test.YtgalfohobgjelaaGreatDoorNi04
import Derived.Test.YtgalfohobgjelaaGreatDoorNi09
import Derived.Test.YtgalfohobgjelaaGreatDoorNi19
import Derived.Test.YtgalfohobgjelaaGreatDoorNi24
import Derived.Test.YtgalfohobgjelaaGreatDoorNi32
import Derived.Test.YtgalfohobgjelaaGreatDoorCards
import Derived.Test.YtgalfohobgjelaaGreatDoorTie
import Derived.Deep.DeepHandedRow
import Derived.Lib.LaidTab
import Derived.LaidSub
import Derived.ChangeMaps5
import Derived.OpenShut
namespace Go.Proofs.YtgalfohobgjelaaGreatDoor
open Go.ChangeShapes Go.WideShapes Go.ChangeAt Go.RowKit
theorem gPow : Tryz.prog.globalNamed pow10 = some 3 := by kernel_rfl
theorem gPowType : (Tryz.prog.globals[3]?).map (·.type) = some 260 := by kernel_rfl
theorem cellsPow : Tryz.prog.cellsOf 260 = 20 := by kernel_rfl
theorem cellsU64 : Tryz.prog.cellsOf 179 = 1 := by kernel_rfl
/-- The tables that every row of this seat lists. -/
def listed : List (String × DataW Unit) := [("math/bits.deBruijn32tab", Rows.laid_math_bits_deBruijn32tab), ("math/bits.deBruijn64tab", Rows.laid_math_bits_deBruijn64tab), ("internal/strconv.uint64pow10", Rows.laid_internal_strconv_uint64pow10)]
theorem table {W : World} (h : laidMetH Tryz.prog listed W) : Tab W := by
  have h1 := h.filter (fun x => x.1 == pow10)
  have h2 : laidMetH Tryz.prog [(pow10, Lib.tabData .u64 Lib.pow10Tab)] W := h1
  exact Lib.tabIs_of_head (rest := []) gPow gPowType Tryz.underlying260 Tryz.underlying179 cellsU64 cellsPow h2
def layCells (cs : Array Value) : Obj → Obj
  | .cells _ t frozen => .cells cs t frozen
  | o => o
/-- The settled world, the three tables as their initialisers lay them. -/
noncomputable def laidWorld (os : Os) : World :=
  { World.holding Tryz.prog os ⟨#[], #[], []⟩ with heap := (((World.holding Tryz.prog os ⟨#[], #[], []⟩).heap.modify 4 (layCells #[.int .u8 0, .int .u8 1, .int .u8 28, .int .u8 2, .int .u8 29, .int .u8 14, .int .u8 24, .int .u8 3, .int .u8 30, .int .u8 22, .int .u8 20, .int .u8 15, .int .u8 25, .int .u8 17, .int .u8 4, .int .u8 8, .int .u8 31, .int .u8 27, .int .u8 13, .int .u8 23, .int .u8 21, .int .u8 19, .int .u8 16, .int .u8 7, .int .u8 26, .int .u8 12, .int .u8 18, .int .u8 6, .int .u8 11, .int .u8 5, .int .u8 10, .int .u8 9])).modify 5 (layCells #[.int .u8 0, .int .u8 1, .int .u8 56, .int .u8 2, .int .u8 57, .int .u8 49, .int .u8 28, .int .u8 3, .int .u8 61, .int .u8 58, .int .u8 42, .int .u8 50, .int .u8 38, .int .u8 29, .int .u8 17, .int .u8 4, .int .u8 62, .int .u8 47, .int .u8 59, .int .u8 36, .int .u8 45, .int .u8 43, .int .u8 51, .int .u8 22, .int .u8 53, .int .u8 39, .int .u8 33, .int .u8 30, .int .u8 24, .int .u8 18, .int .u8 12, .int .u8 5, .int .u8 63, .int .u8 55, .int .u8 48, .int .u8 27, .int .u8 60, .int .u8 41, .int .u8 37, .int .u8 16, .int .u8 46, .int .u8 35, .int .u8 44, .int .u8 21, .int .u8 52, .int .u8 32, .int .u8 23, .int .u8 11, .int .u8 54, .int .u8 26, .int .u8 40, .int .u8 15, .int .u8 34, .int .u8 20, .int .u8 31, .int .u8 10, .int .u8 25, .int .u8 14, .int .u8 19, .int .u8 9, .int .u8 13, .int .u8 8, .int .u8 7, .int .u8 6])).modify 3 (layCells #[.int .u64 1, .int .u64 10, .int .u64 100, .int .u64 1000, .int .u64 10000, .int .u64 100000, .int .u64 1000000, .int .u64 10000000, .int .u64 100000000, .int .u64 1000000000, .int .u64 10000000000, .int .u64 100000000000, .int .u64 1000000000000, .int .u64 10000000000000, .int .u64 100000000000000, .int .u64 1000000000000000, .int .u64 10000000000000000, .int .u64 100000000000000000, .int .u64 1000000000000000000, .int .u64 10000000000000000000]) }
end Go.Proofs.YtgalfohobgjelaaGreatDoor
namespace Go.Proofs.YtgalfohobgjelaaGreatDoor
open Go.ChangeShapes Go.WideShapes Go.ChangeAt Go.RowKit Go.Deep
section
variable {H : Type} {enc : TypeId × Value → H} {w : World} {base b0 : Nat} {spare : Nat → Bool} {held : Bool} {r : Reach} {v : Value} {d : DataW H} {p : List MemPlace}
theorem v_u8 {n : Nat} {c : Value} {x : DataW H × List MemPlace} (h : DataW.trod enc Tryz.prog w base spare held n 5 [c] = some x) : ∃ m : Nat, c = .int .u8 (m : Int) ∧ m < 256 := by
  obtain ⟨m, hc, _, hw⟩ := DataW.trod_int Tryz.underlying5 h
  have hb : 0 ≤ m ∧ m ≤ 255 := by simpa [Lit.wf, IntKind.min, IntKind.max, IntKind.signed, IntKind.bits] using hw
  exact ⟨m.toNat, by rw [(List.cons.inj hc).1]; congr 1; omega, by omega⟩
set_option maxRecDepth 100000 in
theorem q_bal {n : Nat} {cs : List Value} {x : DataW H × List MemPlace} (h : DataW.trod enc Tryz.prog w base spare held n 128 cs = some x) : ∃ b : Bal, cs = balC b ∧ b.Ok := by
  obtain ⟨xs, m, _, hx, hcl, hlen, hg⟩ := DataW.trod_struct Tryz.underlying128 h
  have ei : Tryz.prog.cellsOf 5 = 1 := by kernel_rfl
  have e3 : Tryz.prog.cellsOf 128 = 3 := by kernel_rfl
  rw [e3] at hcl
  match cs, hcl with
  | [c0, c1, c2], _ =>
    match xs, hlen with
    | [y0, y1, y2], _ =>
      have h0 := hg 0 _ rfl
      have h1 := hg 1 _ rfl
      have h2 := hg 2 _ rfl
      clear hg
      simp [ei] at h0 h1 h2
      obtain ⟨a0, rfl, i0⟩ := v_u8 h0
      obtain ⟨a1, rfl, i1⟩ := v_u8 h1
      obtain ⟨a2, rfl, i2⟩ := v_u8 h2
      exact ⟨⟨a0, a1, a2⟩, rfl, i0, i1, i2⟩
set_option maxRecDepth 100000 in
theorem bals_open (hv : Value.okWide Tryz.prog w r b0 96 v) (h : DataW.Trod enc Tryz.prog w base spare held 96 v d p) : ∃ L : List Bal, BalSl w v L ∧ BalsOk L := by
  obtain ⟨A, n, c, L, rfl, hA, hn, hc, hcm, hL⟩ := open_argB (Q := Bal.Ok) (M := fun _ => 0) balC 3 (by omega) balC_len Tryz.underlying96 (by kernel_rfl) (fun n cs x hx => by
    obtain ⟨b, h1, h2⟩ := q_bal hx
    exact ⟨b, h1, h2, Nat.zero_le _⟩) hv h
  unfold maxLen at hcm
  refine ⟨L, ⟨A, c, by rw [hA.1], by rw [hA.1]; exact hc, hcm, fun i b hb => ?_⟩, fun b hb => (hL b hb).1⟩
  obtain ⟨bk, off, e, hlt, hcell⟩ := hA.2 i b hb
  exact ⟨bk, off, e, hlt, fun j x hj => by rw [hcell j (List.getElem?_eq_some_iff.1 hj).1]; exact hj⟩
end
end Go.Proofs.YtgalfohobgjelaaGreatDoor
namespace Go.Proofs.YtgalfohobgjelaaGreatDoor
open Go.ChangeShapes Go.WideShapes Go.ChangeAt Go.RowKit Go.Deep
section
variable {H : Type} {enc : TypeId × Value → H} {w : World} {base b0 : Nat} {spare : Nat → Bool} {held : Bool} {r : Reach} {v : Value} {d : DataW H} {p : List MemPlace}
set_option maxRecDepth 100000 in
theorem ev_open (hv : Value.okWide Tryz.prog w r b0 79 v) (h : DataW.Trod enc Tryz.prog w base spare held 79 v d p) : ∃ e : Ev, v = .agg (evC e).toArray ∧ e.Ok ∧ e.name.size + e.text.size ≤ Rows.uptoBulk d := by
  obtain ⟨cs, rfl, hsz⟩ := okWide_struct Tryz.underlying79 hv
  obtain ⟨fuel, hf⟩ := h
  obtain ⟨e, he, hok, hb⟩ := read_ev _ _ _ hf
  refine ⟨e, ?_, hok, hb⟩
  have h1 : cs.toList = evC e := by simpa [Value.cells] using he
  rw [← h1]
end
end Go.Proofs.YtgalfohobgjelaaGreatDoor
namespace Go.Proofs.YtgalfohobgjelaaGreatDoor
open Go.ChangeShapes Go.WideShapes Go.ChangeAt Go.RowKit Go.Deep
theorem bulk_pos {H : Type} (d : DataW H) : 1 ≤ Rows.uptoBulk d := by
  cases d with
  | lit l => cases l <;> simp [Rows.uptoBulk]
  | _ => simp [Rows.uptoBulk]
theorem bulk_all {H : Type} : ∀ (l : List (DataW H)), l.length ≤ Rows.uptoBulkAll l
  | [] => Nat.zero_le _
  | d :: l => by
    have h1 := bulk_pos d
    have h2 := bulk_all l
    simp only [Rows.uptoBulkAll, List.length_cons]
    omega
theorem bulk_each {H : Type} (m : Nat) : ∀ (l : List (DataW H)), (∀ d ∈ l, m ≤ Rows.uptoBulk d) → l.length * m ≤ Rows.uptoBulkAll l
  | [], _ => by simp
  | d :: l, h => by
    have h1 := h d (List.mem_cons_self ..)
    have h2 := bulk_each m l (fun x hx => h x (List.mem_cons_of_mem _ hx))
    simp only [Rows.uptoBulkAll, List.length_cons, Nat.add_mul, Nat.one_mul]
    omega
theorem slice_low {P : Program} {w : World} {r : Reach} {b0 : Nat} {t e : TypeId} {v : Value} (ht : P.underlying t = some (.slice e)) (hv : Value.okWide P w r b0 t v) : LowS w.heap.size v := fun a n cap h => by
  subst h
  unfold Value.okWide at hv
  rw [ht] at hv
  simp only at hv
  unfold Cell.okWide at hv
  rw [ht] at hv
  simp only at hv
  unfold Cell.ok at hv
  rw [ht] at hv
  simp only at hv
  obtain ⟨_, _, _, _, row, cells, hs, _⟩ := hv
  unfold World.shape? at hs
  cases hb : w.heap[a.block]? with
  | none => rw [hb] at hs; cases hs
  | some o => exact (Array.getElem?_eq_some_iff.1 hb).1
section
variable {H : Type} {enc : TypeId × Value → H} {P : Program} {w : World} {base : Nat} {spare : Nat → Bool} {held : Bool}
theorem open_trodB {α : Type} {Q : α → Prop} {M : α → Nat} (f : α → List Value) (s : Nat) (hs0 : 0 < s) {t e : TypeId} {fuel : Nat} {x : DataW H × List MemPlace} (hf : ∀ x, (f x).length = s) (ht : P.underlying t = some (.slice e)) (hC : P.cellsOf e = s)
    (hread : ∀ n cs x, DataW.trod enc P w base spare held n e cs = some x → ∃ y : α, cs = f y ∧ Q y ∧ M y ≤ Rows.uptoBulk x.1)
    {c0 : Value} (hf0 : DataW.trod enc P w base spare held fuel t [c0] = some x) : ∃ A n c L, c0 = .slice A n c ∧ Arg f s w A n L ∧ n ≤ maxLen ∧ n ≤ c ∧ c ≤ maxLen ∧ (∀ y ∈ L, Q y ∧ M y ≤ Rows.uptoBulk x.1) ∧ L.length ≤ Rows.uptoBulk x.1 := by
  rcases open_slice ht hf0 with ⟨hcs, _⟩ | ⟨a, len, cap, m, n, D, Pl, hcs, hb, hl, hm, hmm, hx, hi⟩
  · simp at hcs
    subst hcs
    exact ⟨none, 0, 0, [], rfl, ⟨rfl, fun i t h => by simp at h⟩, by unfold maxLen; omega, Nat.le_refl _, Nat.zero_le _, fun y hy => (by cases hy), Nat.zero_le _⟩
  · simp at hcs
    subst hcs
    have hd : x.1 = .slice ((List.range len).map D) ((List.range (m - len)).map fun j => D (len + j)) := by rw [hx]
    have hml : len ≤ m := by rw [hmm]; split <;> omega
    have hspot0 : 0 < len → a.spot = none := fun hl0 => by
      obtain ⟨cs', hc, htr⟩ := hi 0 (by omega)
      obtain ⟨y, rfl, hq, _⟩ := hread _ _ _ htr
      rw [hC] at hc
      obtain ⟨_, hcl, hat⟩ := World.cells?_some hc
      have h1 : w.cell? ((a.add (0 * s)).add 0) = (f y)[0]? := hat 0 hs0
      rw [List.getElem?_eq_getElem (by rw [hf]; exact hs0)] at h1
      have h2 := cell_spot h1
      simpa [Addr.add] using h2
    have key : ∀ i, i < len → ∃ y : α, (Q y ∧ M y ≤ Rows.uptoBulk x.1) ∧ a.spot = none ∧ a.block < w.heap.size ∧ ∀ j, j < s → w.cell? ⟨a.block, a.off + i * s + j, none⟩ = (f y)[j]? := by
      intro i hil
      obtain ⟨cs', hc, htr⟩ := hi i (by omega)
      obtain ⟨y, rfl, hq, hm0⟩ := hread _ _ _ htr
      have hm1 : M y ≤ Rows.uptoBulk x.1 := by
        refine Nat.le_trans hm0 ?_
        rw [hd]
        simp only [Rows.uptoBulk]
        have := bulk_mem (l := (List.range len).map D) (List.mem_map.2 ⟨i, List.mem_range.2 hil, rfl⟩)
        omega
      rw [hC] at hc
      obtain ⟨_, hcl, hat⟩ := World.cells?_some hc
      have hcell : ∀ j, j < s → w.cell? ((a.add (i * s)).add j) = (f y)[j]? := fun j hj => hat j hj
      have hspot : ∀ j, j < s → ((a.add (i * s)).add j).spot = none := fun j hj => by
        have h1 := hcell j hj
        rw [List.getElem?_eq_getElem (by rw [hf]; exact hj)] at h1
        exact cell_spot h1
      have hblk : a.block < w.heap.size := by
        have h1 := hcell 0 hs0
        rw [List.getElem?_eq_getElem (by rw [hf]; exact hs0)] at h1
        have := World.block_lt_of_cell? w _ h1
        rw [(add_off _ _).2, (add_off _ _).2] at this
        exact this
      refine ⟨y, ⟨hq, hm1⟩, ?_, hblk, fun j hj => ?_⟩
      · exact hspot0 (by omega)
      · rw [← hcell j hj, addr_none (hspot j hj), (add_off _ _).1, (add_off _ _).2, (add_off _ _).1, (add_off _ _).2]
    obtain ⟨L, hL, hget⟩ := list_of len key
    refine ⟨some a, len, cap, L, rfl, ⟨hL, fun i y hy => ?_⟩, by omega, hl, hm, fun y hy => ?_, ?_⟩
    · obtain ⟨_, h1, h2, h3⟩ := hget i y hy
      exact ⟨a.block, a.off, by rw [← addr_none h1], h2, h3⟩
    · obtain ⟨i, hi'⟩ := List.getElem?_of_mem hy
      exact (hget i y hi').1
    · rw [hL, hd]
      have := bulk_all ((List.range len).map D)
      simp only [List.length_map, List.length_range] at this
      simp only [Rows.uptoBulk]
      omega
theorem open_trodC {α : Type} {Q : α → Prop} {M : α → Nat} (f : α → List Value) (s : Nat) (hs0 : 0 < s) {t e : TypeId} {fuel : Nat} {x : DataW H × List MemPlace} (hf : ∀ x, (f x).length = s) (ht : P.underlying t = some (.slice e)) (hC : P.cellsOf e = s)
    (mb : Nat) (hmb : ∀ n cs x, DataW.trod enc P w base spare held n e cs = some x → mb ≤ Rows.uptoBulk x.1) (hread : ∀ n cs x, DataW.trod enc P w base spare held n e cs = some x → ∃ y : α, cs = f y ∧ Q y ∧ M y ≤ Rows.uptoBulk x.1)
    {c0 : Value} (hf0 : DataW.trod enc P w base spare held fuel t [c0] = some x) : ∃ A n c L, c0 = .slice A n c ∧ Arg f s w A n L ∧ n ≤ maxLen ∧ n ≤ c ∧ c ≤ maxLen ∧ (∀ y ∈ L, Q y ∧ M y ≤ Rows.uptoBulk x.1) ∧ L.length * mb ≤ Rows.uptoBulk x.1 := by
  rcases open_slice ht hf0 with ⟨hcs, _⟩ | ⟨a, len, cap, m, n, D, Pl, hcs, hb, hl, hm, hmm, hx, hi⟩
  · simp at hcs
    subst hcs
    exact ⟨none, 0, 0, [], rfl, ⟨rfl, fun i t h => by simp at h⟩, by unfold maxLen; omega, Nat.le_refl _, Nat.zero_le _, fun y hy => (by cases hy), by simp⟩
  · simp at hcs
    subst hcs
    have hd : x.1 = .slice ((List.range len).map D) ((List.range (m - len)).map fun j => D (len + j)) := by rw [hx]
    have hml : len ≤ m := by rw [hmm]; split <;> omega
    have hspot0 : 0 < len → a.spot = none := fun hl0 => by
      obtain ⟨cs', hc, htr⟩ := hi 0 (by omega)
      obtain ⟨y, rfl, hq, _⟩ := hread _ _ _ htr
      rw [hC] at hc
      obtain ⟨_, hcl, hat⟩ := World.cells?_some hc
      have h1 : w.cell? ((a.add (0 * s)).add 0) = (f y)[0]? := hat 0 hs0
      rw [List.getElem?_eq_getElem (by rw [hf]; exact hs0)] at h1
      have h2 := cell_spot h1
      simpa [Addr.add] using h2
    have key : ∀ i, i < len → ∃ y : α, (Q y ∧ M y ≤ Rows.uptoBulk x.1) ∧ a.spot = none ∧ a.block < w.heap.size ∧ ∀ j, j < s → w.cell? ⟨a.block, a.off + i * s + j, none⟩ = (f y)[j]? := by
      intro i hil
      obtain ⟨cs', hc, htr⟩ := hi i (by omega)
      obtain ⟨y, rfl, hq, hm0⟩ := hread _ _ _ htr
      have hm1 : M y ≤ Rows.uptoBulk x.1 := by
        refine Nat.le_trans hm0 ?_
        rw [hd]
        simp only [Rows.uptoBulk]
        have := bulk_mem (l := (List.range len).map D) (List.mem_map.2 ⟨i, List.mem_range.2 hil, rfl⟩)
        omega
      rw [hC] at hc
      obtain ⟨_, hcl, hat⟩ := World.cells?_some hc
      have hcell : ∀ j, j < s → w.cell? ((a.add (i * s)).add j) = (f y)[j]? := fun j hj => hat j hj
      have hspot : ∀ j, j < s → ((a.add (i * s)).add j).spot = none := fun j hj => by
        have h1 := hcell j hj
        rw [List.getElem?_eq_getElem (by rw [hf]; exact hj)] at h1
        exact cell_spot h1
      have hblk : a.block < w.heap.size := by
        have h1 := hcell 0 hs0
        rw [List.getElem?_eq_getElem (by rw [hf]; exact hs0)] at h1
        have := World.block_lt_of_cell? w _ h1
        rw [(add_off _ _).2, (add_off _ _).2] at this
        exact this
      refine ⟨y, ⟨hq, hm1⟩, ?_, hblk, fun j hj => ?_⟩
      · exact hspot0 (by omega)
      · rw [← hcell j hj, addr_none (hspot j hj), (add_off _ _).1, (add_off _ _).2, (add_off _ _).1, (add_off _ _).2]
    obtain ⟨L, hL, hget⟩ := list_of len key
    refine ⟨some a, len, cap, L, rfl, ⟨hL, fun i y hy => ?_⟩, by omega, hl, hm, fun y hy => ?_, ?_⟩
    · obtain ⟨_, h1, h2, h3⟩ := hget i y hy
      exact ⟨a.block, a.off, by rw [← addr_none h1], h2, h3⟩
    · obtain ⟨i, hi'⟩ := List.getElem?_of_mem hy
      exact (hget i y hi').1
    · rw [hL, hd]
      have := bulk_each mb ((List.range len).map D) (fun y hy => by
        obtain ⟨i, hi', rfl⟩ := List.mem_map.1 hy
        obtain ⟨cs', _, htr⟩ := hi i (by have := List.mem_range.1 hi'; omega)
        exact hmb _ _ _ htr)
      simp only [List.length_map, List.length_range] at this
      simp only [Rows.uptoBulk]
      omega
end
section
variable {H : Type} {enc : TypeId × Value → H} {w : World} {base b0 : Nat} {spare : Nat → Bool} {held : Bool} {r : Reach} {v : Value} {d : DataW H} {p : List MemPlace}
set_option maxRecDepth 100000 in
theorem hash_bulk {n : Nat} {cs : List Value} {x : DataW H × List MemPlace} (h : DataW.trod enc Tryz.prog w base spare held n 35 cs = some x) : 33 ≤ Rows.uptoBulk x.1 := by
  obtain ⟨xs, m, _, hx, hcl, hlen, hg⟩ := DataW.trod_array Tryz.underlying35 h
  rw [hx]
  simp only [Rows.uptoBulk]
  have := bulk_all (xs.map (·.1))
  rw [List.length_map, hlen] at this
  omega
set_option maxRecDepth 100000 in
theorem has_open (hv : Value.okWide Tryz.prog w r b0 59 v) (h : DataW.Trod enc Tryz.prog w base spare held 59 v d p) : ∃ Q : List Hs, HaSl w v Q ∧ HsOk Q ∧ Q.length * 33 ≤ Rows.uptoBulk d ∧ LowS w.heap.size v := by
  have hlow := slice_low Tryz.underlying59 hv
  obtain ⟨a0, len, cap, rfl⟩ := okWide_slice Tryz.underlying59 hv
  obtain ⟨fuel, hf⟩ := h
  obtain ⟨A, m, k, L, e, hA, _, hc, hcm, hL, hl⟩ := open_trodC (P := Tryz.prog) (α := {l : Hs // l.length = 32}) (Q := fun _ => True) (M := fun _ => 0) (fun l => l.1.map bv) 32 (by omega) (fun l => by rw [List.length_map, l.2]) Tryz.underlying59 (by kernel_rfl) 33 (fun n cs x hx => hash_bulk hx) (fun n cs x hx => by
    obtain ⟨l, h1, h2⟩ := trod_hash hx
    exact ⟨⟨l, h1⟩, h2, trivial, Nat.zero_le _⟩) hf
  unfold maxLen at hcm
  refine ⟨L.map (·.1), ⟨A, k, by rw [e, List.length_map, hA.1], by rw [List.length_map, hA.1]; exact hc, hcm, fun i q hq => ?_⟩, fun q hq => ?_, by rw [List.length_map]; exact hl, hlow⟩
  · rw [List.getElem?_map] at hq
    cases hli : L[i]? with
    | none => rw [hli] at hq; cases hq
    | some l =>
      rw [hli] at hq
      simp only [Option.map_some, Option.some.injEq] at hq
      obtain ⟨bk, off, h1, h2, h3⟩ := hA.2 i l hli
      refine ⟨bk, off, h1, h2, fun j x hj => ?_⟩
      have hj2 : j < (q.map bv).length := (List.getElem?_eq_some_iff.1 hj).1
      rw [List.length_map, ← hq, l.2] at hj2
      rw [h3 j hj2, ← hj, ← hq]
      rfl
  · obtain ⟨l, _, rfl⟩ := List.mem_map.1 hq
    exact l.2
end
end Go.Proofs.YtgalfohobgjelaaGreatDoor
