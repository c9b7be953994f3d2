/- What is proved here: how an event, a hash and a slice of events that come in are opened to plain events. Conditions: what comes in can be read. -/
import Derived.Test.YtclpebgjmgfigaaGreatDoorM1
import Derived.Test.YtclpebgjmgfigaaGreatDoorEvA
namespace Go.Proofs.YtclpebgjmgfigaaGreatDoor
open Go.ChangeShapes Go.WideShapes Go.ChangeAt Go.RowKit Go.Deep
abbrev tEv : TypeId := 29
/-- An event's cells. -/
def evC (e : Ev) : List Value := [.int .i64 e.seq, .int .i64 e.kind, .int .i64 e.who, .int .i64 e.time, .int .i64 e.bidder, .int .i64 e.lot, .int .i64 e.n, .int .i64 e.other, .string e.name, .string e.text, .int .i64 e.sx, .int .i64 e.sy] ++ (e.prev.map bv ++ [.int .i64 e.r, .int .i64 e.s])
theorem evC_len {e : Ev} (h : e.prev.length = 32) : (evC e).length = 46 := by simp [evC, h]
section
variable {H : Type} {enc : TypeId × Value → H} {w : World} {base : Nat} {spare : Nat → Bool} {held : Bool}
theorem trod_u8 {n : Nat} {c : Value} {x : DataW H × List MemPlace} (h : DataW.trod enc Tryz.prog w base spare held n 5 [c] = some x) : ∃ y : UInt8, c = bv y := by
  obtain ⟨m, hc, _, hw⟩ := DataW.trod_int Tryz.underlying5 h
  have hb : 0 ≤ m ∧ m ≤ 255 := by simpa [Lit.wf, IntKind.min, IntKind.max, IntKind.signed, IntKind.bits] using hw
  refine ⟨UInt8.ofNat m.toNat, ?_⟩
  rw [(List.cons.inj hc).1]
  unfold bv
  congr 1
  rw [UInt8.toNat_ofNat']
  omega
set_option maxRecDepth 100000 in
theorem trod_hash {n : Nat} {cs : List Value} {x : DataW H × List MemPlace} (h : DataW.trod enc Tryz.prog w base spare held n 25 cs = some x) : ∃ l : List UInt8, l.length = 32 ∧ cs = l.map bv := by
  obtain ⟨xs, m, _, _, hcl, hlen, hg⟩ := DataW.trod_array Tryz.underlying25 h
  have e1 : Tryz.prog.cellsOf 5 = 1 := by kernel_rfl
  have e32 : Tryz.prog.cellsOf 25 = 32 := by kernel_rfl
  rw [e32] at hcl
  obtain ⟨L, hL, hget⟩ := list_of (R := fun i y => cs[i]? = some (bv y)) 32 (fun i hi => by
    have h1 := hg i hi
    rw [e1, Nat.mul_one] at h1
    have h2 : (cs.drop i).take 1 = [cs[i]] := by rw [List.drop_eq_getElem_cons (by omega)]; rfl
    rw [h2] at h1
    obtain ⟨y, hy⟩ := trod_u8 (h1.trans (List.getElem?_eq_getElem (by omega)))
    exact ⟨y, by rw [List.getElem?_eq_getElem (by omega), hy]⟩)
  refine ⟨L, hL, List.ext_getElem? fun i => ?_⟩
  by_cases hi : i < 32
  · rw [List.getElem?_map, List.getElem?_eq_getElem (by omega : i < L.length)]
    exact hget i _ (List.getElem?_eq_getElem (by omega))
  · rw [List.getElem?_eq_none (by omega), List.getElem?_eq_none (by simp; omega)]
theorem trod_i64 {n : Nat} {c : Value} {x : DataW H × List MemPlace} (h : DataW.trod enc Tryz.prog w base spare held n 3 [c] = some x) : ∃ a : Int, c = .int .i64 a ∧ In a := by
  obtain ⟨m, hc, _, hw⟩ := DataW.trod_int Tryz.underlying3 h
  exact ⟨m, (List.cons.inj hc).1, by simpa [In, Lit.wf, IntKind.min, IntKind.max, IntKind.signed, IntKind.bits] using hw⟩
theorem trod_str {n : Nat} {c : Value} {x : DataW H × List MemPlace} (h : DataW.trod enc Tryz.prog w base spare held n 9 [c] = some x) : ∃ s : ByteArray, c = .string s ∧ x.1 = .lit (.string s.data.toList) := by
  obtain ⟨s, hc, hx, _⟩ := DataW.trod_string Tryz.underlying9 h
  exact ⟨s, (List.cons.inj hc).1, by rw [hx]⟩
set_option maxRecDepth 100000 in
theorem trod_share {n : Nat} {cs : List Value} {x : DataW H × List MemPlace} (h : DataW.trod enc Tryz.prog w base spare held n 23 cs = some x) : ∃ a b : Int, cs = [.int .i64 a, .int .i64 b] ∧ In a ∧ In b := by
  obtain ⟨xs, m, _, _, hcl, hlen, hg⟩ := DataW.trod_struct Tryz.underlying23 h
  have e1 : Tryz.prog.cellsOf 3 = 1 := by kernel_rfl
  have e2 : Tryz.prog.cellsOf 23 = 2 := by kernel_rfl
  rw [e2] at hcl
  match cs, hcl with
  | [c0, c1], _ =>
    match xs, hlen with
    | [y0, y1], _ =>
      have h0 := hg 0 _ rfl
      have h1 := hg 1 _ rfl
      simp [e1] at h0 h1
      obtain ⟨a, rfl, ia⟩ := trod_i64 h0
      obtain ⟨b, rfl, ib⟩ := trod_i64 h1
      exact ⟨a, b, rfl, ia, ib⟩
set_option maxRecDepth 100000 in
theorem trod_sig {n : Nat} {cs : List Value} {x : DataW H × List MemPlace} (h : DataW.trod enc Tryz.prog w base spare held n 27 cs = some x) : ∃ a b : Int, cs = [.int .i64 a, .int .i64 b] ∧ In a ∧ In b := by
  obtain ⟨xs, m, _, _, hcl, hlen, hg⟩ := DataW.trod_struct Tryz.underlying27 h
  have e1 : Tryz.prog.cellsOf 3 = 1 := by kernel_rfl
  have e2 : Tryz.prog.cellsOf 27 = 2 := by kernel_rfl
  rw [e2] at hcl
  match cs, hcl with
  | [c0, c1], _ =>
    match xs, hlen with
    | [y0, y1], _ =>
      have h0 := hg 0 _ rfl
      have h1 := hg 1 _ rfl
      simp [e1] at h0 h1
      obtain ⟨a, rfl, ia⟩ := trod_i64 h0
      obtain ⟨b, rfl, ib⟩ := trod_i64 h1
      exact ⟨a, b, rfl, ia, ib⟩
set_option maxRecDepth 100000 in
set_option maxHeartbeats 1000000 in
theorem read_ev : ∀ n cs x, DataW.trod enc Tryz.prog w base spare held n 29 cs = some x → ∃ e : Ev, cs = evC e ∧ e.Ok ∧ e.name.size + e.text.size ≤ Rows.uptoBulk x.1 := by
  intro n cs x h
  obtain ⟨xs, m, _, hx, hcl, hlen, hg⟩ := DataW.trod_struct Tryz.underlying29 h
  have ei : Tryz.prog.cellsOf 3 = 1 := by kernel_rfl
  have es : Tryz.prog.cellsOf 9 = 1 := by kernel_rfl
  have e2 : Tryz.prog.cellsOf 23 = 2 := by kernel_rfl
  have e3 : Tryz.prog.cellsOf 27 = 2 := by kernel_rfl
  have e32 : Tryz.prog.cellsOf 25 = 32 := by kernel_rfl
  have e46 : Tryz.prog.cellsOf 29 = 46 := by kernel_rfl
  rw [e46] at hcl
  match cs, hcl with
  | c0 :: c1 :: c2 :: c3 :: c4 :: c5 :: c6 :: c7 :: c8 :: c9 :: c10 :: c11 :: r, hcl =>
    have hr : r.length = 34 := by simp at hcl; omega
    match xs, hlen with
    | [y0, y1, y2, y3, y4, y5, y6, y7, y8, y9, y10, y11, y12], _ =>
      have h0 := hg 0 _ rfl
      have h1 := hg 1 _ rfl
      have h2 := hg 2 _ rfl
      have h3 := hg 3 _ rfl
      have h4 := hg 4 _ rfl
      have h5 := hg 5 _ rfl
      have h6 := hg 6 _ rfl
      have h7 := hg 7 _ rfl
      have h8 := hg 8 _ rfl
      have h9 := hg 9 _ rfl
      have h10 := hg 10 _ rfl
      have h11 := hg 11 _ rfl
      have h12 := hg 12 _ rfl
      clear hg
      simp [ei] at h0 h1 h2 h3 h4 h5 h6 h7
      simp [es] at h8 h9
      simp [e2] at h10
      simp [e32] at h11
      simp [e3] at h12
      obtain ⟨a0, rfl, i0⟩ := trod_i64 h0
      obtain ⟨a1, rfl, i1⟩ := trod_i64 h1
      obtain ⟨a2, rfl, i2⟩ := trod_i64 h2
      obtain ⟨a3, rfl, i3⟩ := trod_i64 h3
      obtain ⟨a4, rfl, i4⟩ := trod_i64 h4
      obtain ⟨a5, rfl, i5⟩ := trod_i64 h5
      obtain ⟨a6, rfl, i6⟩ := trod_i64 h6
      obtain ⟨a7, rfl, i7⟩ := trod_i64 h7
      obtain ⟨s8, rfl, b8⟩ := trod_str h8
      obtain ⟨s9, rfl, b9⟩ := trod_str h9
      obtain ⟨a10, a11, k10, i10, i11⟩ := trod_share h10
      obtain ⟨l, hl, k12⟩ := trod_hash h11
      obtain ⟨a13, a14, k13, i13, i14⟩ := trod_sig h12
      simp only [List.cons.injEq, and_true] at k10
      obtain ⟨rfl, rfl⟩ := k10
      refine ⟨⟨a0, a1, a2, a3, a4, a5, a6, a7, s8, s9, a10, a11, l, a13, a14⟩, ?_, ⟨i0, i1, i2, i3, i4, i5, i6, i7, i10, i11, hl, i13, i14⟩, ?_⟩
      · have hrr : r = r.take 32 ++ r.drop 32 := (List.take_append_drop 32 r).symm
        have hd : (r.drop 32).take 2 = r.drop 32 := List.take_of_length_le (by simp; omega)
        rw [hrr, k12, ← hd, k13]
        rfl
      · rw [hx]
        simp only [List.map_cons, List.map_nil, Rows.uptoBulk, Rows.uptoBulkAll, b8, b9]
        rw [size_list, size_list]
        omega
end
end Go.Proofs.YtclpebgjmgfigaaGreatDoor
