/- What is proved here: how lists of ballots, and pairs of numbers, that come in as arguments are opened. Conditions: what comes in can be read. -/
import Derived.Test.YtoehfainhmfghaaGreatDoorOpenQ
import Derived.Test.YtoehfainhmfghaaGreatDoorB3
namespace Go.Proofs.YtoehfainhmfghaaGreatDoor
open Go.ChangeShapes Go.WideShapes Go.ChangeAt Go.RowKit Go.Deep
section
variable {H : Type} {enc : TypeId × Value → H} {w : World} {base b0 : Nat} {spare : Nat → Bool} {held : Bool} {r : Reach} {v : Value} {d : DataW H} {p : List MemPlace}
theorem v_u8 {n : Nat} {c : Value} {x : DataW H × List MemPlace} (h : DataW.trod enc Tryz.prog w base spare held n 5 [c] = some x) : ∃ m : Nat, c = .int .u8 (m : Int) ∧ m < 256 := by
  obtain ⟨m, hc, _, hw⟩ := DataW.trod_int Tryz.underlying5 h
  have hb : 0 ≤ m ∧ m ≤ 255 := by simpa [Lit.wf, IntKind.min, IntKind.max, IntKind.signed, IntKind.bits] using hw
  exact ⟨m.toNat, by rw [(List.cons.inj hc).1]; congr 1; omega, by omega⟩
theorem v_u16 {n : Nat} {c : Value} {x : DataW H × List MemPlace} (h : DataW.trod enc Tryz.prog w base spare held n 52 [c] = some x) : ∃ m : Nat, c = .int .u16 (m : Int) ∧ m < 65536 := by
  obtain ⟨m, hc, _, hw⟩ := DataW.trod_int Tryz.underlying52 h
  have hb : 0 ≤ m ∧ m ≤ 65535 := by simpa [Lit.wf, IntKind.min, IntKind.max, IntKind.signed, IntKind.bits] using hw
  exact ⟨m.toNat, by rw [(List.cons.inj hc).1]; congr 1; omega, by omega⟩
set_option maxRecDepth 100000 in
theorem q_bal {n : Nat} {cs : List Value} {x : DataW H × List MemPlace} (h : DataW.trod enc Tryz.prog w base spare held n 60 cs = some x) : ∃ b : Bal, cs = balC b ∧ b.Ok := by
  obtain ⟨xs, m, _, hx, hcl, hlen, hg⟩ := DataW.trod_struct Tryz.underlying60 h
  have ei : Tryz.prog.cellsOf 5 = 1 := by kernel_rfl
  have e3 : Tryz.prog.cellsOf 60 = 3 := by kernel_rfl
  rw [e3] at hcl
  match cs, hcl with
  | [c0, c1, c2], _ =>
    match xs, hlen with
    | [y0, y1, y2], _ =>
      have h0 := hg 0 _ rfl
      have h1 := hg 1 _ rfl
      have h2 := hg 2 _ rfl
      clear hg
      simp [ei] at h0 h1 h2
      obtain ⟨a0, rfl, i0⟩ := v_u8 h0
      obtain ⟨a1, rfl, i1⟩ := v_u8 h1
      obtain ⟨a2, rfl, i2⟩ := v_u8 h2
      exact ⟨⟨a0, a1, a2⟩, rfl, i0, i1, i2⟩
set_option maxRecDepth 100000 in
theorem bals_open (hv : Value.okWide Tryz.prog w r b0 34 v) (h : DataW.Trod enc Tryz.prog w base spare held 34 v d p) : ∃ L : List Bal, BalSl w v L ∧ BalsOk L := by
  obtain ⟨A, n, c, L, rfl, hA, hn, hc, hcm, hL⟩ := open_argB (Q := Bal.Ok) (M := fun _ => 0) balC 3 (by omega) balC_len Tryz.underlying34 (by kernel_rfl) (fun n cs x hx => by
    obtain ⟨b, h1, h2⟩ := q_bal hx
    exact ⟨b, h1, h2, Nat.zero_le _⟩) hv h
  unfold maxLen at hcm
  refine ⟨L, ⟨A, c, by rw [hA.1], by rw [hA.1]; exact hc, hcm, fun i b hb => ?_⟩, fun b hb => (hL b hb).1⟩
  obtain ⟨bk, off, e, hlt, hcell⟩ := hA.2 i b hb
  exact ⟨bk, off, e, hlt, fun j x hj => by rw [hcell j (List.getElem?_eq_some_iff.1 hj).1]; exact hj⟩
set_option maxRecDepth 100000 in
theorem a2_u8 (hv : Value.okWide Tryz.prog w r b0 68 v) (h : DataW.Trod enc Tryz.prog w base spare held 68 v d p) : ∃ x y : Nat, v = .agg #[.int .u8 (x : Int), .int .u8 (y : Int)] ∧ x < 256 ∧ y < 256 := by
  have hagg : ∃ cs, v = .agg cs := by
    have hv' := hv
    simp only [Value.okWide, Tryz.underlying68] at hv'
    obtain ⟨cs, h1, _⟩ := hv'
    exact ⟨cs, h1⟩
  obtain ⟨cs, rfl⟩ := hagg
  obtain ⟨fuel, hf⟩ := h
  obtain ⟨xs, m, _, _, hcl, hlen, hg⟩ := DataW.trod_array Tryz.underlying68 hf
  have e3 : Tryz.prog.cellsOf 68 = 2 := by kernel_rfl
  have e1 : Tryz.prog.cellsOf 5 = 1 := by kernel_rfl
  have hl : (Value.agg cs).cells.toList.length = 2 := hcl.trans e3
  obtain ⟨l⟩ := cs
  simp only [Value.cells] at hl hg
  match l, hl with
  | [c0, c1], _ =>
    match xs, hlen with
    | [y0, y1], _ =>
      have h0 := hg 0 (by omega)
      have h1 := hg 1 (by omega)
      simp [e1] at h0 h1
      obtain ⟨x, rfl, bx⟩ := v_u8 h0
      obtain ⟨y, rfl, by'⟩ := v_u8 h1
      exact ⟨x, y, rfl, bx, by'⟩
set_option maxRecDepth 100000 in
theorem a2_u16 (hv : Value.okWide Tryz.prog w r b0 53 v) (h : DataW.Trod enc Tryz.prog w base spare held 53 v d p) : ∃ x y : Nat, v = .agg #[.int .u16 (x : Int), .int .u16 (y : Int)] ∧ x < 65536 ∧ y < 65536 := by
  have hagg : ∃ cs, v = .agg cs := by
    have hv' := hv
    simp only [Value.okWide, Tryz.underlying53] at hv'
    obtain ⟨cs, h1, _⟩ := hv'
    exact ⟨cs, h1⟩
  obtain ⟨cs, rfl⟩ := hagg
  obtain ⟨fuel, hf⟩ := h
  obtain ⟨xs, m, _, _, hcl, hlen, hg⟩ := DataW.trod_array Tryz.underlying53 hf
  have e3 : Tryz.prog.cellsOf 53 = 2 := by kernel_rfl
  have e1 : Tryz.prog.cellsOf 52 = 1 := by kernel_rfl
  have hl : (Value.agg cs).cells.toList.length = 2 := hcl.trans e3
  obtain ⟨l⟩ := cs
  simp only [Value.cells] at hl hg
  match l, hl with
  | [c0, c1], _ =>
    match xs, hlen with
    | [y0, y1], _ =>
      have h0 := hg 0 (by omega)
      have h1 := hg 1 (by omega)
      simp [e1] at h0 h1
      obtain ⟨x, rfl, bx⟩ := v_u16 h0
      obtain ⟨y, rfl, by'⟩ := v_u16 h1
      exact ⟨x, y, rfl, bx, by'⟩
end
end Go.Proofs.YtoehfainhmfghaaGreatDoor
