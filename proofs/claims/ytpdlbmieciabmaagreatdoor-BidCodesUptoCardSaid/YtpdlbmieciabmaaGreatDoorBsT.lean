/- What is proved here: how a plain bid with a change is opened. Conditions: what comes in can be read. -/
import Derived.Test.YtpdlbmieciabmaaGreatDoorBsG
import Derived.Test.YtpdlbmieciabmaaGreatDoorBsK
namespace Go.Proofs.YtpdlbmieciabmaaGreatDoor
open Go.ChangeShapes Go.WideShapes Go.ChangeAt Go.RowKit Go.Deep
section
variable {H : Type} {enc : TypeId × Value → H} {w : World} {base b0 : Nat} {spare : Nat → Bool} {held : Bool} {r : Reach} {v : Value} {d : DataW H} {p : List MemPlace}
theorem o_intsB {n : Nat} {c : Value} {x : DataW H × List MemPlace} (h : DataW.trod enc Tryz.prog w base spare held n 38 [c] = some x) : ∃ (L : List Int) (A : Option Addr) (k : Nat), c = .slice A L.length k ∧ SlOf inC 1 w (.slice A L.length k) L ∧ (∀ y ∈ L, In y) ∧ L.length ≤ Rows.uptoBulk x.1 := by
  obtain ⟨A, m, k, L, rfl, hA, _, hn, hc, hQ, hl⟩ := open_trodB (P := Tryz.prog) (Q := In) (M := fun _ => 0) inC 1 (by omega) (fun _ => rfl) Tryz.underlying38 (by kernel_rfl) (fun n cs x hx => by
    obtain ⟨y, h1, h2⟩ := o_i64 hx
    exact ⟨y, h1, h2, Nat.zero_le _⟩) h
  have e : m = L.length := hA.1.symm
  subst e
  exact ⟨L, A, k, rfl, arg_sl hA (fun _ => rfl) hn hc, fun y hy => (hQ y hy).1, hl⟩
theorem o_str {n : Nat} {c : Value} {x : DataW H × List MemPlace} (h : DataW.trod enc Tryz.prog w base spare held n 9 [c] = some x) : ∃ s : ByteArray, c = .string s ∧ x.1 = .lit (.string s.data.toList) := by
  obtain ⟨s, hc, hx, _⟩ := DataW.trod_string Tryz.underlying9 h
  exact ⟨s, (List.cons.inj hc).1, by rw [hx]⟩
set_option maxRecDepth 100000 in
theorem o_two {n : Nat} {cs : List Value} {x : DataW H × List MemPlace} (h : DataW.trod enc Tryz.prog w base spare held n 61 cs = some x) : ∃ a b : ByteArray, cs = [.string a, .string b] := by
  obtain ⟨xs, m, _, _, hcl, hlen, hg⟩ := DataW.trod_array Tryz.underlying61 h
  have e2 : Tryz.prog.cellsOf 61 = 2 := by kernel_rfl
  have e1 : Tryz.prog.cellsOf 9 = 1 := by kernel_rfl
  rw [e2] at hcl
  match cs, hcl with
  | [c0, c1], _ =>
    match xs, hlen with
    | [y0, y1], _ =>
      have h0 := hg 0 (by omega)
      have h1 := hg 1 (by omega)
      simp [e1] at h0 h1
      obtain ⟨a, rfl, _⟩ := o_str h0
      obtain ⟨b, rfl, _⟩ := o_str h1
      exact ⟨a, b, rfl⟩
set_option maxRecDepth 100000 in
theorem o_three {n : Nat} {cs : List Value} {x : DataW H × List MemPlace} (h : DataW.trod enc Tryz.prog w base spare held n 62 cs = some x) : ∃ a b c : Int, cs = [.int .i64 a, .int .i64 b, .int .i64 c] ∧ In a ∧ In b ∧ In c := by
  obtain ⟨xs, m, _, _, hcl, hlen, hg⟩ := DataW.trod_array Tryz.underlying62 h
  have e2 : Tryz.prog.cellsOf 62 = 3 := by kernel_rfl
  have e1 : Tryz.prog.cellsOf 3 = 1 := by kernel_rfl
  rw [e2] at hcl
  match cs, hcl with
  | [c0, c1, c2], _ =>
    match xs, hlen with
    | [y0, y1, y2], _ =>
      have h0 := hg 0 (by omega)
      have h1 := hg 1 (by omega)
      have h2 := hg 2 (by omega)
      simp [e1] at h0 h1 h2
      obtain ⟨a, rfl, ia⟩ := trod_i64 h0
      obtain ⟨b, rfl, ib⟩ := trod_i64 h1
      obtain ⟨c, rfl, ic⟩ := trod_i64 h2
      exact ⟨a, b, c, rfl, ia, ib, ic⟩
set_option maxRecDepth 100000 in
theorem pl_open (hv : Value.okWide Tryz.prog w r b0 64 v) (h : DataW.Trod enc Tryz.prog w base spare held 64 v d p) : ∃ (n : Int) (t0 t1 raw : ByteArray) (F G : List Int) (fA oA : Option Addr) (fk ok : Nat) (q0 q1 q2 : Int), v = .agg #[.int .i64 n, .string t0, .string t1, .slice fA F.length fk, .slice oA G.length ok, .string raw, .int .i64 q0, .int .i64 q1, .int .i64 q2] ∧ In n ∧ (∀ x ∈ F, In x) ∧ (∀ x ∈ G, In x) ∧ SlOf inC 1 w (.slice fA F.length fk) F ∧ SlOf inC 1 w (.slice oA G.length ok) G ∧ In q0 ∧ In q1 ∧ raw.size + (F.length + G.length) ≤ Rows.uptoBulk d := by
  have hagg : ∃ cs, v = .agg cs := by
    have hv' := hv
    simp only [Value.okWide, Tryz.underlying64] at hv'
    obtain ⟨cs, h1, _⟩ := hv'
    exact ⟨cs, h1⟩
  obtain ⟨cs, rfl⟩ := hagg
  obtain ⟨fuel, hf⟩ := h
  obtain ⟨xs, m, _, hx, hcl, hlen, hg⟩ := DataW.trod_struct Tryz.underlying64 hf
  have e9 : Tryz.prog.cellsOf 64 = 9 := by kernel_rfl
  have ei : Tryz.prog.cellsOf 3 = 1 := by kernel_rfl
  have et : Tryz.prog.cellsOf 61 = 2 := by kernel_rfl
  have es : Tryz.prog.cellsOf 9 = 1 := by kernel_rfl
  have el : Tryz.prog.cellsOf 38 = 1 := by kernel_rfl
  have eq : Tryz.prog.cellsOf 62 = 3 := by kernel_rfl
  have hl : (Value.agg cs).cells.toList.length = 9 := hcl.trans e9
  obtain ⟨l⟩ := cs
  simp only [Value.cells] at hl hg
  match l, hl with
  | [c0, c1, c2, c3, c4, c5, c6, c7, c8], _ =>
    match xs, hlen with
    | [y0, y1, y2, y3, y4, y5], _ =>
      have h0 := hg 0 _ rfl
      have h1 := hg 1 _ rfl
      have h2 := hg 2 _ rfl
      have h3 := hg 3 _ rfl
      have h4 := hg 4 _ rfl
      have h5 := hg 5 _ rfl
      clear hg
      simp [ei, et, es, el, eq] at h0 h1 h2 h3 h4 h5
      obtain ⟨n, rfl, hn⟩ := trod_i64 h0
      obtain ⟨t0, t1, e1⟩ := o_two h1
      simp only [List.cons.injEq, and_true] at e1
      obtain ⟨rfl, rfl⟩ := e1
      obtain ⟨F, fA, fk, rfl, hF, hFi, hFl⟩ := o_intsB h2
      obtain ⟨G, oA, ok, rfl, hG, hGi, hGl⟩ := o_intsB h3
      obtain ⟨raw, rfl, hraw⟩ := o_str h4
      obtain ⟨q0, q1, q2, e5, i0, i1, _⟩ := o_three h5
      simp only [List.cons.injEq, and_true] at e5
      obtain ⟨rfl, rfl, rfl⟩ := e5
      refine ⟨n, t0, t1, raw, F, G, fA, oA, fk, ok, q0, q1, q2, rfl, hn, hFi, hGi, hF, hG, i0, i1, ?_⟩
      have hd : d = .agg [y0.1, y1.1, y2.1, y3.1, y4.1, y5.1] := by simpa using congrArg Prod.fst hx
      rw [hd]
      simp only [Rows.uptoBulk, Rows.uptoBulkAll, hraw]
      rw [size_list]
      omega
end
end Go.Proofs.YtpdlbmieciabmaaGreatDoor
