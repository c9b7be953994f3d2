/- What is proved here: how a head that comes in as an argument is opened. Conditions: what comes in can be read. -/
import Derived.Test.YtoehfainhmfghaaGreatDoorM1
import Derived.Test.YtoehfainhmfghaaGreatDoorN1
namespace Go.Proofs.YtoehfainhmfghaaGreatDoor
open Go.ChangeShapes Go.WideShapes Go.ChangeAt Go.RowKit Go.Deep
section
variable {H : Type} {enc : TypeId × Value → H} {w : World} {base b0 : Nat} {spare : Nat → Bool} {held : Bool} {r : Reach} {v : Value} {d : DataW H} {p : List MemPlace}
theorem q_u8 {n : Nat} {c : Value} {x : DataW H × List MemPlace} (h : DataW.trod enc Tryz.prog w base spare held n 5 [c] = some x) : ∃ y : UInt8, c = bv y := by
  obtain ⟨m, hc, _, hw⟩ := DataW.trod_int Tryz.underlying5 h
  have hb : 0 ≤ m ∧ m ≤ 255 := by simpa [Lit.wf, IntKind.min, IntKind.max, IntKind.signed, IntKind.bits] using hw
  refine ⟨UInt8.ofNat m.toNat, ?_⟩
  rw [(List.cons.inj hc).1]
  unfold bv
  congr 1
  rw [UInt8.toNat_ofNat']
  omega
set_option maxRecDepth 100000 in
theorem q_hash {n : Nat} {cs : List Value} {x : DataW H × List MemPlace} (h : DataW.trod enc Tryz.prog w base spare held n 23 cs = some x) : ∃ l : List UInt8, l.length = 32 ∧ cs = l.map bv := by
  obtain ⟨xs, m, _, _, hcl, hlen, hg⟩ := DataW.trod_array Tryz.underlying23 h
  have e1 : Tryz.prog.cellsOf 5 = 1 := by kernel_rfl
  have e32 : Tryz.prog.cellsOf 23 = 32 := by kernel_rfl
  rw [e32] at hcl
  obtain ⟨L, hL, hget⟩ := list_of (R := fun i y => cs[i]? = some (bv y)) 32 (fun i hi => by
    have h1 := hg i hi
    rw [e1, Nat.mul_one] at h1
    have h2 : (cs.drop i).take 1 = [cs[i]] := by rw [List.drop_eq_getElem_cons (by omega)]; rfl
    rw [h2] at h1
    obtain ⟨y, hy⟩ := q_u8 (h1.trans (List.getElem?_eq_getElem (by omega)))
    exact ⟨y, by rw [List.getElem?_eq_getElem (by omega), hy]⟩)
  refine ⟨L, hL, List.ext_getElem? fun i => ?_⟩
  by_cases hi : i < 32
  · rw [List.getElem?_map, List.getElem?_eq_getElem (by omega : i < L.length)]
    exact hget i _ (List.getElem?_eq_getElem (by omega))
  · rw [List.getElem?_eq_none (by omega), List.getElem?_eq_none (by simp; omega)]
theorem q_i64 {n : Nat} {c : Value} {x : DataW H × List MemPlace} (h : DataW.trod enc Tryz.prog w base spare held n 3 [c] = some x) : ∃ a : Int, c = .int .i64 a ∧ In a := by
  obtain ⟨m, hc, _, hw⟩ := DataW.trod_int Tryz.underlying3 h
  exact ⟨m, (List.cons.inj hc).1, by simpa [In, Lit.wf, IntKind.min, IntKind.max, IntKind.signed, IntKind.bits] using hw⟩
set_option maxRecDepth 100000 in
theorem q_hd {n : Nat} {cs : List Value} {x : DataW H × List MemPlace} (h : DataW.trod enc Tryz.prog w base spare held n 25 cs = some x) : ∃ e : Hd, cs = hdC e ∧ e.Ok := by
  obtain ⟨xs, m, _, hx, hcl, hlen, hg⟩ := DataW.trod_struct Tryz.underlying25 h
  have ei : Tryz.prog.cellsOf 3 = 1 := by kernel_rfl
  have e32 : Tryz.prog.cellsOf 23 = 32 := by kernel_rfl
  have e33 : Tryz.prog.cellsOf 25 = 33 := by kernel_rfl
  rw [e33] at hcl
  match cs, hcl with
  | c0 :: r, hcl =>
    have hr : r.length = 32 := by simp at hcl; omega
    match xs, hlen with
    | [y0, y1], _ =>
      have h0 := hg 0 _ rfl
      have h1 := hg 1 _ rfl
      clear hg
      simp [ei] at h0
      simp [e32] at h1
      obtain ⟨a0, rfl, i0⟩ := q_i64 h0
      obtain ⟨l, hl, k1⟩ := q_hash h1
      refine ⟨⟨a0, l⟩, ?_, ⟨i0, hl⟩⟩
      rw [List.take_of_length_le (by omega)] at k1
      rw [k1]
      rfl
set_option maxRecDepth 100000 in
theorem hd_open (hv : Value.okWide Tryz.prog w r b0 25 v) (h : DataW.Trod enc Tryz.prog w base spare held 25 v d p) : ∃ e : Hd, v = .agg (hdC e).toArray ∧ e.Ok := by
  obtain ⟨cs, rfl, hsz⟩ := okWide_struct Tryz.underlying25 hv
  obtain ⟨fuel, hf⟩ := h
  obtain ⟨e, he, hok⟩ := q_hd hf
  refine ⟨e, ?_, hok⟩
  have h1 : cs.toList = hdC e := by simpa [Value.cells] using he
  rw [← h1]
end
end Go.Proofs.YtoehfainhmfghaaGreatDoor
