/- What is proved here: how an event, a slice of events, and an array of ints that come in as arguments are opened. Conditions: what comes in can be read. -/
import Derived.Test.YtclpebgjmgfigaaGreatDoorEvJ
import Derived.Test.YtclpebgjmgfigaaGreatDoorM1
namespace Go.Proofs.YtclpebgjmgfigaaGreatDoor
open Go.ChangeShapes Go.WideShapes Go.ChangeAt Go.RowKit Go.Deep
section
variable {H : Type} {enc : TypeId × Value → H} {w : World} {base b0 : Nat} {spare : Nat → Bool} {held : Bool} {r : Reach} {v : Value} {d : DataW H} {p : List MemPlace}
set_option maxRecDepth 100000 in
theorem ev_open (hv : Value.okWide Tryz.prog w r b0 29 v) (h : DataW.Trod enc Tryz.prog w base spare held 29 v d p) : ∃ e : Ev, v = .agg (evC e).toArray ∧ e.Ok ∧ e.name.size + e.text.size ≤ Rows.uptoBulk d := by
  obtain ⟨cs, rfl, hsz⟩ := okWide_struct Tryz.underlying29 hv
  obtain ⟨fuel, hf⟩ := h
  obtain ⟨e, he, hok, hb⟩ := read_ev _ _ _ hf
  refine ⟨e, ?_, hok, hb⟩
  have h1 : cs.toList = evC e := by simpa [Value.cells] using he
  rw [← h1]
/-- Events with a hash of 32 bytes. -/
abbrev EvH : Type := { e : Ev // e.prev.length = 32 }
set_option maxRecDepth 100000 in
theorem evs_open (hv : Value.okWide Tryz.prog w r b0 42 v) (h : DataW.Trod enc Tryz.prog w base spare held 42 v d p) : ∃ L : List Ev, EvSl w v L ∧ (∀ e ∈ L, e.Ok) ∧ ∀ e ∈ L, e.name.size + e.text.size ≤ Rows.uptoBulk d := by
  obtain ⟨A, n, c, L, rfl, ⟨hL, hA⟩, hn, hc, hcm, hq⟩ := open_argB (α := EvH) (Q := fun e => e.1.Ok) (M := fun e => e.1.name.size + e.1.text.size) (fun e => evC e.1) 46 (by omega) (fun x => evC_len x.2) Tryz.underlying42 (by kernel_rfl)
    (fun n cs x h => by
      obtain ⟨e, he, hok, hb⟩ := read_ev _ _ _ h
      exact ⟨⟨e, hok.prev⟩, he, hok, hb⟩) hv h
  refine ⟨L.map (·.1), ⟨A, c, ?_, ?_, ?_, fun i e he => ?_⟩, fun e he => ?_, fun e he => ?_⟩
  · rw [List.length_map, hL]
  · rw [List.length_map, hL]; exact hc
  · rw [maxLen_val] at hcm; exact hcm
  · rw [List.getElem?_map] at he
    obtain ⟨x, hx, rfl⟩ := Option.map_eq_some_iff.1 he
    obtain ⟨bk, off, h1, h2, h3⟩ := hA i x hx
    refine ⟨bk, off, h1, h2, fun j v hj => ?_⟩
    have hj2 : j < 46 := by
      have := (List.getElem?_eq_some_iff.1 hj).1
      rw [evC_len x.2] at this; exact this
    rw [h3 j hj2]; exact hj
  · obtain ⟨x, hx, rfl⟩ := List.mem_map.1 he
    exact (hq x hx).1
  · obtain ⟨x, hx, rfl⟩ := List.mem_map.1 he
    exact (hq x hx).2
set_option maxRecDepth 100000 in
theorem aint_open {t : TypeId} {q : Nat} (hu : Tryz.prog.underlying t = some (.array q 3)) (hc : Tryz.prog.cellsOf t = q) (hv : Value.okWide Tryz.prog w r b0 t v) (h : DataW.Trod enc Tryz.prog w base spare held t v d p) : ∃ xs : List Int, xs.length = q ∧ v = .agg (xs.map (fun x => Value.int .i64 x)).toArray ∧ ∀ x ∈ xs, In x := by
  have hagg : ∃ cs, v = .agg cs := by
    have hv' := hv
    simp only [Value.okWide, hu] at hv'
    obtain ⟨cs, h1, _⟩ := hv'
    exact ⟨cs, h1⟩
  obtain ⟨cs, rfl⟩ := hagg
  obtain ⟨fuel, hf⟩ := h
  obtain ⟨xs, m, _, _, hcl, hlen, hg⟩ := DataW.trod_array hu hf
  have e1 : Tryz.prog.cellsOf 3 = 1 := by kernel_rfl
  rw [hc] at hcl
  simp only [Value.cells] at hcl hg
  obtain ⟨L, hL, hget⟩ := list_of (R := fun i (y : Int) => cs.toList[i]? = some (.int .i64 y) ∧ In y) q (fun i hi => by
    have h1 := hg i hi
    rw [e1, Nat.mul_one] at h1
    have h2 : (cs.toList.drop i).take 1 = [cs.toList[i]] := by rw [List.drop_eq_getElem_cons (by omega)]; rfl
    rw [h2] at h1
    obtain ⟨y, hy, iy⟩ := trod_i64 (h1.trans (List.getElem?_eq_getElem (by omega)))
    exact ⟨y, by rw [List.getElem?_eq_getElem (by omega), hy], iy⟩)
  refine ⟨L, hL, ?_, fun x hx => ?_⟩
  · have : cs.toList = L.map (fun x => Value.int .i64 x) := List.ext_getElem? fun i => by
      by_cases hi : i < q
      · rw [List.getElem?_map, List.getElem?_eq_getElem (by omega : i < L.length)]
        exact (hget i _ (List.getElem?_eq_getElem (by omega))).1
      · rw [List.getElem?_eq_none (by omega), List.getElem?_eq_none (by simp; omega)]
    rw [← this]
  · obtain ⟨i, hi⟩ := List.getElem?_of_mem hx
    exact (hget i x hi).2
set_option maxRecDepth 100000 in
theorem a2int_open (hv : Value.okWide Tryz.prog w r b0 48 v) (h : DataW.Trod enc Tryz.prog w base spare held 48 v d p) : ∃ x0 x1 : Int, v = .agg #[.int .i64 x0, .int .i64 x1] ∧ In x0 ∧ In x1 := by
  obtain ⟨xs, hl, rfl, hb⟩ := aint_open Tryz.underlying48 (by kernel_rfl) hv h
  match xs, hl with
  | [x0, x1], _ => exact ⟨x0, x1, rfl, hb x0 (by simp), hb x1 (by simp)⟩
set_option maxRecDepth 100000 in
theorem a3int_open (hv : Value.okWide Tryz.prog w r b0 63 v) (h : DataW.Trod enc Tryz.prog w base spare held 63 v d p) : ∃ x0 x1 x2 : Int, v = .agg #[.int .i64 x0, .int .i64 x1, .int .i64 x2] ∧ In x0 ∧ In x1 ∧ In x2 := by
  obtain ⟨xs, hl, rfl, hb⟩ := aint_open Tryz.underlying63 (by kernel_rfl) hv h
  match xs, hl with
  | [x0, x1, x2], _ => exact ⟨x0, x1, x2, rfl, hb x0 (by simp), hb x1 (by simp), hb x2 (by simp)⟩
set_option maxRecDepth 100000 in
theorem a4int_open (hv : Value.okWide Tryz.prog w r b0 43 v) (h : DataW.Trod enc Tryz.prog w base spare held 43 v d p) : ∃ x0 x1 x2 x3 : Int, v = .agg #[.int .i64 x0, .int .i64 x1, .int .i64 x2, .int .i64 x3] ∧ In x0 ∧ In x1 ∧ In x2 ∧ In x3 := by
  obtain ⟨xs, hl, rfl, hb⟩ := aint_open Tryz.underlying43 (by kernel_rfl) hv h
  match xs, hl with
  | [x0, x1, x2, x3], _ => exact ⟨x0, x1, x2, x3, rfl, hb x0 (by simp), hb x1 (by simp), hb x2 (by simp), hb x3 (by simp)⟩
end
end Go.Proofs.YtclpebgjmgfigaaGreatDoor
