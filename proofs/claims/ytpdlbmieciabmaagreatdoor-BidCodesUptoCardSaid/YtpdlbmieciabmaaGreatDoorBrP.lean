/- What is proved here: how a text is split into rows of words, and a row of words read as numbers, step by step, in plain Lean; no program in sight. No conditions. -/
import Derived.Test.YtpdlbmieciabmaaGreatDoorQ1
import Derived.Lib.SplitLaws
namespace Go.Proofs.YtpdlbmieciabmaaGreatDoor
theorem textG_nil {p : List Ln} (h : textG p = []) : p = [] := by
  cases p with
  | nil => rfl
  | cons x q =>
    rw [textG_cons] at h
    exact absurd (congrArg List.length h) (by have := List.length_pos_iff.2 (lineOf_ne x); simp only [List.length_nil, List.length_append]; omega)
/-- What the splitting of a text keeps. -/
def SplI (s : List UInt8) (rows : List (List ByteArray)) (r : List UInt8) : Prop := (∀ x ∈ rows, x ≠ []) ∧ rowsW rows + r.length ≤ s.length ∧ ∀ p, IsTx s p → rows.map rowD = (p.take rows.length).map rowOf ∧ r = textG (p.drop rows.length)
theorem SplI.new (s : List UInt8) : SplI s [] s := ⟨fun x h => (by cases h), (by simp [rowsW]), fun p h => ⟨rfl, h.2⟩⟩
theorem SplI.done {s : List UInt8} {rows : List (List ByteArray)} (h : SplI s rows []) : SplitR s rows true := by
  refine ⟨h.1, fun p hp => ?_, by have := h.2.1; simpa using this⟩
  obtain ⟨h1, h2⟩ := h.2.2 p hp
  have h3 := textG_nil h2.symm
  have h4 := congrArg List.length h3
  rw [List.length_drop, List.length_nil] at h4
  exact ⟨rfl, by rw [h1, List.take_of_length_le (by omega)]⟩
theorem cut_len {r a b : List UInt8} (h : Lib.cut r [10] = (a, b, true)) : a.length + 1 + b.length = r.length ∧ r = a ++ 10 :: b := by
  unfold Lib.cut at h
  rcases Lib.index_spec r [10] with ⟨h1, _⟩ | ⟨i, h1, _, h3, _⟩
  · rw [h1, if_neg (by omega)] at h
    cases h
  · rw [h1, if_pos (by omega)] at h
    simp only [Prod.mk.injEq, and_true, Int.toNat_natCast, List.length_singleton] at h
    obtain ⟨rfl, rfl⟩ := h
    have h4 := Lib.occAt_head rfl h3
    obtain ⟨h5, h6⟩ := List.getElem?_eq_some_iff.1 h4
    refine ⟨by rw [List.length_take, List.length_drop]; omega, ?_⟩
    rw [← h6, ← List.drop_eq_getElem_cons h5, List.take_append_drop]
/-- The line that comes next. -/
theorem line_split {x : Ln} {q : List Ln} (hx : LineOk x) : Lib.cut (lineOf x ++ textG q) [10] = (x.1 ++ wordsN x.2, textG q, true) := by
  have e : lineOf x ++ textG q = (x.1 ++ wordsN x.2) ++ 10 :: textG q := by unfold lineOf lineL; simp
  rw [e]
  refine cut_line fun c hc => ?_
  rcases List.mem_append.1 hc with hc | hc
  · exact mid_end hx.1 c hc
  · exact words_end hx.2 c hc
theorem SplI.fail {s r a b : List UInt8} {rows : List (List ByteArray)} (h : SplI s rows r) (hr : r ≠ []) (hc : Lib.cut r [10] = (a, b, false)) : SplitR s [] false := by
  refine ⟨fun x hx => (by cases hx), fun p hp => ?_, by simp [rowsW]⟩
  obtain ⟨_, h2⟩ := h.2.2 p hp
  cases e : p.drop rows.length with
  | nil => rw [e] at h2; exact absurd h2 hr
  | cons x q =>
    rw [e, textG_cons] at h2
    rw [h2, line_split (hp.1 x (List.mem_of_mem_drop (by rw [e]; simp)))] at hc
    cases hc
/-- The row of a line. -/
def rowB (t : ByteArray) : List ByteArray := Lib.splitB blankB 0 (Lib.countB t blankB) t
theorem rowB_len (t : ByteArray) : (rowB t).length = Lib.countB t blankB + 1 := Lib.splitB_all blankB (by decide) 0 _ t rfl
theorem SplI.step {s r a b : List UInt8} {rows : List (List ByteArray)} (h : SplI s rows r) (hr : r ≠ []) (hc : Lib.cut r [10] = (a, b, true)) {t : ByteArray} (ht : t.data.toList = a) : SplI s (rows ++ [rowB t]) b := by
  obtain ⟨l1, l2⟩ := cut_len hc
  refine ⟨fun x hx => ?_, ?_, fun p hp => ?_⟩
  · rcases List.mem_append.1 hx with hx | hx
    · exact h.1 x hx
    · obtain rfl := List.mem_singleton.1 hx
      intro e
      have := rowB_len t
      rw [e] at this
      cases this
  · have h2 := h.2.1
    rw [rowsW_snoc, show rowW (rowB t) = t.size + 1 from split_room _ t, size_list, ht]
    omega
  · obtain ⟨h1, h2⟩ := h.2.2 p hp
    cases e : p.drop rows.length with
    | nil => rw [e] at h2; exact absurd h2 hr
    | cons x q =>
      have hx := hp.1 x (List.mem_of_mem_drop (by rw [e]; simp))
      rw [e, textG_cons] at h2
      rw [h2, line_split hx] at hc
      simp only [Prod.mk.injEq, and_true] at hc
      obtain ⟨rfl, rfl⟩ := hc
      have hlt : rows.length < p.length := by
        have := congrArg List.length e
        rw [List.length_drop, List.length_cons] at this
        omega
      have hd := List.drop_eq_getElem_cons hlt
      rw [e] at hd
      simp only [List.cons.injEq] at hd
      obtain ⟨k1, k2⟩ := split_words x.2 x.1 t (mid_blank hx.1) hx.2 ht
      refine ⟨?_, ?_⟩
      · rw [List.length_append, List.length_singleton, List.take_add_one, List.getElem?_eq_getElem hlt, Option.toList_some, ← hd.1, List.map_append, List.map_append, h1]
        congr 1
        simp only [List.map_cons, List.map_nil]
        congr 1
        unfold rowB rowOf
        rw [k1, k2]
      · rw [List.length_append, List.length_singleton, ← hd.2]
/-! ### Numbers -/
def NumI (ws : List (List UInt8)) (k : Nat) (ns : List Int) : Prop := ns.length = k ∧ (∀ n ∈ ns, In n) ∧ ∀ ms : List Int, (∀ m ∈ ms, In m) → ws = ms.map Lib.itoa → ns = ms.take k
theorem NumI.new (ws : List (List UInt8)) : NumI ws 0 [] := ⟨rfl, fun n h => (by cases h), fun ms _ _ => by simp⟩
theorem NumI.step {ws : List (List UInt8)} {k : Nat} {ns : List Int} (h : NumI ws k ns) {w : List UInt8} (hw : ws[k]? = some w) {n : Int} (hn : In n) (hu : ∀ m, In m → w = Lib.itoa m → n = m) : NumI ws (k + 1) (ns ++ [n]) := by
  obtain ⟨h1, h2, h3⟩ := h
  refine ⟨by simp [h1], fun m hm => ?_, fun ms hms e => ?_⟩
  · rcases List.mem_append.1 hm with hm | hm
    · exact h2 m hm
    · obtain rfl := List.mem_singleton.1 hm
      exact hn
  · rw [e, List.getElem?_map] at hw
    cases hk : ms[k]? with
    | none => rw [hk] at hw; cases hw
    | some m =>
      rw [hk] at hw
      simp only [Option.map_some, Option.some.injEq] at hw
      rw [List.take_add_one, hk, Option.toList_some, ← h3 ms hms e, hu m (hms m (List.mem_of_getElem? hk)) hw.symm]
theorem NumI.done {ws : List (List UInt8)} {ns : List Int} (h : NumI ws ws.length ns) : NumsR ws ns true := by
  obtain ⟨h1, h2, h3⟩ := h
  refine ⟨h2, fun ms hms e => ⟨rfl, ?_⟩, by omega⟩
  have h4 := h3 ms hms e
  rw [e, List.length_map, List.take_of_length_le (Nat.le_refl _)] at h4
  exact h4
theorem NumI.fail {ws : List (List UInt8)} {k : Nat} {w : List UInt8} (hw : ws[k]? = some w) (hu : ∀ m, In m → w ≠ Lib.itoa m) : NumsR ws [] false := by
  refine ⟨fun n h => (by cases h), fun ms hms e => ?_, Nat.zero_le _⟩
  rw [e, List.getElem?_map] at hw
  cases hk : ms[k]? with
  | none => rw [hk] at hw; cases hw
  | some m =>
    rw [hk] at hw
    simp only [Option.map_some, Option.some.injEq] at hw
    exact absurd hw.symm (hu m (hms m (List.mem_of_getElem? hk)))
theorem atoi_in {l : List UInt8} {v : Int} (h : Lib.atoiAll l = .ok v) : In v := by
  rw [← Lib.parseIntB_64] at h
  have := Lib.parseIntB_bounds h
  unfold In
  have e : ((2 ^ (64 - 1) : Nat) : Int) = 9223372036854775808 := by decide
  omega
end Go.Proofs.YtpdlbmieciabmaaGreatDoor
