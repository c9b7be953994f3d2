/- What is proved here: slices of events that the call made: one event put in another's place, a slice copied, appended to. Conditions: hashes have 32 bytes. -/
import Derived.Test.YtclpebgjmgfigaaGreatDoorLnk
import Derived.Test.YtclpebgjmgfigaaGreatDoorEqE
import Derived.Deep.AppendSrc
import Derived.Deep.Upon
namespace Go.Proofs.YtclpebgjmgfigaaGreatDoor
open Go.RowKit Go.Shelf
/-- An event's cells, 46 of them in any case. -/
def evF (e : Ev) : List Value := if e.prev.length = 32 then evC e else List.replicate 46 undef
theorem evF_len (e : Ev) : (evF e).length = 46 := by
  unfold evF
  split
  · exact evC_len (by assumption)
  · simp
theorem evF_of {e : Ev} (h : e.prev.length = 32) : evF e = evC e := by unfold evF; rw [if_pos h]
theorem flat_evF {M : List Ev} (hM : ∀ e ∈ M, e.prev.length = 32) : M.flatMap evF = M.flatMap evC := by
  induction M with
  | nil => rfl
  | cons e l ih =>
    rw [List.flatMap_cons, List.flatMap_cons, evF_of (hM e (by simp)), ih (fun x hx => hM x (by simp [hx]))]
theorem stores_cells (vs : List Value) : ∀ (w : World) (g o : Nat), stores w g o vs = w.setCells g o vs := by
  induction vs with
  | nil => intro w g o; rfl
  | cons v l ih => intro w g o; simp only [stores, World.setCells]; exact ih _ _ _
theorem EvOwn.put {w : World} {base g cap i : Nat} {M : List Ev} {e : Ev} (h : EvOwn w base (.slice (some ⟨g, 0, none⟩) M.length cap) M) (hM : ∀ e ∈ M, e.prev.length = 32) (hi : i < M.length) (he : e.prev.length = 32) :
    EvOwn (w.setCells g (i * 46) (evC e)) base (.slice (some ⟨g, 0, none⟩) M.length cap) (M.set i e) := by
  unfold EvOwn at h ⊢
  have hM2 : ∀ x ∈ M.set i e, x.prev.length = 32 := fun x hx => by
    rcases List.mem_or_eq_of_mem_set hx with h | rfl
    · exact hM x h
    · exact he
  rw [← flat_evF hM] at h
  rw [← flat_evF hM2, ← evF_of he, ← stores_cells, List.length_set]
  exact own_put evF_len e h hi
theorem EvOwn.range {w : World} {base g cap n i : Nat} {M : List Ev} {e : Ev} (h : EvOwn w base (.slice (some ⟨g, 0, none⟩) n cap) M) (hM : ∀ e ∈ M, e.prev.length = 32) (he : M[i]? = some e) : w.rangeAt g (i * 46) (evC e) := fun j x hj => by
  have hj2 : j < 46 := by
    have := (List.getElem?_eq_some_iff.1 hj).1
    rw [evC_len (hM e (List.mem_of_getElem? he))] at this; exact this
  have h1 := flat_getM M (fun p hp => evC_len (hM p hp)) i j hj2 e he
  have h2 := World.ownsRow.cells h rfl (i * 46 + j) x (h1.trans hj)
  rw [Addr.add_mid, Nat.zero_add] at h2
  exact h2
theorem flat_lenM {M : List Ev} (hM : ∀ e ∈ M, e.prev.length = 32) : (M.flatMap evC).length = M.length * 46 := by rw [← flat_evF hM, flat_len evF_len]
theorem EvOwn.form {w : World} {base : Nat} {v : Value} {M : List Ev} (h : EvOwn w base v M) (hn : 0 < M.length) : ∃ g cap, v = .slice (some ⟨g, 0, none⟩) M.length cap ∧ base ≤ g ∧ g < w.heap.size ∧ M.length ≤ cap ∧ cap ≤ 9223372036854775807 := by
  obtain ⟨g, cap, h1, h2, h3, h4, h5⟩ := own_form h hn
  rw [maxLen_val] at h5
  exact ⟨g, cap, h1, h2, h3, h4, h5⟩
theorem own_there {w : World} {base g cap n : Nat} {e : TypeId} {size : Nat} {xs : List Value} (h : w.ownsRow base e size (.slice (some ⟨g, 0, none⟩) n cap) n xs) {o m : Nat} (hm : o + m ≤ n * size) : w.there g o m := by
  rcases h.2 with ⟨h0, _⟩ | ⟨g', cap', cur, hv, hb, hh, hc, hx, hs, ht⟩
  · simp at h0
  · simp only [Value.slice.injEq, Option.some.injEq, Addr.mk.injEq, and_true, true_and] at hv
    obtain ⟨rfl, rfl⟩ := hv
    exact Blk.there (t := e) (cs := cur) hh o m (by rw [hs]; exact Nat.le_trans hm (Nat.mul_le_mul_right _ hc))
theorem ev_store_own {w : World} {base g cap i : Nat} {M : List Ev} {e : Ev} (h : EvOwn w base (.slice (some ⟨g, 0, none⟩) M.length cap) M) (hi : i < M.length) (he : e.prev.length = 32) :
    (evStore (.pointer (some ⟨g, i * 46, none⟩)) (.agg (evC e).toArray)).run Tryz.prog w = .ok () (w.setCells g (i * 46) (evC e)) := by
  have h46 : (evC e).toArray.size = 46 := by rw [List.size_toArray, evC_len he]
  have h1 : i * 46 + 46 ≤ M.length * 46 := by
    have : (i + 1) * 46 ≤ M.length * 46 := Nat.mul_le_mul_right _ hi
    omega
  exact run_storeAt_mid (P := Tryz.prog) w g (i * 46) 29 (evC e).toArray (own_there h (by rw [h46]; exact h1)) (by rw [h46]; kernel_rfl) (all_oneCell_toArray (evC_one e))
theorem EvOwn.keep {w w' : World} {base : Nat} {v : Value} {M : List Ev} (h : EvOwn w base v M) (ho : Only NoneOf w w') : EvOwn w' base v M := own_only h ho (fun _ _ e => e)
theorem linkGo_mem : ∀ (l : List Ev) (k : Nat) (last : List UInt8) (t : Int), ∀ e ∈ linkGo k last t l, ∃ e0 ∈ l, e.name = e0.name ∧ e.text = e0.text
  | [], _, _, _, e, h => by simp [linkGo] at h
  | a :: l, k, last, t, e, h => by
    simp only [linkGo, List.mem_cons] at h
    rcases h with rfl | h
    · exact ⟨a, by simp, rfl, rfl⟩
    · obtain ⟨e0, h0, h1⟩ := linkGo_mem l _ _ _ e h
      exact ⟨e0, by simp [h0], h1⟩
/-- A chain's names and texts are those of the events that it was made of. -/
theorem linkL_mem {L : List Ev} {e : Ev} (h : e ∈ linkL L) : ∃ e0 ∈ L, e.name = e0.name ∧ e.text = e0.text := by
  obtain ⟨e0, h0, h1⟩ := linkGo_mem _ _ _ _ e h
  exact ⟨e0, List.mem_of_mem_take h0, h1⟩
theorem evs_len {L : List Ev} (h : EvsOk L) : ∀ e ∈ L, e.prev.length = 32 := fun e he => (h e he).1.prev
/-- A slice of events that has no room, or to which nothing is appended. -/
theorem run_append_evs (W : World) (A : Option Addr) (n cap : Nat) (X : List Ev) (hX : EvSl W (.slice A n cap) X) (yv : Value) (Y : List Ev) (hY : EvSl W yv Y) (hg : cap < n + Y.length ∨ Y = []) (hXl : ∀ e ∈ X, e.prev.length = 32) (hYl : ∀ e ∈ Y, e.prev.length = 32) (hsm : n + Y.length ≤ 1000000) (ty : TypeId) :
    ∃ v' W', (Builtin.append_ #[42, 42] ty #[.slice A n cap, yv]).run Tryz.prog W = .ok v' W' ∧ EvSl W' v' (X ++ Y) ∧ Only NoneOf W W' := by
  obtain ⟨ie, z, hie, hsz, hz, hzc, hby⟩ := ev_info3
  have hX0 := hX
  obtain ⟨A', cap', hv, h1, h2, h3⟩ := hX
  simp only [Value.slice.injEq] at hv
  obtain ⟨rfl, rfl, rfl⟩ := hv
  obtain ⟨B, capy, rfl, g1, g2, g3⟩ := hY
  have hfl : ∀ (M : List Ev), (∀ e ∈ M, e.prev.length = 32) → ∀ u ∈ M.flatMap evC, u.oneCell' = true := fun M _ u hu => by
    obtain ⟨e, _, he⟩ := List.mem_flatMap.1 hu
    exact evC_one e u he
  have cells : ∀ (M : List Ev) (b : Addr), (∀ e ∈ M, e.prev.length = 32) → b.spot = none → (∀ (i : Nat) (e : Ev), M[i]? = some e → ∃ g o, some b = some ⟨g, o, none⟩ ∧ g < W.heap.size ∧ W.rangeAt g (o + i * 46) (evC e)) → ∀ j u, (M.flatMap evC)[j]? = some u → W.cell? (b.add j) = some u := by
    intro M b hM hb hc j u hj
    have hlt : j < M.length * 46 := by
      have := (List.getElem?_eq_some_iff.1 hj).1
      rw [flat_lenM hM] at this; exact this
    have hi : j / 46 < M.length := Nat.div_lt_of_lt_mul (by omega)
    obtain ⟨e, he⟩ : ∃ e, M[j / 46]? = some e := ⟨_, List.getElem?_eq_getElem hi⟩
    obtain ⟨g, o, hb2, _, hr⟩ := hc (j / 46) e he
    have h4 := flat_getM M (fun p hp => evC_len (hM p hp)) (j / 46) (j % 46) (Nat.mod_lt _ (by omega)) e he
    rw [show j / 46 * 46 + j % 46 = j by omega, hj] at h4
    have h5 := hr (j % 46) u h4.symm
    simp only [Option.some.injEq] at hb2
    rw [hb2, Addr.add_mid]
    rw [show o + j / 46 * 46 + j % 46 = o + j by omega] at h5
    exact h5
  by_cases hY0 : Y = []
  · subst hY0
    refine ⟨_, _, run_append_nothing W _ _ ty tEv ie Tryz.underlying42 hie A X.length cap h1 _ ?_, by rw [List.append_nil]; exact hX0, Only.refl _ _⟩
    cases B with
    | none =>
      have hu := Tryz.underlying42
      exact ⟨.inl ⟨_, hu⟩, fun _ => rfl, run_firstCells_none W _ 0 0 capy, run_firstCells_none W.drew _ 0 0 capy, by simp, fun _ h => by cases h⟩
    | some b => exact Src.ofSlice W Tryz.underlying42 b 0 capy [] (by simp) (fun j u h => by simp at h) (fun _ h => by cases h)
  · have hgrow : cap < X.length + Y.length := by
      rcases hg with h | h
      · exact h
      · exact absurd h hY0
    obtain ⟨e0, he0⟩ : ∃ e, Y[0]? = some e := ⟨_, List.getElem?_eq_getElem (List.length_pos_iff.2 hY0)⟩
    obtain ⟨gy, oy, rfl, _, _⟩ := g3 0 e0 he0
    have hsrc : Src Tryz.prog ie.size 42 (.slice (some ⟨gy, oy, none⟩) Y.length capy) Y.length (Y.flatMap evC) W :=
      Src.ofSlice W Tryz.underlying42 ⟨gy, oy, none⟩ Y.length capy _ (by rw [hsz, flat_lenM hYl]) (cells Y ⟨gy, oy, none⟩ hYl rfl g3) (hfl Y hYl)
    have hold : (Builtin.firstCells ie.size X.length (.slice A X.length cap)).run Tryz.prog W.drew = .ok (X.flatMap evC).toArray W.drew := by
      rw [hsz]
      cases hX1 : X with
      | nil =>
        cases A with
        | none => exact run_firstCells_none W.drew _ _ _ _
        | some b => exact run_firstCells_some W.drew 46 0 b _ _ [] (by simp) (fun j u h => by simp at h)
      | cons x l =>
        obtain ⟨gx, ox, rfl, _, _⟩ := h3 0 x (by rw [hX1]; rfl)
        rw [← hX1]
        exact run_firstCells_some W.drew 46 X.length ⟨gx, ox, none⟩ _ _ _ (flat_lenM hXl) (fun j u hj => by
          have := cells X ⟨gx, ox, none⟩ hXl rfl h3 j u hj
          simpa using this)
    have hnc := nextslicecap_le hgrow
    have hr := run_append_grow_src (P := Tryz.prog) W 42 42 ty tEv ie z Tryz.underlying42 hie hz A X.length cap (X.flatMap evC) hold _ Y.length (Y.flatMap evC) hsrc hgrow (by omega)
      (Nat.le_trans (Nat.mul_le_mul hnc hby) (by omega))
    refine ⟨_, _, hr, ?_, ?_⟩
    · have hge := grownCap_ge W (X.length + Y.length) cap tEv
      have hle := grownCap_le_maxLen W (X.length + Y.length) cap tEv (by unfold maxLen; omega)
      rw [maxLen_val] at hle
      refine ⟨some ⟨W.heap.size, 0, none⟩, grownCap W (X.length + Y.length) cap tEv, by rw [List.length_append], by rw [List.length_append]; exact hge, hle, fun i e he => ⟨W.heap.size, 0, rfl, by simp, fun j u hj => ?_⟩⟩
      have hXYl : ∀ e ∈ X ++ Y, e.prev.length = 32 := fun e he => by
        rcases List.mem_append.1 he with h | h
        · exact hXl e h
        · exact hYl e h
      have hj2 : j < 46 := by
        have := (List.getElem?_eq_some_iff.1 hj).1
        rw [evC_len (hXYl e (List.mem_of_getElem? he))] at this; exact this
      have h4 := flat_getM (X ++ Y) (fun p hp => evC_len (hXYl p hp)) i j hj2 e he
      rw [hj, List.flatMap_append] at h4
      have hb := Blk.new W.drew tEv ((X.flatMap evC ++ Y.flatMap evC).toArray ++ Builtin.zeroCells z.cells (grownCap W (X.length + Y.length) cap tEv - (X.length + Y.length)))
      rw [Nat.zero_add]
      have h5 := hb.cell (i * 46 + j)
      have h6 := (List.getElem?_eq_some_iff.1 h4).1
      rw [Array.getElem?_append_left (by simpa using h6), List.getElem?_toArray, h4] at h5
      exact h5
    · exact ((Only.refl NoneOf W).drew).alloc _
section
variable {o : Oper} {a : Act} {W : World}
theorem wp_append_evs {K : Act → World → Prop} {Q : Exit → Act → World → Prop} (s x : Operand) (ho : o.op = .call { callee := .builtin .append, args := #[s, x], argTypes := #[42, 42] })
    (A : Option Addr) (n cap : Nat) (hs : a.eval s = .slice A n cap) (X : List Ev) (hX : EvSl W (.slice A n cap) X) (yv : Value) (hx : a.eval x = yv) (Y : List Ev) (hY : EvSl W yv Y) (hg : cap < n + Y.length ∨ Y = []) (hXl : ∀ e ∈ X, e.prev.length = 32) (hYl : ∀ e ∈ Y, e.prev.length = 32) (hsm : n + Y.length ≤ 1000000)
    (h : ∀ v' W', EvSl W' v' (X ++ Y) → Only NoneOf W W' → K (a.put o.dst v') W') : o.wp Tryz.prog a W K Q := by
  obtain ⟨v', W', hr, h2, h3⟩ := run_append_evs W A n cap X hX yv Y hY hg hXl hYl hsm o.type
  unfold Oper.wp execOp
  simp only [ho, resolve, invoke, builtin, Sem.run_bind, Sem.run_pure, Result.andThen_ok, List.map_toArray, List.map_cons, List.map_nil, hs, hx, hr]
  exact h v' W' h2 h3
theorem wpList_append_evs {ops : Array Oper} {rest : List Oper} {Q : Exit → Act → World → Prop} (hgd : o.guard = none) (s x : Operand) (ho : o.op = .call { callee := .builtin .append, args := #[s, x], argTypes := #[42, 42] })
    (A : Option Addr) (n cap : Nat) (hs : a.eval s = .slice A n cap) (X : List Ev) (hX : EvSl W (.slice A n cap) X) (yv : Value) (hx : a.eval x = yv) (Y : List Ev) (hY : EvSl W yv Y) (hg : cap < n + Y.length ∨ Y = []) (hXl : ∀ e ∈ X, e.prev.length = 32) (hYl : ∀ e ∈ Y, e.prev.length = 32) (hsm : n + Y.length ≤ 1000000)
    (h : ∀ v' W', EvSl W' v' (X ++ Y) → Only NoneOf W W' → wpList Tryz.prog ops Q rest (a.put o.dst v') W') : wpList Tryz.prog ops Q (o :: rest) a W :=
  wpList_plain hgd fun _ hK => wp_append_evs s x ho A n cap hs X hX yv hx Y hY hg hXl hYl hsm fun v' W' h1 h2 => hK _ _ (h v' W' h1 h2)
theorem step_append_evs {ops : Array Oper} {K : Act → World → Prop} {Q : Exit → Act → World → Prop} {E : Prop} (hgd : o.guard = none) (s x : Operand) (ho : o.op = .call { callee := .builtin .append, args := #[s, x], argTypes := #[42, 42] })
    (A : Option Addr) (n cap : Nat) (hs : a.eval s = .slice A n cap) (X : List Ev) (hX : EvSl W (.slice A n cap) X) (yv : Value) (hx : a.eval x = yv) (Y : List Ev) (hY : EvSl W yv Y) (hg : cap < n + Y.length ∨ Y = []) (hXl : ∀ e ∈ X, e.prev.length = 32) (hYl : ∀ e ∈ Y, e.prev.length = 32) (hsm : n + Y.length ≤ 1000000)
    (h : ∀ v' W', EvSl W' v' (X ++ Y) → Only NoneOf W W' → K (a.put o.dst v') W') : if Region.wanted o (yielded ops a.tmps) = true then Oper.wp Tryz.prog o a W K Q else E := by
  have hw : Region.wanted o (yielded ops a.tmps) = true := by simp [Region.wanted, hgd]
  rw [if_pos hw]
  exact wp_append_evs s x ho A n cap hs X hX yv hx Y hY hg hXl hYl hsm h
end
end Go.Proofs.YtclpebgjmgfigaaGreatDoor
