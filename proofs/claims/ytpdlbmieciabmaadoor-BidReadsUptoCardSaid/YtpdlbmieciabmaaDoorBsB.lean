/- What is proved here: texts of made contents are short, and told by what they hold, in plain Lean; no program in sight. Conditions: the numbers are ints. -/
import Derived.Test.YtpdlbmieciabmaaDoorQ1
import Derived.Test.YtpdlbmieciabmaaDoorBrQ
import Derived.Test.YtpdlbmieciabmaaDoorBrN
namespace Go.Proofs.YtpdlbmieciabmaaDoor
theorem wordsB_len : ∀ (ns : List Int), (∀ n ∈ ns, In n) → (wordsN ns).length ≤ 22 * ns.length
  | [], _ => by simp [wordsN]
  | n :: ns, h => by
    have ih := wordsB_len ns (fun m hm => h m (by simp [hm]))
    have h1 := itoa_len (h n (by simp)).1 (h n (by simp)).2
    have e : wordsN (n :: ns) = 32 :: Lib.itoa n ++ wordsN ns := by unfold wordsN; simp
    rw [e, List.length_append, List.length_cons, List.length_cons]
    omega
theorem lineOf_len (x : Ln) (h : ∀ n ∈ x.2, In n) : (lineOf x).length ≤ x.1.length + 22 * x.2.length + 1 := by
  have h1 := wordsB_len x.2 h
  unfold lineOf lineL
  rw [List.length_append, List.length_append, List.length_singleton]
  omega
theorem textG_len {K : Nat} : ∀ (p : List Ln), (∀ x ∈ p, (lineOf x).length ≤ K) → (textG p).length ≤ p.length * K
  | [], _ => by simp [textG]
  | x :: p, h => by
    have ih := textG_len p (fun y hy => h y (by simp [hy]))
    have h1 := h x (by simp)
    rw [textG_cons, List.length_append, List.length_cons, Nat.add_mul]
    omega
theorem qLines_len : ∀ (es : List En), (∀ e ∈ es, e.values.length ≤ 5) → (qLines es).length ≤ es.length * 6
  | [], _ => by simp [qLines]
  | e :: es, h => by
    have ih := qLines_len es (fun y hy => h y (by simp [hy]))
    have h1 := h e (by simp)
    have e : qLines (e :: es) = eLines e ++ qLines es := by unfold qLines; simp
    rw [e, List.length_append, List.length_cons]
    unfold eLines
    rw [List.length_cons, List.length_map]
    omega
theorem mkEs_mem {wild : Bool} {o : Of} {e : En} (h : e ∈ mkEs wild o) : e.values.length ≤ 5 ∧ ∀ v ∈ e.values, v.name.size ≤ 9 := by
  obtain ⟨l, _, rfl⟩ := List.mem_map.1 h
  refine ⟨mkE_vals wild l, fun v hv => ?_⟩
  obtain ⟨p, _, rfl⟩ := List.mem_map.1 hv
  exact mkV_name wild p
theorem mkEs_text {o : Of} (h : o.Ok) (wild : Bool) : (textG (qLines (mkEs wild o))).length ≤ 4000 := by
  have h1 : (textG (qLines (mkEs wild o))).length ≤ (qLines (mkEs wild o)).length * 40 := textG_len _ (fun x hx => by
    obtain ⟨e, he, hx⟩ := List.mem_flatMap.1 hx
    have hin := mkEs_in h wild e he
    unfold eLines at hx
    rcases List.mem_cons.1 hx with rfl | hx
    · have := lineOf_len (wLot, [e.lot]) (fun n hn => by rw [List.mem_singleton.1 hn]; exact hin.1)
      have e1 : ((wLot, [e.lot]) : Ln).1.length = 3 := rfl
      have e2 : ((wLot, [e.lot]) : Ln).2.length = 1 := rfl
      rw [e1, e2] at this
      omega
    · obtain ⟨v, hv, rfl⟩ := List.mem_map.1 hx
      have h9 := (mkEs_mem he).2 v hv
      have := lineOf_len (vLine v) (fun n hn => by rw [List.mem_singleton.1 hn]; exact hin.2.2 v hv)
      have e1 : (vLine v).1.length = v.name.size := by simp [vLine]
      have e2 : (vLine v).2.length = 1 := rfl
      rw [e1, e2] at this
      omega)
  have h2 := qLines_len (mkEs wild o) (fun e he => (mkEs_mem he).1)
  have h3 := mkEs_len wild o
  omega
theorem mkPr_text {o : Of} (h : o.Ok) (wild : Bool) : (pricL (mkEs wild o) (mkRs o)).length ≤ 2000 := by
  have h1 : (textG (pLines (mkEs wild o) (mkRs o))).length ≤ (pLines (mkEs wild o) (mkRs o)).length * 150 := textG_len _ (fun x hx => by
    unfold pLines at hx
    rcases List.mem_append.1 hx with hx | hx
    · obtain ⟨e, he, rfl⟩ := List.mem_map.1 hx
      have hin := mkEs_in h wild e he
      have := lineOf_len (pLine e) (fun n hn => by
        rcases List.mem_cons.1 hn with rfl | hn
        · exact hin.1
        · rw [List.mem_singleton.1 hn]; exact hin.2.1)
      have e1 : (pLine e).1.length = 3 := rfl
      have e2 : (pLine e).2.length = 2 := rfl
      rw [e1, e2] at this
      omega
    · obtain ⟨r, hr, rfl⟩ := List.mem_map.1 hx
      have hin := mkRs_in h r hr
      obtain ⟨l, _, rfl⟩ := List.mem_map.1 hr
      have h5 := mkR_lots l
      have := lineOf_len (rLine (mkR l)) (fun n hn => by
        rcases List.mem_cons.1 hn with rfl | hn
        · exact hin.1
        · exact hin.2 n hn)
      have e1 : (rLine (mkR l)).2.length = (mkR l).lots.length + 1 := rfl
      have e2 : (rLine (mkR l)).1.length = 6 := rfl
      rw [e1, e2] at this
      omega)
  have h2 : (pLines (mkEs wild o) (mkRs o)).length ≤ 10 := by
    unfold pLines
    have := mkEs_len wild o
    have := mkRs_len o
    rw [List.length_append, List.length_map, List.length_map]
    omega
  unfold pricL
  omega
theorem qualL_len {o : Of} (h : o.Ok) (wild : Bool) : (qualL (mkEs wild o)).length ≤ 4000 := by
  have := mkEs_text h wild
  unfold qualL
  split
  · exact this
  · simp
theorem q_two {s : List UInt8} {es fs : List En} {c d : Int} (h : (c = 0 ∧ QRd s es) ∨ (c = 11 ∧ es = [] ∧ ∀ gs, ¬ QRd s gs)) (k : (d = 0 ∧ QRd s fs) ∨ (d = 11 ∧ fs = [] ∧ ∀ gs, ¬ QRd s gs)) : c = d ∧ es = fs := by
  rcases h with ⟨rfl, h⟩ | ⟨rfl, rfl, h⟩ <;> rcases k with ⟨rfl, k⟩ | ⟨rfl, rfl, k⟩
  · exact ⟨rfl, h.inj k⟩
  · exact (k _ h).elim
  · exact (h _ k).elim
  · exact ⟨rfl, rfl⟩
theorem p_two {s : List UInt8} {es fs : List En} {rs us : List Rb} {c d : Int} (h : (c = 0 ∧ PRd s es rs) ∨ (c = 11 ∧ es = [] ∧ rs = [] ∧ ∀ fs us, ¬ PRd s fs us)) (k : (d = 0 ∧ PRd s fs us) ∨ (d = 11 ∧ fs = [] ∧ us = [] ∧ ∀ fs us, ¬ PRd s fs us)) : c = d ∧ es = fs ∧ rs = us := by
  rcases h with ⟨rfl, h⟩ | ⟨rfl, rfl, rfl, h⟩ <;> rcases k with ⟨rfl, k⟩ | ⟨rfl, rfl, rfl, k⟩
  · have := h.inj k
    exact ⟨rfl, this.1, this.2⟩
  · exact (k _ _ h).elim
  · exact (h _ _ k).elim
  · exact ⟨rfl, rfl, rfl⟩
/-- A lot without its price; a lot without its values. -/
def noPr (e : En) : En := ⟨e.lot, 0, e.values⟩
def noVl (e : En) : En := ⟨e.lot, e.price, []⟩
theorem q_back {es : List En} (hin : ∀ e ∈ es, EnIn e) (hr : rightL es = true) : QRd (qualL es) (es.map noPr) := by
  refine ⟨by rw [← hr]; unfold rightL; rw [List.all_map]; rfl, fun e he => ?_, ?_⟩
  · obtain ⟨f, hf, rfl⟩ := List.mem_map.1 he
    have := hin f hf
    exact ⟨⟨this.1, by show In 0; unfold In; omega, this.2.2⟩, rfl⟩
  · unfold qualL
    rw [if_pos hr]
    congr 1
    unfold qLines
    rw [List.flatMap_map]
    rfl
theorem p_back {es : List En} {rs : List Rb} (hin : ∀ e ∈ es, EnIn e) (hrn : ∀ r ∈ rs, RbIn r) : PRd (pricL es rs) (es.map noVl) rs := by
  refine ⟨fun e he => ?_, hrn, ?_⟩
  · obtain ⟨f, hf, rfl⟩ := List.mem_map.1 he
    have := hin f hf
    exact ⟨⟨this.1, this.2.1, fun v hv => by cases hv⟩, rfl⟩
  · unfold pricL pLines
    rw [List.map_map]
    rfl
end Go.Proofs.YtpdlbmieciabmaaDoor
