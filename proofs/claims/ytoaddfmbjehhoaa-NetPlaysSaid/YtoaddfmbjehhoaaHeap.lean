/- What is proved here: plain lemmas on binary heaps in lists: sifting up and down keeps the elements and restores the order. No program in sight. No conditions. -/
import Derived.WalkKit
namespace Go.Proofs.Ytoaddfmbjehhoaa
/-- A waiting copy. -/
structure Pcl where
  fr : Int
  tgt : Int
  tx : ByteArray
  due : Int
  sent : Int

def lt (p q : Pcl) : Bool := if p.due != q.due then decide (p.due < q.due) else decide (p.sent < q.sent)
def Lt (p q : Pcl) : Prop := p.due < q.due ∨ p.due = q.due ∧ p.sent < q.sent
theorem lt_iff (p q : Pcl) : lt p q = true ↔ Lt p q := by
  unfold lt Lt
  by_cases h : p.due = q.due
  · simp [h]
  · simp [h]
theorem lt_false (p q : Pcl) : lt p q = false ↔ ¬ Lt p q := by
  rw [← lt_iff]; simp
theorem Lt.trans {p q r : Pcl} (h : Lt p q) (k : Lt q r) : Lt p r := by unfold Lt at *; omega
theorem Lt.irrefl (p : Pcl) : ¬ Lt p p := by unfold Lt; omega
theorem nlt_trans {p q r : Pcl} (h : ¬ Lt q p) (k : ¬ Lt r q) : ¬ Lt r p := by unfold Lt at *; omega
theorem nlt_of_lt {p q : Pcl} (h : Lt p q) : ¬ Lt q p := by unfold Lt at *; omega

def swp (L : List Pcl) (i j : Nat) : List Pcl :=
  match L[i]?, L[j]? with
  | some p, some q => (L.set i q).set j p
  | _, _ => L
theorem swp_len (L : List Pcl) (i j : Nat) : (swp L i j).length = L.length := by
  unfold swp; split <;> simp
theorem swp_at {L : List Pcl} {i j : Nat} {p q : Pcl} (hi : L[i]? = some p) (hj : L[j]? = some q) : swp L i j = (L.set i q).set j p := by
  unfold swp; rw [hi, hj]
theorem swp_perm (L : List Pcl) (i j : Nat) : (swp L i j).Perm L := by
  unfold swp
  split
  · rename_i p q hi hj
    obtain ⟨hi1, rfl⟩ := List.getElem?_eq_some_iff.1 hi
    obtain ⟨hj1, rfl⟩ := List.getElem?_eq_some_iff.1 hj
    exact List.set_set_perm hi1 hj1
  · exact List.Perm.refl _
theorem swp_get {L : List Pcl} {i j : Nat} (hi : i < L.length) (hj : j < L.length) (k : Nat) : (swp L i j)[k]? = if k = j then L[i]? else if k = i then L[j]? else L[k]? := by
  have h1 := List.getElem?_eq_getElem hi
  have h2 := List.getElem?_eq_getElem hj
  rw [swp_at h1 h2, List.getElem?_set, List.getElem?_set]
  by_cases a : k = j
  · subst a; simp [hj]
  · rw [if_neg (Ne.symm a), if_neg a]
    by_cases b : k = i
    · subst b; simp [hi]
    · rw [if_neg (Ne.symm b), if_neg b]

/-- Not less than its parent. -/
def Ok (L : List Pcl) (k m : Nat) : Prop := ∀ p q, L[k]? = some p → L[m]? = some q → ¬ Lt p q
def HeapN (L : List Pcl) (n : Nat) : Prop := ∀ k, 0 < k → k < n → Ok L k ((k - 1) / 2)
def IsHeap (L : List Pcl) : Prop := HeapN L L.length
def UpTo (L : List Pcl) (j : Nat) : Prop := (∀ k, 0 < k → k < L.length → k ≠ j → Ok L k ((k - 1) / 2)) ∧ (∀ k, 0 < k → 0 < j → (k - 1) / 2 = j → Ok L k ((j - 1) / 2))
def DownTo (L : List Pcl) (i n : Nat) : Prop := (∀ k, 0 < k → k < n → (k - 1) / 2 ≠ i → Ok L k ((k - 1) / 2)) ∧ (∀ k, 0 < k → k < n → 0 < i → (k - 1) / 2 = i → Ok L k ((i - 1) / 2))

theorem up_done {L : List Pcl} {j : Nat} (h : UpTo L j) (hj : j = 0 ∨ Ok L j ((j - 1) / 2)) : IsHeap L := by
  intro k hk hkl
  by_cases e : k = j
  · subst e
    rcases hj with hj | hj
    · omega
    · exact hj
  · exact h.1 k hk hkl e
theorem up_step {L : List Pcl} {j : Nat} {p q : Pcl} (h : UpTo L j) (h0 : 0 < j) (hp : L[j]? = some p) (hq : L[(j - 1) / 2]? = some q) (hlt : Lt p q) :
    UpTo (swp L ((j - 1) / 2) j) ((j - 1) / 2) := by
  obtain ⟨hj1, _⟩ := List.getElem?_eq_some_iff.1 hp
  have hi1 : (j - 1) / 2 < L.length := by omega
  refine ⟨fun k hk hkl hne => ?_, fun k hk hi0 hpar => ?_⟩
  · rw [swp_len] at hkl
    intro x y hx hy
    rw [swp_get hi1 hj1] at hx hy
    by_cases e : k = j
    · subst e
      rw [if_pos rfl] at hx
      rw [if_neg (by omega), if_pos rfl] at hy
      rw [hq] at hx; rw [hp] at hy
      cases hx; cases hy
      exact nlt_of_lt hlt
    · rw [if_neg e, if_neg hne] at hx
      by_cases e2 : (k - 1) / 2 = j
      · rw [if_pos e2] at hy
        exact h.2 k hk h0 e2 x y hx hy
      · rw [if_neg e2] at hy
        by_cases e3 : (k - 1) / 2 = (j - 1) / 2
        · rw [if_pos e3] at hy
          rw [hp] at hy; cases hy
          have h3 := h.1 k hk hkl e x q hx (by rw [e3]; exact hq)
          exact fun hc => h3 (hc.trans hlt)
        · rw [if_neg e3] at hy
          exact h.1 k hk hkl e x y hx hy
  · intro x y hx hy
    rw [swp_get hi1 hj1] at hx hy
    have e1 : ((j - 1) / 2 - 1) / 2 ≠ j := by omega
    have e2 : ((j - 1) / 2 - 1) / 2 ≠ (j - 1) / 2 := by omega
    rw [if_neg e1, if_neg e2] at hy
    have hpp : Ok L ((j - 1) / 2) (((j - 1) / 2 - 1) / 2) := h.1 _ hi0 hi1 (by omega)
    by_cases e : k = j
    · subst e
      rw [if_pos rfl] at hx
      exact hpp x y hx hy
    · rw [if_neg e, if_neg (by omega)] at hx
      obtain ⟨hkl, _⟩ := List.getElem?_eq_some_iff.1 hx
      have h3 := h.1 k hk hkl e x q hx (by rw [hpar]; exact hq)
      have h4 := hpp q y hq hy
      exact nlt_trans h4 h3

/-- The smallest child. -/
theorem down_done {L : List Pcl} {i n : Nat} (h : DownTo L i n) (hj : ∀ k, 0 < k → k < n → (k - 1) / 2 = i → Ok L k i) : HeapN L n := by
  intro k hk hkl
  by_cases e : (k - 1) / 2 = i
  · rw [e]; exact hj k hk hkl e
  · exact h.1 k hk hkl e
theorem down_step {L : List Pcl} {i j n : Nat} {p q : Pcl} (h : DownTo L i n) (hn : n ≤ L.length) (hj0 : 0 < j) (hjn : j < n) (hpar : (j - 1) / 2 = i) (hp : L[j]? = some p) (hq : L[i]? = some q) (hlt : Lt p q)
    (hmin : ∀ k, 0 < k → k < n → (k - 1) / 2 = i → Ok L k j) : DownTo (swp L i j) j n := by
  have hi1 : i < L.length := by omega
  have hj1 : j < L.length := by omega
  refine ⟨fun k hk hkl hne => ?_, fun k hk hkl hj hpk => ?_⟩
  · intro x y hx hy
    rw [swp_get hi1 hj1] at hx hy
    rw [if_neg hne] at hy
    by_cases e : k = j
    · subst e
      rw [if_pos rfl] at hx
      rw [if_pos hpar] at hy
      rw [hq] at hx; rw [hp] at hy
      cases hx; cases hy
      exact nlt_of_lt hlt
    · rw [if_neg e] at hx
      by_cases e2 : (k - 1) / 2 = i
      · rw [if_pos e2] at hy
        rw [if_neg (by omega)] at hx
        exact hmin k hk hkl e2 x y hx hy
      · rw [if_neg e2] at hy
        by_cases e3 : k = i
        · subst e3
          rw [if_pos rfl] at hx
          exact h.2 j hj0 hjn hk hpar x y hx hy
        · rw [if_neg e3] at hx
          exact h.1 k hk hkl e2 x y hx hy
  · intro x y hx hy
    rw [swp_get hi1 hj1] at hx hy
    rw [hpar, if_neg (by omega), if_pos rfl] at hy
    rw [if_neg (by omega), if_neg (by omega)] at hx
    have h3 := h.1 k hk hkl (by omega) x y hx (by rw [hpk]; exact hy)
    exact h3
theorem heap_min {L : List Pcl} (h : IsHeap L) {q : Pcl} (h0 : L[0]? = some q) : ∀ (k : Nat) (p : Pcl), L[k]? = some p → ¬ Lt p q := by
  intro k
  induction k using Nat.strongRecOn with
  | _ k ih =>
    intro p hp
    obtain ⟨hkl, _⟩ := List.getElem?_eq_some_iff.1 hp
    rcases Nat.eq_zero_or_pos k with rfl | hk
    · rw [h0] at hp; cases hp; exact Lt.irrefl _
    · have hm : (k - 1) / 2 < L.length := by omega
      have h1 := h k hk hkl p _ hp (List.getElem?_eq_getElem hm)
      exact nlt_trans (ih _ (by omega) _ (List.getElem?_eq_getElem hm)) h1

/-! ### The waiting copies in their order: a strictly sorted list -/
def Sorted (M : List Pcl) : Prop := M.Pairwise Lt
def ins (p : Pcl) : List Pcl → List Pcl
  | [] => [p]
  | q :: M => if lt p q then p :: q :: M else q :: ins p M
theorem ins_perm (p : Pcl) (M : List Pcl) : (ins p M).Perm (p :: M) := by
  induction M with
  | nil => exact List.Perm.refl _
  | cons q M ih =>
    unfold ins
    split
    · exact List.Perm.refl _
    · exact (ih.cons q).trans (List.Perm.swap p q M)
theorem ins_sorted {p : Pcl} {M : List Pcl} (h : Sorted M) (hp : ∀ q ∈ M, Lt p q ∨ Lt q p) : Sorted (ins p M) := by
  induction M with
  | nil => simp [ins, Sorted]
  | cons q M ih =>
    unfold Sorted at *
    rw [List.pairwise_cons] at h
    unfold ins
    split
    · rename_i hl
      rw [lt_iff] at hl
      rw [List.pairwise_cons]
      refine ⟨fun r hr => ?_, List.pairwise_cons.2 h⟩
      rcases List.mem_cons.1 hr with rfl | hr
      · exact hl
      · exact hl.trans (h.1 r hr)
    · rename_i hl
      rw [lt_iff] at hl
      rw [List.pairwise_cons]
      refine ⟨fun r hr => ?_, ih h.2 (fun r hr => hp r (List.mem_cons_of_mem _ hr))⟩
      have hr' := (ins_perm p M).mem_iff.1 hr
      rcases List.mem_cons.1 hr' with rfl | hr'
      · exact (hp q (List.mem_cons_self ..)).resolve_left hl
      · exact h.1 r hr'
/-- The first of a heap is the first of the sorted list. -/
theorem heap_head {L M : List Pcl} (h : IsHeap L) (hM : Sorted M) (hp : L.Perm M) {q : Pcl} (h0 : L[0]? = some q) : ∃ T, M = q :: T := by
  have hq : q ∈ M := hp.mem_iff.1 (List.mem_of_getElem? h0)
  cases M with
  | nil => cases hq
  | cons m T =>
    have hm : m ∈ L := hp.mem_iff.2 (List.mem_cons_self ..)
    obtain ⟨k, hk⟩ := List.getElem?_of_mem hm
    have h1 := heap_min h h0 k m hk
    rcases List.mem_cons.1 hq with rfl | hq
    · exact ⟨T, rfl⟩
    · exact absurd ((List.pairwise_cons.1 hM).1 q hq) h1
end Go.Proofs.Ytoaddfmbjehhoaa
