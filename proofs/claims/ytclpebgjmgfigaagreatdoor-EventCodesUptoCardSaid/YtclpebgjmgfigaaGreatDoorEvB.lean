/- What is proved here: chains of events in plain Lean: where a chain breaks off, chains that are made, and what becomes of them if one event is another; no program in sight. No conditions. -/
import Derived.Test.YtclpebgjmgfigaaGreatDoorEvA
namespace Go.Proofs.YtclpebgjmgfigaaGreatDoor
def hashE (e : Ev) : List UInt8 := shaL (evCode e)
def zeros32 : List UInt8 := List.replicate 32 0
/-- How far a chain goes, and with which error. -/
def chainGo : Nat → List UInt8 → Int → List Ev → Nat × Int
  | k, _, _, [] => (k, 0)
  | k, last, pt, e :: l =>
    if k = 2000 then (k, 2) else if e.seq ≠ (k : Int) then (k, 1) else if e.prev ≠ last then (k, 20) else if 0 < k ∧ e.time < pt then (k, 32) else chainGo (k + 1) (hashE e) e.time l
def chainL (l : List Ev) : Nat × Int := chainGo 0 zeros32 0 l
/-- A chain made of arbitrary events. -/
def linkGo : Nat → List UInt8 → Int → List Ev → List Ev
  | _, _, _, [] => []
  | k, last, t, e :: l =>
    let e' : Ev := { e with seq := (k : Int), time := t + e.time % 4, prev := last }
    e' :: linkGo (k + 1) (hashE e') (t + e.time % 4) l
def linkL (l : List Ev) : List Ev := linkGo 0 zeros32 0 (l.take 30)
theorem linkGo_len : ∀ (l : List Ev) (k : Nat) (last : List UInt8) (t : Int), (linkGo k last t l).length = l.length
  | [], _, _, _ => rfl
  | e :: l, k, last, t => by simp only [linkGo, List.length_cons, linkGo_len l]
theorem linkL_len (l : List Ev) : (linkL l).length ≤ 30 := by unfold linkL; rw [linkGo_len, List.length_take]; omega
/-- The chain l goes on from here. -/
inductive Goes : Nat → List UInt8 → Int → List Ev → Prop
  | nil (k : Nat) (last : List UInt8) (pt : Int) : Goes k last pt []
  | cons {k : Nat} {last : List UInt8} {pt : Int} {e : Ev} {l : List Ev} (hk : k < 2000) (hs : e.seq = (k : Int)) (hp : e.prev = last) (ht : 0 < k → pt ≤ e.time) (h : Goes (k + 1) (hashE e) e.time l) : Goes k last pt (e :: l)
theorem chainGo_cons {k : Nat} {last : List UInt8} {pt : Int} {e : Ev} {l : List Ev} (hk : k < 2000) (hs : e.seq = (k : Int)) (hp : e.prev = last) (ht : 0 < k → pt ≤ e.time) : chainGo k last pt (e :: l) = chainGo (k + 1) (hashE e) e.time l := by
  rw [chainGo, if_neg (by omega), if_neg (by rw [hs]; simp), if_neg (by rw [hp]; simp), if_neg (fun h => by have := ht h.1; omega)]
theorem Goes.chain {k : Nat} {last : List UInt8} {pt : Int} {l : List Ev} (h : Goes k last pt l) : chainGo k last pt l = (k + l.length, 0) := by
  induction h with
  | nil => rfl
  | cons hk hs hp ht _ ih => rw [chainGo_cons hk hs hp ht, ih, List.length_cons]; congr 1; omega
theorem linkGo_goes : ∀ (l : List Ev) (k : Nat) (last : List UInt8) (t : Int), k + l.length ≤ 2000 → Goes k last t (linkGo k last t l)
  | [], _, _, _, _ => .nil _ _ _
  | e :: l, k, last, t, h => by
    simp only [List.length_cons] at h
    simp only [linkGo]
    exact .cons (by omega) rfl rfl (fun _ => by simp only; omega) (linkGo_goes l (k + 1) _ _ (by omega))
theorem linkL_goes (l : List Ev) : Goes 0 zeros32 0 (linkL l) := linkGo_goes _ 0 _ 0 (by rw [List.length_take]; omega)
theorem chain_linked (l : List Ev) : chainL (linkL l) = ((linkL l).length, 0) := by unfold chainL; rw [(linkL_goes l).chain]; simp
theorem Goes.take {k : Nat} {last : List UInt8} {pt : Int} {l : List Ev} (h : Goes k last pt l) : ∀ n, Goes k last pt (l.take n) := by
  induction h with
  | nil => intro n; simp; exact .nil _ _ _
  | cons hk hs hp ht _ ih =>
    intro n
    cases n with
    | zero => exact .nil _ _ _
    | succ n => exact .cons hk hs hp ht (ih n)
/-- What stands behind n events that go on. -/
def endH (last : List UInt8) (pt : Int) : List Ev → List UInt8 × Int
  | [] => (last, pt)
  | e :: l => endH (hashE e) e.time l
theorem chainGo_append {k : Nat} {last : List UInt8} {pt : Int} {a : List Ev} (h : Goes k last pt a) (b : List Ev) : chainGo k last pt (a ++ b) = chainGo (k + a.length) (endH last pt a).1 (endH last pt a).2 b := by
  induction h with
  | nil => simp [endH]
  | cons hk hs hp ht _ ih => rw [List.cons_append, chainGo_cons hk hs hp ht, ih, List.length_cons]; simp only [endH]; congr 1; omega
theorem Goes.behind {k : Nat} {last : List UInt8} {pt : Int} {a b : List Ev} : Goes k last pt (a ++ b) → Goes (k + a.length) (endH last pt a).1 (endH last pt a).2 b := by
  induction a generalizing k last pt with
  | nil => intro h; simpa [endH] using h
  | cons e a ih =>
    intro h
    cases h with
    | cons hk hs hp ht h =>
      have := ih h
      simp only [endH, List.length_cons]
      rw [show k + (a.length + 1) = k + 1 + a.length by omega]
      exact this
theorem Goes.front {k : Nat} {last : List UInt8} {pt : Int} {a b : List Ev} (h : Goes k last pt (a ++ b)) : Goes k last pt a := by
  have := h.take a.length
  rwa [List.take_left] at this
/-- One event of a chain is another one. -/
theorem chain_replaced {k0 : Nat} {last : List UInt8} {pt : Int} {a b : List Ev} {old new : Ev} (h : Goes k0 last pt (a ++ old :: b)) :
    (chainGo k0 last pt (a ++ new :: b) = (k0 + (a ++ new :: b).length, 0) ∧ (b = [] ∨ hashE old = hashE new)) ∨
    ((chainGo k0 last pt (a ++ new :: b)).2 ≠ 0 ∧ ((chainGo k0 last pt (a ++ new :: b)).1 = k0 + a.length ∨ (chainGo k0 last pt (a ++ new :: b)).1 = k0 + a.length + 1)) := by
  rw [chainGo_append h.front]
  have h1 := h.behind
  generalize endH last pt a = s at h1
  obtain ⟨s1, s2⟩ := s
  simp only at h1 ⊢
  cases h1 with
  | cons hk hs hp ht h1 =>
    by_cases e1 : new.seq = ((k0 + a.length : Nat) : Int)
    · by_cases e2 : new.prev = s1
      · by_cases e3 : 0 < k0 + a.length ∧ new.time < s2
        · right
          rw [chainGo, if_neg (by omega), if_neg (by rw [e1]; simp), if_neg (by rw [e2]; simp), if_pos e3]
          exact ⟨by simp, .inl rfl⟩
        · rw [chainGo_cons hk e1 e2 (fun h => by omega)]
          cases h1 with
          | nil =>
            left
            refine ⟨?_, .inl rfl⟩
            simp only [chainGo, List.length_append, List.length_cons, List.length_nil]
            congr 1
          | @cons _ _ _ e l hk2 hs2 hp2 ht2 h2 =>
            by_cases e4 : hashE old = hashE new
            · by_cases e5 : e.time < new.time
              · right
                rw [chainGo, if_neg (by omega), if_neg (by rw [hs2]; simp), if_neg (by rw [hp2, e4]; simp), if_pos ⟨by omega, e5⟩]
                exact ⟨by simp, .inr rfl⟩
              · left
                refine ⟨?_, .inr e4⟩
                rw [chainGo_cons hk2 hs2 (by rw [hp2, e4]) (fun _ => by omega), h2.chain]
                simp only [List.length_append, List.length_cons]
                congr 1
                omega
            · right
              rw [chainGo, if_neg (by omega), if_neg (by rw [hs2]; simp), if_pos (by rw [hp2]; exact e4)]
              exact ⟨by simp, .inr rfl⟩
      · right
        rw [chainGo, if_neg (by omega), if_neg (by rw [e1]; simp), if_pos e2]
        exact ⟨by simp, .inl rfl⟩
    · right
      rw [chainGo, if_neg (by omega), if_pos e1]
      exact ⟨by simp, .inl rfl⟩
/-- One more event. -/
theorem chain_more {a : List Ev} {new : Ev} (h : Goes 0 zeros32 0 a) (hl : a.length < 2000) (hs : new.seq = (a.length : Int)) (hp : new.prev = (endH zeros32 0 a).1) : (chainL (a ++ [new])).2 = if 0 < a.length ∧ new.time < (endH zeros32 0 a).2 then 32 else 0 := by
  unfold chainL
  rw [chainGo_append h]
  simp only [Nat.zero_add]
  rw [chainGo, if_neg (by omega), if_neg (by rw [hs]; simp), if_neg (by rw [hp]; simp)]
  split <;> rfl
theorem endH_snoc (last : List UInt8) (pt : Int) (a : List Ev) (e : Ev) : endH last pt (a ++ [e]) = (hashE e, e.time) := by
  induction a generalizing last pt with
  | nil => rfl
  | cons x a ih => exact ih _ _
/-- Events that say nothing, in a chain. -/
def blankE (k : Nat) (last : List UInt8) : Ev := ⟨(k : Int), 0, 0, 0, 0, 0, 0, 0, ⟨#[]⟩, ⟨#[]⟩, 0, 0, last, 0, 0⟩
def blanks : Nat → Nat → List UInt8 → List Ev
  | 0, _, _ => []
  | n + 1, k, last => blankE k last :: blanks n (k + 1) (hashE (blankE k last))
theorem blanks_len : ∀ (n k : Nat) (last : List UInt8), (blanks n k last).length = n
  | 0, _, _ => rfl
  | n + 1, k, last => by simp only [blanks, List.length_cons, blanks_len n]
theorem blanks_chain : ∀ (n k : Nat) (last : List UInt8) (pt : Int), pt ≤ 0 → chainGo k last pt (blanks n k last) = if 2000 < k + n ∧ k ≤ 2000 then (2000, 2) else if 0 < n ∧ 2000 < k then chainGo k last pt (blanks n k last) else (k + n, 0)
  | 0, k, last, pt, _ => by
    rw [if_neg (by omega), if_neg (by omega)]; rfl
  | n + 1, k, last, pt, h => by
    by_cases hk : 2000 < k
    · rw [if_neg (by omega), if_pos ⟨by omega, hk⟩]
    · rw [if_neg (c := 0 < n + 1 ∧ 2000 < k) (by omega)] 
      by_cases hk2 : k = 2000
      · subst hk2
        rw [if_pos ⟨by omega, by omega⟩, blanks, chainGo, if_pos rfl]
      · rw [blanks, chainGo_cons (k := k) (last := last) (pt := pt) (e := blankE k last) (by omega) rfl rfl (fun _ => h), show (blankE k last).time = 0 from rfl, blanks_chain n (k + 1) _ _ (Int.le_refl 0)]
        by_cases h2 : 2000 < k + 1 + n
        · rw [if_pos ⟨h2, by omega⟩, if_pos ⟨by omega, by omega⟩]
        · rw [if_neg (by omega), if_neg (by omega), if_neg (by omega)]
          congr 1
          omega
end Go.Proofs.YtclpebgjmgfigaaGreatDoor
