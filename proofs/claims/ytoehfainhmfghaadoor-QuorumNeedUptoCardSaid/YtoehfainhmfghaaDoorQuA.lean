/- What is proved here: heads and votes as plain data, officers, which votes count; plain laws. No conditions. -/
import Derived.Test.YtoehfainhmfghaaDoorPsn
import Derived.Test.YtoehfainhmfghaaDoorM8
import Derived.Test.YtoehfainhmfghaaDoorM4
namespace Go.Proofs.YtoehfainhmfghaaDoor
/-- A head. -/
structure Hd where
  size : Int
  root : List UInt8
structure Hd.Ok (h : Hd) : Prop where
  size : In h.size
  root : h.root.length = 32
def hdC (h : Hd) : List Value := .int .i64 h.size :: h.root.map bv
theorem hdC_len {h : Hd} (hl : h.root.length = 32) : (hdC h).length = 33 := by simp [hdC, hl]
/-- A vote. -/
structure Vt where
  who : Int
  head : Hd
  r : Int
  s : Int
structure Vt.Ok (v : Vt) : Prop where
  who : In v.who
  head : v.head.Ok
  r : In v.r
  s : In v.s
def vtC (v : Vt) : List Value := .int .i64 v.who :: (hdC v.head ++ [.int .i64 v.r, .int .i64 v.s])
theorem vtC_len {v : Vt} (hl : v.head.root.length = 32) : (vtC v).length = 36 := by simp [vtC, hdC_len hl]
/-- What is signed of a head. -/
def hdText (h : Hd) : List UInt8 := [104, 101, 97, 100, 32] ++ Lib.itoa h.size ++ [32] ++ hexL h.root
/-- A vote counts for an officer. -/
noncomputable def cnts (p : Pers) (v : Vt) : Bool := v.who == p.id && goodB p.pub (hdText v.head) v.r v.s
/-- The officers among persons, where some Ids were seen. -/
def offGo (seen : List Int) : List Pers → List Pers
  | [] => []
  | p :: l => if p.id ∉ seen ∧ p.role = 2 then p :: offGo (p.id :: seen) l else offGo (p.id :: seen) l
def offs (P : List Pers) : List Pers := offGo [] P
theorem offGo_seen : ∀ (P : List Pers) (seen : List Int), ∀ p ∈ offGo seen P, p.id ∉ seen
  | [], _, _, h => by cases h
  | q :: l, seen, p, h => by
    unfold offGo at h
    split at h
    · rename_i hq
      rcases List.mem_cons.1 h with rfl | h
      · exact hq.1
      · exact fun hm => offGo_seen l _ p h (List.mem_cons_of_mem _ hm)
    · exact fun hm => offGo_seen l _ p h (List.mem_cons_of_mem _ hm)
theorem offGo_apart : ∀ (P : List Pers) (seen : List Int), (offGo seen P).Pairwise (fun p q => p.id ≠ q.id)
  | [], _ => List.Pairwise.nil
  | q :: l, seen => by
    unfold offGo
    split
    · refine List.pairwise_cons.2 ⟨fun p hp h => ?_, offGo_apart l _⟩
      exact offGo_seen l _ p hp (by rw [← h]; exact List.mem_cons_self ..)
    · exact offGo_apart l _
theorem offs_apart (P : List Pers) : (offs P).Pairwise (fun p q => p.id ≠ q.id) := offGo_apart P []
theorem offGo_sub : ∀ (P : List Pers) (seen : List Int), ∀ p ∈ offGo seen P, p ∈ P
  | [], _, _, h => by cases h
  | q :: l, seen, p, h => by
    unfold offGo at h
    split at h
    · rcases List.mem_cons.1 h with rfl | h
      · exact List.mem_cons_self ..
      · exact List.mem_cons_of_mem _ (offGo_sub l _ p h)
    · exact List.mem_cons_of_mem _ (offGo_sub l _ p h)
theorem offs_sub (P : List Pers) : ∀ p ∈ offs P, p ∈ P := offGo_sub P []
theorem offGo_len : ∀ (P : List Pers) (seen : List Int), (offGo seen P).length ≤ P.length
  | [], _ => Nat.le_refl _
  | q :: l, seen => by
    unfold offGo
    have := offGo_len l (q.id :: seen)
    split <;> simp only [List.length_cons] <;> omega
theorem offs_len (P : List Pers) : (offs P).length ≤ P.length := offGo_len P []
/-- The officers among the first persons, and what is left. -/
theorem offGo_take : ∀ (P : List Pers) (seen : List Int) (k : Nat) (p : Pers), P[k]? = some p →
    offGo seen (P.take (k + 1)) = offGo seen (P.take k) ++ (if (p.id ∉ (P.take k).map (·.id) ∧ p.id ∉ seen) ∧ p.role = 2 then [p] else [])
  | [], _, _, _, h => by simp at h
  | q :: l, seen, 0, p, h => by
    simp at h; subst h
    simp only [List.take_succ_cons, List.take_zero, offGo, List.map_nil, List.not_mem_nil, not_false_eq_true, true_and, List.nil_append]
  | q :: l, seen, k + 1, p, h => by
    have ih := offGo_take l (q.id :: seen) k p (by simpa using h)
    simp only [List.take_succ_cons, List.map_cons, List.mem_cons, not_or]
    rw [offGo, ih]
    have e : (if (p.id ∉ (l.take k).map (·.id) ∧ p.id ∉ q.id :: seen) ∧ p.role = 2 then [p] else []) = (if ((¬p.id = q.id ∧ p.id ∉ (l.take k).map (·.id)) ∧ p.id ∉ seen) ∧ p.role = 2 then [p] else []) := by
      congr 1
      simp only [List.mem_cons, not_or, eq_iff_iff]
      constructor <;> (rintro ⟨⟨h1, h2⟩, h3⟩; exact ⟨by first | exact ⟨⟨h2.1, h1⟩, h2.2⟩ | exact ⟨h1.2, h1.1, h2⟩, h3⟩)
    rw [e]
    rw [show offGo seen (q :: l.take k) = if q.id ∉ seen ∧ q.role = 2 then q :: offGo (q.id :: seen) (l.take k) else offGo (q.id :: seen) (l.take k) from rfl]
    by_cases hq : q.id ∉ seen ∧ q.role = 2
    · rw [if_pos hq, if_pos hq]; rfl
    · rw [if_neg hq, if_neg hq]
theorem offs_take {P : List Pers} {k : Nat} {p : Pers} (h : P[k]? = some p) :
    offs (P.take (k + 1)) = offs (P.take k) ++ (if p.id ∉ (P.take k).map (·.id) ∧ p.role = 2 then [p] else []) := by
  unfold offs
  rw [offGo_take P [] k p h]
  simp
/-- What is needed of officers. -/
def need (n : Nat) : Nat := 2 * (n / 3) + n % 3 * 2 / 3 + 1
noncomputable def eqHd (a b : Hd) : Bool := @decide (a = b) (Classical.propDecidable _)
theorem eqHd_true {a b : Hd} : eqHd a b = true ↔ a = b := by unfold eqHd; simp
theorem eqHd_false {a b : Hd} : eqHd a b = false ↔ a ≠ b := by unfold eqHd; simp
/-- How many officers have voted for a head. -/
noncomputable def votesFor (O : List Pers) (l : List Vt) (h : Hd) : Nat := O.countP (fun p => l.any (fun v => eqHd v.head h && cnts p v))
noncomputable def certB (P : List Pers) (h : Hd) (l : List Vt) : Bool := decide (need (offs P).length ≤ votesFor (offs P) l h)
end Go.Proofs.YtoehfainhmfghaaDoor
