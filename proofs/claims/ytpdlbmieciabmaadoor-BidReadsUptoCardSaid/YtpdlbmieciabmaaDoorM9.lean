/- What is proved here: several parts. the first reference's decimal texts of integers. Conditions: the integers have 64 bits. · numbers written to the base 65536, in plain Lean, and slices that read as such digits. No function of the program. No conditions. · how the reference of layer 1 trims, compares, multiplies and subtracts rows of at most one digit. Conditions: the rows read as digits. · how the reference of layer 1 multiplies one by a digit, subtracts a digit from itself, and divides by one. Conditions: the rows read as digits. · how the reference of layer 1 divides a row of digits by one. Conditions: the rows read as digits. · how the reference of layer 1 takes integers apart and puts them together. Conditions: the integers have 64 bits. · an integer over one is in lowest terms by the reference of layer 1; its text is its decimal form. Conditions: the integer has 64 bits. · the text of an integer by the reference is its decimal form. Conditions: the integer has 64 bits. -/
import Derived.Test.YtpdlbmieciabmaaDoorM4
import Derived.Test.YtpdlbmieciabmaaDoorM3
import Derived.Deep.OwnRows
import Derived.Lib.AppendZeros
import Derived.Deep.AppendLies
import Derived.Deep.RegionHeld3
import Derived.Deep.RegionLaw
namespace Go.Proofs.YtpdlbmieciabmaaDoor
open Go.RowKit
end Go.Proofs.YtpdlbmieciabmaaDoor
namespace Go.Proofs.YtpdlbmieciabmaaDoor
open Go.RowKit

def dv (d : Nat) : Value := .int .i64 (d : Int)
theorem dv_one (D : List Nat) : ∀ v ∈ D.map dv, v.oneCell' = true := fun v hv => by obtain ⟨_, _, rfl⟩ := List.mem_map.1 hv; rfl
/-- Without the zeros at the end. -/
def trimL (D : List Nat) : List Nat := (D.reverse.dropWhile (· == 0)).reverse
theorem trimL_nil : trimL [] = [] := rfl
theorem trimL_snoc (D : List Nat) (d : Nat) : trimL (D ++ [d]) = if d = 0 then trimL D else D ++ [d] := by
  unfold trimL
  rw [List.reverse_append, List.reverse_singleton, List.singleton_append, List.dropWhile_cons]
  by_cases h : d = 0
  · simp [h]
  · simp [h]
theorem trimL_le (D : List Nat) : (trimL D).length ≤ D.length := by
  unfold trimL
  rw [List.length_reverse]
  have h := (List.dropWhile_sublist (l := D.reverse) (fun x => x == 0)).length_le
  rw [List.length_reverse] at h
  exact h
theorem trimL_one (d : Nat) : trimL [d] = if d = 0 then [] else [d] := trimL_snoc [] d
theorem take_snoc' {D : List Nat} {k d : Nat} (h : D[k]? = some d) : D.take (k + 1) = D.take k ++ [d] := by
  rw [List.take_add_one, h]; rfl
/-- The digits of a number, the least significant one first. -/
def dg16 (m : Nat) : List Nat := if h : m = 0 then [] else m % 65536 :: dg16 (m / 65536)
termination_by m
decreasing_by omega
theorem dg16_zero : dg16 0 = [] := by rw [dg16, dif_pos rfl]
theorem dg16_pos {m : Nat} (h : m ≠ 0) : dg16 m = m % 65536 :: dg16 (m / 65536) := by
  conv => lhs; rw [dg16, dif_neg h]
theorem dg16_one : dg16 1 = [1] := by rw [dg16_pos (by omega)]; simp [dg16_zero]
theorem dg16_len (k : Nat) : ∀ m, m < 65536 ^ k → (dg16 m).length ≤ k := by
  induction k with
  | zero => intro m h; have : m = 0 := by simpa using h
            subst this; simp [dg16_zero]
  | succ k ih =>
    intro m h
    by_cases h0 : m = 0
    · subst h0; simp [dg16_zero]
    · rw [dg16_pos h0, List.length_cons]
      have := ih (m / 65536) (by rw [Nat.pow_succ] at h; omega)
      omega
theorem dg16_drop (k : Nat) : ∀ m, (dg16 m).drop k = dg16 (m / 65536 ^ k) := by
  induction k with
  | zero => intro m; simp
  | succ k ih =>
    intro m
    by_cases h0 : m = 0
    · subst h0; simp [dg16_zero]
    · rw [dg16_pos h0, List.drop_succ_cons, ih, Nat.div_div_eq_div_mul, Nat.pow_succ, Nat.mul_comm]
theorem dg16_at (m k : Nat) (h : m / 65536 ^ k ≠ 0) : (dg16 m)[k]? = some (m / 65536 ^ k % 65536) := by
  have h1 : ((dg16 m).drop k)[0]? = some (m / 65536 ^ k % 65536) := by rw [dg16_drop, dg16_pos h]; rfl
  rw [List.getElem?_drop, Nat.add_zero] at h1
  exact h1
theorem dg16_all (m k : Nat) (h : m / 65536 ^ k = 0) : (dg16 m).take k = dg16 m := by
  have h1 := dg16_drop k m
  rw [h, dg16_zero] at h1
  have h2 := List.take_append_drop k (dg16 m)
  rw [h1, List.append_nil] at h2
  exact h2
theorem dg16_trim (m : Nat) : trimL (dg16 m) = dg16 m := by
  induction m using Nat.strongRecOn with
  | _ m ih =>
    by_cases h0 : m = 0
    · subst h0; simp [dg16_zero, trimL]
    · by_cases h1 : m / 65536 = 0
      · rw [dg16_pos h0, h1, dg16_zero, trimL_one, if_neg (by omega)]
      · have h2 := ih (m / 65536) (by omega)
        obtain ⟨x, l, hx⟩ : ∃ x l, dg16 (m / 65536) = l ++ [x] := by
          rcases List.eq_nil_or_concat (dg16 (m / 65536)) with e | ⟨l, x, e⟩
          · rw [dg16_pos h1] at e; cases e
          · exact ⟨x, l, by simpa using e⟩
        rw [hx, trimL_snoc] at h2
        rw [dg16_pos h0, hx, ← List.cons_append, trimL_snoc]
        by_cases hx0 : x = 0
        · exfalso
          rw [if_pos hx0] at h2
          have := congrArg List.length h2
          have := trimL_le l
          simp at *
          omega
        · rw [if_neg hx0]
theorem dg16_lt (m : Nat) : ∀ d ∈ dg16 m, d < 65536 := by
  induction m using Nat.strongRecOn with
  | _ m ih =>
    intro d hd
    by_cases h0 : m = 0
    · subst h0; rw [dg16_zero] at hd; cases hd
    · rw [dg16_pos h0] at hd
      rcases List.mem_cons.1 hd with e | e
      · subst e; omega
      · exact ih _ (by omega) d e
theorem dg16_pos_len {m : Nat} (h : m ≠ 0) : 0 < (dg16 m).length := by rw [dg16_pos h]; simp
/-- The number of digits, from one on. -/
theorem dg16_step (m i : Nat) : m / 65536 ^ i = m / 65536 ^ (i + 1) * 65536 + m / 65536 ^ i % 65536 := by
  rw [Nat.pow_succ, ← Nat.div_div_eq_div_mul]
  omega
theorem pow64 : (65536 : Nat) ^ 4 = 18446744073709551616 := rfl

/-- A slice that reads as these digits. -/
def Rd (w : World) (v : Value) (D : List Nat) : Prop :=
  (v = .slice none 0 0 ∧ D = []) ∨ ∃ g c, v = .slice (some ⟨g, 0, none⟩) D.length c ∧ D.length ≤ c ∧ c ≤ maxLen ∧ g < w.heap.size ∧ ∀ (j d : Nat), D[j]? = some d → w.cell? ⟨g, j, none⟩ = some (dv d)
section
variable {w w' : World} {v : Value} {D : List Nat} {S : Nat → Prop}
theorem Rd.nil (w : World) : Rd w (.slice none 0 0) [] := .inl ⟨rfl, rfl⟩
theorem Rd.form (h : Rd w v D) : ∃ a c, v = .slice a D.length c ∧ D.length ≤ c ∧ c ≤ 9223372036854775807 := by
  rcases h with ⟨rfl, rfl⟩ | ⟨g, c, rfl, h1, h2, _⟩
  · exact ⟨none, 0, rfl, by simp, by omega⟩
  · exact ⟨_, c, rfl, h1, h2⟩
theorem Rd.cells (h : Rd w v D) (hD : D ≠ []) : ∃ g c, v = .slice (some ⟨g, 0, none⟩) D.length c ∧ D.length ≤ c ∧ c ≤ 9223372036854775807 ∧ g < w.heap.size ∧ ∀ (j d : Nat), D[j]? = some d → w.cell? ⟨g, j, none⟩ = some (.int .i64 (d : Int)) := by
  rcases h with ⟨_, h⟩ | ⟨g, c, rfl, h1, h2, h3, h4⟩
  · exact absurd h hD
  · exact ⟨g, c, rfl, h1, h2, h3, h4⟩
theorem Rd.only (h : Rd w v D) (ho : Only NoneOf w w') : Rd w' v D := by
  rcases h with h | ⟨g, c, h0, h1, h2, h3, h4⟩
  · exact .inl h
  · exact .inr ⟨g, c, h0, h1, h2, Nat.lt_of_lt_of_le h3 ho.size, fun j d hd => ho.cell_some (h4 j d hd) (fun e => e)⟩
theorem Rd.onlyS (h : Rd w v D) (ho : Only S w w') (hn : ∀ k, v.ownBlock = some k → ¬ S k) : Rd w' v D := by
  rcases h with h | ⟨g, c, rfl, h1, h2, h3, h4⟩
  · exact .inl h
  · exact .inr ⟨g, c, rfl, h1, h2, Nat.lt_of_lt_of_le h3 ho.size, fun j d hd => ho.cell_some (h4 j d hd) (hn g rfl)⟩
theorem Rd.of_blk {g : Nat} {t : TypeId} {c : Nat} {cs : Array Value} (hb : Blk w g t cs) (hc : D.length ≤ c) (hm : c ≤ maxLen) (h : ∀ (j d : Nat), D[j]? = some d → cs[j]? = some (dv d)) : Rd w (.slice (some ⟨g, 0, none⟩) D.length c) D :=
  .inr ⟨g, c, rfl, hc, hm, hb.lt, fun j d hd => (hb.cell j).trans (h j d hd)⟩
theorem Rd.of_own {base : Nat} {e : TypeId} {n : Nat} (h : w.ownsRow base e 1 v n (D.map dv)) : Rd w v D := by
  have hl : D.length = n := by have := h.1; simpa using this
  rcases h.2 with ⟨rfl, rfl⟩ | ⟨g, cap, cur, rfl, hb, hh, hc, hm, hs, ht⟩
  · exact .inl ⟨rfl, List.eq_nil_of_length_eq_zero hl⟩
  · refine .inr ⟨g, cap, by rw [hl], by omega, hm, (Array.getElem?_eq_some_iff.1 hh).1, fun j d hd => ?_⟩
    have hj : j < D.length := (List.getElem?_eq_some_iff.1 hd).1
    have h1 : (cur.toList.take (n * 1))[j]? = some (dv d) := by rw [ht, List.getElem?_map, hd]; rfl
    rw [List.getElem?_take, if_pos (by omega)] at h1
    unfold World.cell?
    simp only [hh]
    simpa using h1
end
theorem run_append_zero {P : Program} {t ty e : TypeId} {i : TypeInfo} (ht : P.underlying t = some (.slice e)) (hi : P.info? e = some i) (g : Addr) (n cap : Nat) (hn : n ≤ cap) (A : Option Addr) (c : Nat) (w : World) :
    (Builtin.append_ #[t, t] ty #[.slice (some g) n cap, .slice A 0 c]).run P w = .ok (.slice (some g) n cap) w := by
  cases A with
  | none => simp [Builtin.append_, run_underlying ht, sizeOf, typeInfo, hi, Builtin.lenOf, Builtin.firstCells, hn, storeCells]
  | some a => simp [Builtin.append_, run_underlying ht, sizeOf, typeInfo, hi, Builtin.lenOf, Builtin.firstCells, hn, storeCells, loadCells, loadCellsFrom]
end Go.Proofs.YtpdlbmieciabmaaDoor
namespace Go.Proofs.YtpdlbmieciabmaaDoor
open Go.RowKit
theorem info_i64 : (Tryd.prog.info? 3).map (fun i => (i.zero, i.size, i.bytes)) = some (some (.int .i64 0), 1, 8) := by kernel_rfl
/-- The call gave a slice that reads as these digits; all that lay lies as it lay. -/
def RetRd (D : List Nat) (w : World) (e : Ending) (w' : World) : Prop := ∃ v, e = .returned v ∧ Rd w' v D ∧ Only NoneOf w w'
def cmpL : List Nat → List Nat → Int
  | [], [] => 0
  | [x], [y] => if x = y then 0 else if x < y then -1 else 1
  | A, B => if A.length < B.length then -1 else 1
end Go.Proofs.YtpdlbmieciabmaaDoor
namespace Go.Proofs.YtpdlbmieciabmaaDoor
open Go.RowKit
theorem madeInts (n : Nat) : madeCells #[Value.int .i64 0] n = ((List.replicate n (0 : Nat)).map dv).toArray := by
  apply Array.ext'
  apply List.ext_getElem?
  intro i
  by_cases h : i < n
  · simp [madeCells, h, Nat.mod_one, dv]
  · simp [madeCells, h]
end Go.Proofs.YtpdlbmieciabmaaDoor
namespace Go.Proofs.YtpdlbmieciabmaaDoor
open Go.RowKit
/-- The quotient's digits when those from k on have been found. -/
def qRow (D : List Nat) (k : Nat) : List Nat := List.replicate k 0 ++ D.drop k
theorem qRow_len {D : List Nat} {k : Nat} (h : k ≤ D.length) : (qRow D k).length = D.length := by simp [qRow]; omega
theorem qRow_set {D : List Nat} {k d : Nat} (hd : D[k]? = some d) : ((qRow D (k + 1)).map dv).toArray.setIfInBounds k (dv d) = ((qRow D k).map dv).toArray := by
  have hk : k < D.length := (List.getElem?_eq_some_iff.1 hd).1
  rw [List.setIfInBounds_toArray, ← List.map_set, qRow, qRow, List.set_append_left _ _ (by simp), List.replicate_succ', List.set_append_right _ _ (by simp), List.length_replicate, Nat.sub_self, List.set_cons_zero, List.append_assoc, List.singleton_append]
  congr 4
  rw [List.drop_eq_getElem_cons hk]
  congr 1
  exact (List.getElem?_eq_some_iff.1 hd).2.symm
theorem qRow_zero (D : List Nat) : qRow D 0 = D := by simp [qRow]
theorem qRow_all (D : List Nat) : qRow D D.length = List.replicate D.length 0 := by simp [qRow]
def OverI (w : World) (D : List Nat) (Q : Nat) (k : Nat) (r : Value) (wr : World) : Prop :=
  Rd wr r [] ∧ Blk wr Q 3 ((qRow D k).map dv).toArray ∧ Only NoneOf w wr
def BisI (w : World) (d : Nat) (low high : Nat) (wr : World) : Prop := low ≤ d ∧ d < high ∧ high ≤ 65536 ∧ Only NoneOf w wr
theorem cmp_le {m d : Nat} : decide ((if m = d then (0 : Int) else if m < d then -1 else 1) ≤ 0) = decide (m ≤ d) := by
  by_cases h1 : m = d
  · simp [h1]
  · by_cases h2 : m < d
    · rw [if_neg h1, if_pos h2]; simp; omega
    · rw [if_neg h1, if_neg h2]; simp; omega
end Go.Proofs.YtpdlbmieciabmaaDoor
namespace Go.Proofs.YtpdlbmieciabmaaDoor
open Go.RowKit
/-- A number of the reference: its sign and its digits. -/
def bigV (neg : Bool) (v : Value) : Value := .agg #[.bool neg, v]
theorem dg16_take_snoc {m k : Nat} (h : m / 65536 ^ k ≠ 0) : (dg16 m).take (k + 1) = (dg16 m).take k ++ [m / 65536 ^ k % 65536] := take_snoc' (dg16_at m k h)
theorem dg16_size {m k : Nat} (h : m / 65536 ^ k ≠ 0) : k < (dg16 m).length := (List.getElem?_eq_some_iff.1 (dg16_at m k h)).1
theorem div_next (m k : Nat) : m / 65536 ^ (k + 1) = m / 65536 ^ k / 65536 := by rw [Nat.pow_succ, ← Nat.div_div_eq_div_mul]
theorem dg16_end (m : Nat) : m / 65536 ^ (dg16 m).length = 0 := by
  have h := dg16_drop (dg16 m).length m
  rw [List.drop_length] at h
  rcases Nat.eq_zero_or_pos (m / 65536 ^ (dg16 m).length) with h0 | h0
  · exact h0
  · rw [dg16_pos (by omega)] at h; cases h
theorem dg16_len4 {m : Nat} (h : m ≤ 9223372036854775808) : (dg16 m).length ≤ 4 := dg16_len 4 m (by rw [pow64]; omega)
theorem wrap_u (x : Int) (h0 : 0 ≤ x) (h1 : x < 18446744073709551616) : IntKind.u64.wrap x = x := by
  simp [IntKind.wrap, IntKind.bits, IntKind.signed]; omega
def FitI (m : Nat) (len : Nat) (a b : Value) : Prop := ∃ k : Nat, k ≤ len ∧ b = .int .i64 ((k : Int) - 1) ∧ a = .int .u64 ((m / 65536 ^ k : Nat) : Int)
end Go.Proofs.YtpdlbmieciabmaaDoor
namespace Go.Proofs.YtpdlbmieciabmaaDoor
open Go.RowKit
def ComI (w : World) (m : Nat) (a b : Value) (wr : World) : Prop := (Rd wr a (dg16 m) ∧ Rd wr b [1] ∨ Rd wr a [1] ∧ Rd wr b []) ∧ Only NoneOf w wr
/-- A rational number of the reference. -/
abbrev ratV (n d : Int) : Value := .agg #[.int .i64 n, .int .i64 d]
end Go.Proofs.YtpdlbmieciabmaaDoor
namespace Go.Proofs.YtpdlbmieciabmaaDoor
open Go.RowKit
theorem only_of_drew' {S : Nat → Prop} {w w' : World} (h : Only S w.drew w') : Only S w w' := ⟨h.os, h.tape, h.output, h.size, h.block⟩
theorem only_set2 {w W : World} (h : Only NoneOf w W) {b : Nat} (hb : w.heap.size ≤ b) (u v : Value) : Only NoneOf w ((W.setCell ⟨b, 0, none⟩ u).setCell ⟨b, 1, none⟩ v) :=
  (h.setCell (.inr hb) _).setCell (.inr hb) _
end Go.Proofs.YtpdlbmieciabmaaDoor
