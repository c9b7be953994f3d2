/- What is proved here: what the methods of the waiting copies (Len, Less, Swap, Push, Pop) do. Conditions: the slice is the call's own, and short. -/
import Derived.Test.YtoaddfmbjehhoaaLib
import Derived.Test.YtoaddfmbjehhoaaHeap
import Derived.Deep.RegionHeld3
import Derived.Deep.MidRow
namespace Go.Proofs.Ytoaddfmbjehhoaa
open Go.RowKit

def pc (p : Pcl) : List Value := [.int .i64 p.fr, .int .i64 p.tgt, .string p.tx, .int .i64 p.due, .int .i64 p.sent]
theorem pc_len (p : Pcl) : (pc p).length = 5 := rfl

section
variable {w : World} {B g n cap : Nat} {L : List Pcl} {i : Nat} {p : Pcl}
theorem pcl_cell (h : w.ownsRow B 67 5 (.slice (some ⟨g, 0, none⟩) n cap) n (L.flatMap pc)) (hn : L.length = n) (hp : L[i]? = some p) (k : Nat) (hk : k < 5) : w.cell? ⟨g, i * 5 + k, none⟩ = (pc p)[k]? := by
  obtain ⟨hi, _⟩ := List.getElem?_eq_some_iff.1 hp
  rw [h.cellAt (i * 5 + k) (by omega), flat_get pc_len L i k hk p hp]
theorem pcl_cells (h : w.ownsRow B 67 5 (.slice (some ⟨g, 0, none⟩) n cap) n (L.flatMap pc)) (hn : L.length = n) (hp : L[i]? = some p) :
    w.cell? ⟨g, i * 5, none⟩ = some (.int .i64 p.fr) ∧ w.cell? ⟨g, i * 5 + 1, none⟩ = some (.int .i64 p.tgt) ∧ w.cell? ⟨g, i * 5 + 2, none⟩ = some (.string p.tx) ∧
      w.cell? ⟨g, i * 5 + 3, none⟩ = some (.int .i64 p.due) ∧ w.cell? ⟨g, i * 5 + 4, none⟩ = some (.int .i64 p.sent) :=
  ⟨pcl_cell h hn hp 0 (by omega), pcl_cell h hn hp 1 (by omega), pcl_cell h hn hp 2 (by omega), pcl_cell h hn hp 3 (by omega), pcl_cell h hn hp 4 (by omega)⟩
theorem pcl_frozen (h : w.ownsRow B 67 5 (.slice (some ⟨g, 0, none⟩) n cap) n (L.flatMap pc)) (i : Nat) :
    w.frozen? ⟨g, i * 5, none⟩ = false ∧ w.frozen? ⟨g, i * 5 + 1, none⟩ = false ∧ w.frozen? ⟨g, i * 5 + 2, none⟩ = false ∧ w.frozen? ⟨g, i * 5 + 3, none⟩ = false ∧ w.frozen? ⟨g, i * 5 + 4, none⟩ = false :=
  ⟨h.frozenAt _, h.frozenAt _, h.frozenAt _, h.frozenAt _, h.frozenAt _⟩
end

set_option maxHeartbeats 400000 in
theorem len_any (A : Option Addr) (n c : Nat) (w : World) :
    Calls Try.prog 43 #[.slice A n c] w fun e w' => e = .returned (.int .i64 n) ∧ w = w' := by
  go_enter Try.func43, Try.ntmps43
  go_wp2
  go_ret
  exact ⟨rfl, rfl⟩

set_option maxHeartbeats 400000 in
theorem less_any {B g n cap : Nat} {L : List Pcl} (i j : Nat) {p q : Pcl} {w : World} (hown : w.ownsRow B 67 5 (.slice (some ⟨g, 0, none⟩) n cap) n (L.flatMap pc)) (hn : L.length = n) (hb : n ≤ 1000000)
    (hp : L[i]? = some p) (hq : L[j]? = some q) :
    Calls Try.prog 44 #[.slice (some ⟨g, 0, none⟩) n cap, .int .i64 i, .int .i64 j] w fun e w' => e = .returned (.bool (lt p q)) ∧ ∃ k, w' = w.drewN k := by
  obtain ⟨hi, _⟩ := List.getElem?_eq_some_iff.1 hp
  obtain ⟨hj, _⟩ := List.getElem?_eq_some_iff.1 hq
  have hi' : i < n := by omega
  have hj' : j < n := by omega
  obtain ⟨_, _, _, a3, a4⟩ := pcl_cells hown hn hp
  obtain ⟨_, _, _, b3, b4⟩ := pcl_cells hown hn hq
  have H := Lib.hid hn
  clear hn hp hq hown
  by_cases hd : p.due = q.due
  · have e : lt p q = decide (p.sent < q.sent) := by simp [lt, hd]
    rw [e]
    have hd' : (p.due != q.due) = false := by simp [hd]
    clear hd e
    go_enter Try.func44, Try.ntmps44
    go_wp2
    go_quiet (fail)
    go_wp2
    go_quiet (fail)
    go_wp2
    go_ret
    exact ⟨rfl, _, World.drewN_drewN _ _ _⟩
  · have e : lt p q = decide (p.due < q.due) := by simp [lt, hd]
    rw [e]
    have hd' : (p.due != q.due) = true := by simp [hd]
    clear hd e
    go_enter Try.func44, Try.ntmps44
    go_wp2
    go_quiet (fail)
    go_wp2
    go_quiet (fail)
    go_wp2
    go_ret
    exact ⟨rfl, _, World.drewN_drewN _ _ _⟩

set_option maxHeartbeats 400000 in
theorem swap_any {B g n cap : Nat} {L : List Pcl} (i j : Nat) {p q : Pcl} {w : World} (hown : w.ownsRow B 67 5 (.slice (some ⟨g, 0, none⟩) n cap) n (L.flatMap pc)) (hn : L.length = n) (hb : n ≤ 1000000)
    (hp : L[i]? = some p) (hq : L[j]? = some q) (hne : i ≠ j) :
    Calls Try.prog 45 #[.slice (some ⟨g, 0, none⟩) n cap, .int .i64 i, .int .i64 j] w fun e w' => e = .returned (.tuple #[]) ∧
      w'.ownsRow B 67 5 (.slice (some ⟨g, 0, none⟩) n cap) n ((swp L i j).flatMap pc) ∧ Only (· = g) w w' := by
  obtain ⟨hi, _⟩ := List.getElem?_eq_some_iff.1 hp
  obtain ⟨hj, _⟩ := List.getElem?_eq_some_iff.1 hq
  have hi' : i < n := by omega
  have hj' : j < n := by omega
  obtain ⟨a0, a1, a2, a3, a4⟩ := pcl_cells hown hn hp
  obtain ⟨b0, b1, b2, b3, b4⟩ := pcl_cells hown hn hq
  obtain ⟨f0, f1, f2, f3, f4⟩ := pcl_frozen hown i
  obtain ⟨g0, g1, g2, g3, g4⟩ := pcl_frozen hown j
  have n0 : ¬ j = i := fun h => hne h.symm
  have n1 : ¬ j * 5 = i * 5 + 1 := by omega
  have n2 : ¬ j * 5 = i * 5 + 2 := by omega
  have n3 : ¬ j * 5 = i * 5 + 3 := by omega
  have n4 : ¬ j * 5 = i * 5 + 4 := by omega
  have m1 : ¬ j * 5 + 1 = i * 5 := by omega
  have m2 : ¬ j * 5 + 2 = i * 5 := by omega
  have m3 : ¬ j * 5 + 3 = i * 5 := by omega
  have m4 : ¬ j * 5 + 4 = i * 5 := by omega
  have HE := Lib.hid hn
  have HP := Lib.hid hp
  have HQ := Lib.hid hq
  have HO := Lib.hid hown
  clear hn hp hq hown hne
  go_enter Try.func45, Try.ntmps45
  go_region
  all_goals
    go_wp2
    go_end0
    refine ⟨rfl, ?_, ?_⟩
    · rw [swp_at HP.out HQ.out]
      have h1 := own_put pc_len q HO.out hi
      exact own_drew (own_put pc_len p h1 (by simpa using hj))
    · exact (only_stores (S := (· = g)) (g := g) (.inl rfl) (pc p) (j * 5) (only_stores (S := (· = g)) (g := g) (.inl rfl) (pc q) (i * 5) (Only.refl _ w))).drew
theorem swap_same {B g n cap : Nat} {L : List Pcl} (i : Nat) {p : Pcl} {w : World} (hown : w.ownsRow B 67 5 (.slice (some ⟨g, 0, none⟩) n cap) n (L.flatMap pc)) (hn : L.length = n) (hb : n ≤ 1000000)
    (hp : L[i]? = some p) :
    Calls Try.prog 45 #[.slice (some ⟨g, 0, none⟩) n cap, .int .i64 i, .int .i64 i] w fun e w' => e = .returned (.tuple #[]) ∧
      w'.ownsRow B 67 5 (.slice (some ⟨g, 0, none⟩) n cap) n ((swp L i i).flatMap pc) ∧ Only (· = g) w w' := by
  obtain ⟨hi, _⟩ := List.getElem?_eq_some_iff.1 hp
  have hi' : i < n := by omega
  obtain ⟨a0, a1, a2, a3, a4⟩ := pcl_cells hown hn hp
  obtain ⟨f0, f1, f2, f3, f4⟩ := pcl_frozen hown i
  have HE := Lib.hid hn
  have HP := Lib.hid hp
  have HO := Lib.hid hown
  clear hn hp hown
  go_enter Try.func45, Try.ntmps45
  go_region
  all_goals
    go_wp2
    go_end0
    refine ⟨rfl, ?_, ?_⟩
    · rw [swp_at HP.out HP.out]
      have h1 := own_put pc_len p HO.out hi
      exact own_drew (own_put pc_len p h1 (by simpa using hi))
    · exact (only_stores (S := (· = g)) (g := g) (.inl rfl) (pc p) (i * 5) (only_stores (S := (· = g)) (g := g) (.inl rfl) (pc p) (i * 5) (Only.refl _ w))).drew
theorem swap_all {B g n cap : Nat} {L : List Pcl} (i j : Nat) {w : World} (hown : w.ownsRow B 67 5 (.slice (some ⟨g, 0, none⟩) n cap) n (L.flatMap pc)) (hn : L.length = n) (hb : n ≤ 1000000)
    (hi : i < n) (hj : j < n) :
    Calls Try.prog 45 #[.slice (some ⟨g, 0, none⟩) n cap, .int .i64 i, .int .i64 j] w fun e w' => e = .returned (.tuple #[]) ∧
      w'.ownsRow B 67 5 (.slice (some ⟨g, 0, none⟩) n cap) n ((swp L i j).flatMap pc) ∧ Only (· = g) w w' := by
  have h1 := List.getElem?_eq_getElem (l := L) (i := i) (by omega)
  have h2 := List.getElem?_eq_getElem (l := L) (i := j) (by omega)
  by_cases e : i = j
  · subst e; exact swap_same i hown hn hb h1
  · exact swap_any i j hown hn hb h1 h2 e

/-! ### The methods, called through the interface -/
theorem met_len (a : Addr) (w : World) : (method 196 75 (.pointer (some a)) "Len").run Try.prog w = ((load a).bind fun v => (Sem.pure (43, v) : Sem (FuncId × Value))).run Try.prog w := by kernel_rfl
theorem met_less (a : Addr) (w : World) : (method 196 75 (.pointer (some a)) "Less").run Try.prog w = ((load a).bind fun v => (Sem.pure (44, v) : Sem (FuncId × Value))).run Try.prog w := by kernel_rfl
theorem met_swap (a : Addr) (w : World) : (method 196 75 (.pointer (some a)) "Swap").run Try.prog w = ((load a).bind fun v => (Sem.pure (45, v) : Sem (FuncId × Value))).run Try.prog w := by kernel_rfl
theorem met_pop (a : Addr) (w : World) : (method 196 75 (.pointer (some a)) "Pop").run Try.prog w = .ok (46, .pointer (some a)) w := by kernel_rfl
theorem met_push (a : Addr) (w : World) : (method 196 75 (.pointer (some a)) "Push").run Try.prog w = .ok (47, .pointer (some a)) w := by kernel_rfl
section
variable {a : Addr} {w : World} {v : Value} (h : w.cell? a = some v)
include h
theorem met_len' : (method 196 75 (.pointer (some a)) "Len").run Try.prog w = .ok (43, v) w := by rw [met_len]; simp [load, Sem.bind, Sem.run, h]
theorem met_less' : (method 196 75 (.pointer (some a)) "Less").run Try.prog w = .ok (44, v) w := by rw [met_less]; simp [load, Sem.bind, Sem.run, h]
theorem met_swap' : (method 196 75 (.pointer (some a)) "Swap").run Try.prog w = .ok (45, v) w := by rw [met_swap]; simp [load, Sem.bind, Sem.run, h]
end
end Go.Proofs.Ytoaddfmbjehhoaa
