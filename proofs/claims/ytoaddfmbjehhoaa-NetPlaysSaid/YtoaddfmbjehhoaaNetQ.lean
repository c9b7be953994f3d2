/- What is proved here: what the reference net's functions do. Conditions: the slices are the call's own, and short; the times are small. -/
import Derived.Test.YtoaddfmbjehhoaaNetOwn
namespace Go.Proofs.Ytoaddfmbjehhoaa
open Go.RowKit
attribute [local go_sem ↓] Go.wp_at_zero Go.wp_at_succ

theorem Try.info69 : (Try.prog.info? 69).map (fun i => (i.zero, i.size, i.bytes)) = some (some (.agg #[.int .i64 0, .int .i64 0, .string ByteArray.empty, .int .i64 0, .int .i64 0]), 5, 48) := by kernel_rfl

def RefAt (B b : Nat) (nodes : Int) (S : List Tr) (sv lv : Value) (R : List Pcl) (k : Nat) (w : World) : Prop :=
  B ≤ b ∧ Blk w b 60 #[.int .i64 nodes, sv, lv, .int .i64 k] ∧ w.ownsRow B 42 3 sv S.length (S.flatMap tc) ∧ w.ownsRow B 69 5 lv R.length (R.flatMap pc)
theorem RefAt.only {B b : Nat} {nodes : Int} {S : List Tr} {sv lv : Value} {R : List Pcl} {k : Nat} {w w' : World} {C : Nat → Prop} (h : RefAt B b nodes S sv lv R k w) (hc : Only C w w')
    (h1 : ¬ C b) (h2 : ∀ g, sv.ownBlock = some g → ¬ C g) (h3 : ∀ g, lv.ownBlock = some g → ¬ C g) : RefAt B b nodes S sv lv R k w' :=
  ⟨h.1, h.2.1.only hc h1, own_only h.2.2.1 hc h2, own_only h.2.2.2 hc h3⟩
theorem RefAt.none_ {B b : Nat} {nodes : Int} {S : List Tr} {sv lv : Value} {R : List Pcl} {k : Nat} {w w' : World} (h : RefAt B b nodes S sv lv R k w) (hc : Only NoneOf w w') : RefAt B b nodes S sv lv R k w' :=
  h.only hc (fun h => h) (fun _ _ h => h) (fun _ _ h => h)

set_option maxHeartbeats 400000 in
theorem rwaiting_any {B b : Nat} {nodes : Int} {S : List Tr} {sv lv : Value} {R : List Pcl} {k : Nat} {w : World} (h : RefAt B b nodes S sv lv R k w) :
    Calls Try.prog 19 #[.pointer (some ⟨b, 0, none⟩)] w fun e w' => e = .returned (.int .i64 R.length) ∧ w = w' := by
  obtain ⟨A, cap, rfl, _, _⟩ := own_form' h.2.2.2
  have c2 := h.2.1.cell 2
  simp only [List.getElem?_toArray, List.getElem?_cons_zero, List.getElem?_cons_succ] at c2
  clear h
  go_enter Try.func19, Try.ntmps19
  go_wp2
  go_ret
  exact ⟨rfl, rfl⟩

def RNewPost (nodes : Int) (S : List Tr) (w : World) (e : Ending) (w' : World) : Prop :=
  ∃ b sv, e = .returned (.pointer (some ⟨b, 0, none⟩)) ∧ RefAt w.heap.size b nodes S sv (.slice none 0 0) [] 0 w' ∧ Below w.heap.size w w'
set_option maxHeartbeats 400000 in
theorem rnew_any {B : Nat} (nodes : Int) {v : Value} {S : List Tr} {w : World} (hown : w.ownsRow B 42 3 v S.length (S.flatMap tc)) (_hn : S.length ≤ 1000000) :
    Calls Try.prog 13 #[.int .i64 nodes, v] w (RNewPost nodes S w) := by
  obtain ⟨i0, hi0, hz0, hz1, hz2⟩ := info_parts Try.info42
  obtain ⟨Av, cv, rfl, _, _⟩ := own_form' hown
  have HO := Lib.hid hown
  clear hown
  go_enter Try.func13, Try.ntmps13
  go_wp2_with (at_builtin; refine wpList_append_src rfl _ _ 22 rfl w.heap.size 42 i0 _ 3 24 Try.underlying22 hi0 hz0 hz1 hz2 rfl (by decide) (.slice (some ⟨w.heap.size, 0, none⟩) 0 0) 0 [] rfl (by exact World.ownsRow_made w _ 0 (Nat.le_refl _) (by unfold maxLen; omega) rfl) B (.slice Av S.length cv) S.length (S.flatMap tc) rfl (by exact HO.out.alloc _) (tc_one S) (by rw [maxLen_val]; omega) (by omega) (by simp) ?_; intro v4 w4 hown4 hgrow4; obtain ⟨A4, c4, rfl, _, _⟩ := own_form' hown4; have HO4 := Lib.hid hown4; have HG4 := Lib.hid hgrow4; clear hown4 hgrow4)
  go_ret
  have hb : Below w.heap.size w w4 := ((Below.refl _ w).alloc (Nat.le_refl _) _).grown HG4.out (by simp) (fun k hk => by simp [Value.ownBlock] at hk; omega)
  refine ⟨w4.heap.size, _, rfl, ⟨hb.size, Blk.new _ _ _, ?_, World.ownsRow_nil _ _ _ _⟩, hb.alloc hb.size _⟩
  have := HO4.out.alloc (.cells #[.int .i64 nodes, .slice A4 (0 + S.length) c4, .slice none 0 0, .int .i64 0] 60)
  simpa using this

def addR (p : Pcl) : Nat → List Pcl → List Pcl
  | 0, R => R
  | j + 1, R => addR p j R ++ [{ p with due := p.due + (j : Int) }]
def sendR (nodes : Int) (S : List Tr) (k : Nat) (now fr tgt : Int) (tx : ByteArray) (R : List Pcl) : List Pcl :=
  if Drops nodes (trAt S k) tgt then R else addR ⟨fr, tgt, tx, now + max (trAt S k).delay 0, k⟩ (copies (trAt S k)) R
theorem addR_len (p : Pcl) (R : List Pcl) (j : Nat) : (addR p j R).length = R.length + j := by
  induction j with
  | zero => rfl
  | succ j ih => simp [addR, ih]; omega
theorem addR_perm {p : Pcl} {R M : List Pcl} (h : R.Perm M) (j : Nat) : (addR p j R).Perm (addM p j M) := by
  induction j with
  | zero => exact h
  | succ j ih => exact ((List.perm_append_comm).trans (ih.cons _)).trans (ins_perm _ _).symm
theorem sendR_perm {nodes : Int} {S : List Tr} {k : Nat} {now fr tgt : Int} {tx : ByteArray} {R M : List Pcl} (h : R.Perm M) : (sendR nodes S k now fr tgt tx R).Perm (sendM nodes S k now fr tgt tx M) := by
  unfold sendR sendM
  split
  · exact h
  · exact addR_perm h _
def RSendPost (B b : Nat) (nodes : Int) (S : List Tr) (sv lv : Value) (R' : List Pcl) (k : Nat) (w : World) (e : Ending) (w' : World) : Prop :=
  e = .returned (.tuple #[]) ∧ ∃ lv', RefAt B b nodes S sv lv' R' (k + 1) w' ∧ (lv'.ownBlock = lv.ownBlock ∨ ∃ g, lv'.ownBlock = some g ∧ w.heap.size ≤ g) ∧ Only (fun i => i = b ∨ lv.ownBlock = some i) w w'
theorem trAt_row' {S : List Tr} {k : Nat} (h : 0 < S.length) : ∃ (i : Nat) (t : Tr), i < S.length ∧ (k : Int) % (S.length : Int) = (i : Int) ∧ S[i]? = some t ∧ trAt S k = t := by
  have hil : k % S.length < S.length := Nat.mod_lt _ h
  refine ⟨k % S.length, S[k % S.length], hil, (Int.natCast_emod k S.length).symm, List.getElem?_eq_getElem hil, ?_⟩
  rw [trAt, if_neg (by omega), List.getElem?_eq_getElem hil]; rfl
end Go.Proofs.Ytoaddfmbjehhoaa
