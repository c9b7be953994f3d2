/- What is proved here: what container/heap's up and down do to the waiting copies. Conditions: the slice is the call's own, and short. -/
import Derived.Test.YtoaddfmbjehhoaaNetA
namespace Go.Proofs.Ytoaddfmbjehhoaa
open Go.RowKit

def UpPost (B g n cap : Nat) (L : List Pcl) (w : World) (e : Ending) (w' : World) : Prop :=
  e = .returned (.tuple #[]) ∧ ∃ L', w'.ownsRow B 67 5 (.slice (some ⟨g, 0, none⟩) n cap) n (L'.flatMap pc) ∧ L'.Perm L ∧ IsHeap L' ∧ Only (· = g) w w'
def UpRel (B g n cap : Nat) (L : List Pcl) (w : World) (j : Nat) (wr : World) : Prop :=
  ∃ L', wr.ownsRow B 67 5 (.slice (some ⟨g, 0, none⟩) n cap) n (L'.flatMap pc) ∧ L'.Perm L ∧ UpTo L' j ∧ Only (· = g) w wr

set_option maxHeartbeats 400000 in
theorem up_any {B g n cap : Nat} {L : List Pcl} (j : Nat) {b o : Nat} {w : World} (hc : w.cell? ⟨b, o, none⟩ = some (.slice (some ⟨g, 0, none⟩) n cap)) (hag : b ≠ g)
    (hown : w.ownsRow B 67 5 (.slice (some ⟨g, 0, none⟩) n cap) n (L.flatMap pc)) (hn : L.length = n) (hb : n ≤ 1000000) (hj : j < n) (hup : UpTo L j) :
    Calls Try.prog 25 #[.iface 75 (.pointer (some ⟨b, o, none⟩)), .int .i64 j] w (UpPost B g n cap L w) := by
  have HC := Lib.hid hc
  have HR : UpRel B g n cap L w j w := ⟨L, hown, List.Perm.refl _, hup, Only.refl _ _⟩
  have HN := Lib.hid hn
  clear hc hown hup hn
  go_enter Try.func25, Try.ntmps25
  go_wp2_with fail
  go_loopw [1] (fun v wr => ∃ j' : Nat, v = .int .i64 j' ∧ j' < n ∧ UpRel B g n cap L w j' wr) (fun v _ => (intOf v).toNat)
  case atStart => exact ⟨j, rfl, hj, HR⟩
  case round =>
    obtain ⟨j', rfl, hj', L', ho, hp, hu, hon⟩ := hrel
    have hlen : L'.length = n := by rw [hp.length_eq]; exact HN.out
    have hcw : wr.cell? ⟨b, o, none⟩ = some (.slice (some ⟨g, 0, none⟩) n cap) := hon.cell_some HC.out hag
    have hm := met_less' hcw
    have hs := fun k => met_swap' (w := wr.drewN k) hcw
    have hown' := Lib.hid ho
    have hu' := Lib.hid hu
    have hp' := Lib.hid hp
    have hon' := Lib.hid hon
    have hlen' := Lib.hid hlen
    clear ho hu hp hon hlen hcw HR
    rcases Nat.eq_zero_or_pos j' with h0 | h0
    · subst h0
      go_wp2_with fail
      go_end0
      exact ⟨rfl, L', hown'.out, hp'.out, up_done hu'.out (.inl rfl), hon'.out⟩
    · obtain ⟨i, hi⟩ : ∃ i : Nat, i = (j' - 1) / 2 := ⟨_, rfl⟩
      have e : ((j' : Int) - 1) / 2 = (i : Int) := by omega
      have hi1 : 2 * i + 1 ≤ j' := by omega
      have hi2 : j' ≤ 2 * i + 2 := by omega
      have hne : ((i : Int) == (j' : Int)) = false := by simp; omega
      have hpj := List.getElem?_eq_getElem (l := L') (i := j') (by have := hlen'.out; omega)
      have hpi := List.getElem?_eq_getElem (l := L') (i := i) (by have := hlen'.out; omega)
      generalize L'[j']'(by have := hlen'.out; omega) = p at hpj
      generalize L'[i]'(by have := hlen'.out; omega) = q at hpi
      have hpj' := Lib.hid hpj
      have hpi' := Lib.hid hpi
      have hii := Lib.hid hi
      clear hi hpj hpi
      cases hl : lt p q
      · go_wp2_with (first | (go_at_call 44; refine (less_any j' i hown'.out hlen'.out hb hpj'.out hpi'.out).mono ?_; rintro e w' ⟨rfl, k, rfl⟩))
        go_end0
        refine ⟨rfl, L', own_drewN hown'.out _, hp'.out, up_done hu'.out (.inr ?_), hon'.out.drewN _⟩
        rw [← hii.out]
        intro x y hx hy
        rw [hpj'.out] at hx; rw [hpi'.out] at hy
        cases hx; cases hy
        exact (lt_false _ _).1 hl
      · go_wp2_with (first | (go_at_call 44; refine (less_any j' i hown'.out hlen'.out hb hpj'.out hpi'.out).mono ?_; rintro e w' ⟨rfl, k, rfl⟩) | (go_at_call 45; refine (swap_all i j' (own_drewN hown'.out _) hlen'.out hb (by omega) hj').mono ?_; rintro e w2 ⟨rfl, ho2, hon2⟩))
        go_roundw
        case rel =>
          refine ⟨i, rfl, by omega, _, ho2, (swp_perm _ _ _).trans hp'.out, ?_, (hon'.out.drewN _).trans hon2⟩
          have := up_step hu'.out h0 hpj'.out (by rw [← hii.out]; exact hpi'.out) ((lt_iff _ _).1 hl)
          rw [← hii.out] at this
          exact this
        case measure => simp [intOf]; omega
end Go.Proofs.Ytoaddfmbjehhoaa
