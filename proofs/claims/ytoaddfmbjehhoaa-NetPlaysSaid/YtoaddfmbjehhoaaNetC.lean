/- What is proved here: what container/heap's down does to the waiting copies. Conditions: the slice is the call's own, and short. -/
import Derived.Test.YtoaddfmbjehhoaaNetB
namespace Go.Proofs.Ytoaddfmbjehhoaa
open Go.RowKit

def atP (L : List Pcl) (i : Nat) : Pcl := (L[i]?).getD ⟨0, 0, ByteArray.empty, 0, 0⟩
theorem atP_eq {L : List Pcl} {i : Nat} (h : i < L.length) : L[i]? = some (atP L i) := by
  unfold atP; rw [List.getElem?_eq_getElem h]; rfl
theorem less_at {B g n cap : Nat} {L : List Pcl} (i j : Nat) {w : World} (hown : w.ownsRow B 67 5 (.slice (some ⟨g, 0, none⟩) n cap) n (L.flatMap pc)) (hn : L.length = n) (hb : n ≤ 1000000)
    (hi : i < n) (hj : j < n) :
    Calls Try.prog 44 #[.slice (some ⟨g, 0, none⟩) n cap, .int .i64 i, .int .i64 j] w fun e w' => e = .returned (.bool (lt (atP L i) (atP L j))) ∧ ∃ k, w' = w.drewN k :=
  less_any i j hown hn hb (atP_eq (by omega)) (atP_eq (by omega))

def DownPost (B g n cap m : Nat) (L : List Pcl) (w : World) (e : Ending) (w' : World) : Prop :=
  (∃ r, e = .returned (.bool r)) ∧ ∃ L', w'.ownsRow B 67 5 (.slice (some ⟨g, 0, none⟩) n cap) n (L'.flatMap pc) ∧ L'.Perm L ∧ HeapN L' m ∧ (∀ k : Nat, m ≤ k → L'[k]? = L[k]?) ∧ Only (· = g) w w'
def DownRel (B g n cap m : Nat) (L : List Pcl) (w : World) (i : Nat) (wr : World) : Prop :=
  ∃ L', wr.ownsRow B 67 5 (.slice (some ⟨g, 0, none⟩) n cap) n (L'.flatMap pc) ∧ L'.Perm L ∧ DownTo L' i m ∧ (∀ k : Nat, m ≤ k → L'[k]? = L[k]?) ∧ Only (· = g) w wr

/-- The end of a round: nothing is exchanged. -/
theorem down_end {B g n cap m : Nat} {L L' : List Pcl} {w wr : World} {i j : Nat} (hown : wr.ownsRow B 67 5 (.slice (some ⟨g, 0, none⟩) n cap) n (L'.flatMap pc)) (hp : L'.Perm L) (hd : DownTo L' i m)
    (hk : ∀ k : Nat, m ≤ k → L'[k]? = L[k]?) (ho : Only (· = g) w wr) (hm : m ≤ L'.length) (hmin : ∀ k, 0 < k → k < m → (k - 1) / 2 = i → Ok L' k j) (hj : j < L'.length) (hi : i < L'.length) (hl : lt (atP L' j) (atP L' i) = false) (r : Bool) (c : Nat) :
    DownPost B g n cap m L w (.returned (.bool r)) (wr.drewN c) := by
  refine ⟨⟨r, rfl⟩, L', own_drewN hown _, hp, down_done hd ?_, hk, ho.drewN _⟩
  intro k h0 h1 h2 x y hx hy
  have h3 := hmin k h0 h1 h2 x _ hx (atP_eq hj)
  rw [atP_eq hi] at hy
  cases hy
  exact nlt_trans ((lt_false _ _).1 hl) h3
theorem down_leaf {B g n cap m : Nat} {L L' : List Pcl} {w wr : World} {i : Nat} (hown : wr.ownsRow B 67 5 (.slice (some ⟨g, 0, none⟩) n cap) n (L'.flatMap pc)) (hp : L'.Perm L) (hd : DownTo L' i m)
    (hk : ∀ k : Nat, m ≤ k → L'[k]? = L[k]?) (ho : Only (· = g) w wr) (hm : m ≤ 2 * i + 1) (r : Bool) :
    DownPost B g n cap m L w (.returned (.bool r)) wr :=
  ⟨⟨r, rfl⟩, L', hown, hp, down_done hd (fun k h0 h1 h2 => by omega), hk, ho⟩
theorem down_next {B g n cap m : Nat} {L L' : List Pcl} {w wr w2 : World} {i j : Nat} (hp : L'.Perm L) (hd : DownTo L' i m)
    (hk : ∀ k : Nat, m ≤ k → L'[k]? = L[k]?) (ho : Only (· = g) w wr) (hm : m ≤ L'.length) (hmin : ∀ k, 0 < k → k < m → (k - 1) / 2 = i → Ok L' k j) (hj : j < m) (hj0 : 0 < j) (hpar : (j - 1) / 2 = i) (hl : lt (atP L' j) (atP L' i) = true)
    (hown2 : w2.ownsRow B 67 5 (.slice (some ⟨g, 0, none⟩) n cap) n ((swp L' i j).flatMap pc)) (c : Nat) (ho2 : Only (· = g) (wr.drewN c) w2) : DownRel B g n cap m L w j w2 := by
  have hi : i < m := by omega
  refine ⟨_, hown2, (swp_perm _ _ _).trans hp, down_step hd hm hj0 hj hpar (atP_eq (by omega)) (atP_eq (by omega)) ((lt_iff _ _).1 hl) hmin, ?_, (ho.drewN c).trans ho2⟩
  intro k hmk
  rw [swp_get (by omega) (by omega), if_neg (by omega), if_neg (by omega)]
  exact hk k hmk

set_option maxHeartbeats 1000000 in
theorem down_any {B g n cap m : Nat} {L : List Pcl} (i : Nat) {b o : Nat} {w : World} (hc : w.cell? ⟨b, o, none⟩ = some (.slice (some ⟨g, 0, none⟩) n cap)) (hag : b ≠ g)
    (hown : w.ownsRow B 67 5 (.slice (some ⟨g, 0, none⟩) n cap) n (L.flatMap pc)) (hn : L.length = n) (hb : n ≤ 1000000) (hm : m ≤ n) (hi : i < n) (hup : DownTo L i m) :
    Calls Try.prog 26 #[.iface 75 (.pointer (some ⟨b, o, none⟩)), .int .i64 i, .int .i64 m] w (DownPost B g n cap m L w) := by
  have HC := Lib.hid hc
  have HR : DownRel B g n cap m L w i w := ⟨L, hown, List.Perm.refl _, hup, fun _ _ => rfl, Only.refl _ _⟩
  have HN := Lib.hid hn
  clear hc hown hup hn
  go_enter Try.func26, Try.ntmps26
  go_wp2_with fail
  go_loopw [7] (fun v wr => ∃ i' : Nat, v = .int .i64 i' ∧ i' < n ∧ DownRel B g n cap m L w i' wr) (fun v _ => n - (intOf v).toNat)
  case atStart => exact ⟨i, rfl, hi, HR⟩
  case round =>
    obtain ⟨i', rfl, hi', L', ho, hp, hu, hk, hon⟩ := hrel
    have hlen : L'.length = n := by rw [hp.length_eq]; exact HN.out
    have hcw : wr.cell? ⟨b, o, none⟩ = some (.slice (some ⟨g, 0, none⟩) n cap) := hon.cell_some HC.out hag
    have hl0 := fun k => met_less' (w := wr.drewN k) hcw
    have hl1 := met_less' (w := wr) hcw
    have hs := fun k => met_swap' (w := wr.drewN k) hcw
    have hml : m ≤ L'.length := by omega
    have hown' := Lib.hid ho
    have hu' := Lib.hid hu
    have hp' := Lib.hid hp
    have hk' := Lib.hid hk
    have hon' := Lib.hid hon
    have hlen' := Lib.hid hlen
    clear ho hu hp hon hlen hcw HR hk
    obtain ⟨j1, hj1⟩ : ∃ j : Nat, j = 2 * i' + 1 := ⟨_, rfl⟩
    obtain ⟨j2, hj2⟩ : ∃ j : Nat, j = 2 * i' + 2 := ⟨_, rfl⟩
    have e1 : 2 * (i' : Int) + 1 = (j1 : Int) := by omega
    have e2 : (j1 : Int) + 1 = (j2 : Int) := by omega
    have l1 : 2 * i' + 1 ≤ j1 := by omega
    have l2 : 2 * i' + 2 ≤ j2 := by omega
    have l3 : j1 ≤ 2 * i' + 1 := by omega
    have l4 : j2 ≤ 2 * i' + 2 := by omega
    clear hj1 hj2
    by_cases hlt : j1 < m
    · by_cases hlt2 : j2 < m
      · cases hc : lt (atP L' j2) (atP L' j1)
        · have hmin : Hid (∀ k, 0 < k → k < m → (k - 1) / 2 = i' → Ok L' k j1) := by
            intro k h0 h1 h2 x y hx hy
            have hkk : k = j1 ∨ k = j2 := by omega
            rcases hkk with rfl | rfl
            · rw [hx] at hy; cases hy; exact Lt.irrefl _
            · rw [atP_eq (by omega)] at hx hy; cases hx; cases hy
              exact (lt_false _ _).1 hc
          cases hl : lt (atP L' j1) (atP L' i')
          · go_wp2_with (go_at_call 44; refine (less_at (B := B) (L := L') _ _ (by exact hown'.out) hlen'.out hb (by omega) (by omega)).mono ?_; rintro e w' ⟨rfl, k, rfl⟩)
            go_ret
            exact down_end hown'.out hp'.out hu'.out hk'.out hon'.out hml hmin.out (by omega) (by omega) hl _ _
          · go_wp2_with (first | (go_at_call 44; refine (less_at (B := B) (L := L') _ _ (by exact hown'.out) hlen'.out hb (by omega) (by omega)).mono ?_; rintro e w' ⟨rfl, k, rfl⟩) | (go_at_call 45; refine (swap_all (B := B) (L := L') _ _ (by exact hown'.out) hlen'.out hb (by omega) (by omega)).mono ?_; rintro e w2 ⟨rfl, ho2, hon2⟩))
            go_roundw
            case rel => exact ⟨j1, rfl, by omega, down_next hp'.out hu'.out hk'.out hon'.out hml hmin.out (by omega) (by omega) (by omega) hl ho2 _ hon2⟩
            case measure => simp [intOf]; omega
        · have hmin : Hid (∀ k, 0 < k → k < m → (k - 1) / 2 = i' → Ok L' k j2) := by
            intro k h0 h1 h2 x y hx hy
            have hkk : k = j1 ∨ k = j2 := by omega
            rcases hkk with rfl | rfl
            · rw [atP_eq (by omega)] at hx hy; cases hx; cases hy
              exact nlt_of_lt ((lt_iff _ _).1 hc)
            · rw [hx] at hy; cases hy; exact Lt.irrefl _
          cases hl : lt (atP L' j2) (atP L' i')
          · go_wp2_with (go_at_call 44; refine (less_at (B := B) (L := L') _ _ (by exact hown'.out) hlen'.out hb (by omega) (by omega)).mono ?_; rintro e w' ⟨rfl, k, rfl⟩)
            go_ret
            exact down_end hown'.out hp'.out hu'.out hk'.out hon'.out hml hmin.out (by omega) (by omega) hl _ _
          · go_wp2_with (first | (go_at_call 44; refine (less_at (B := B) (L := L') _ _ (by exact hown'.out) hlen'.out hb (by omega) (by omega)).mono ?_; rintro e w' ⟨rfl, k, rfl⟩) | (go_at_call 45; refine (swap_all (B := B) (L := L') _ _ (by exact hown'.out) hlen'.out hb (by omega) (by omega)).mono ?_; rintro e w2 ⟨rfl, ho2, hon2⟩))
            go_roundw
            case rel => exact ⟨j2, rfl, by omega, down_next hp'.out hu'.out hk'.out hon'.out hml hmin.out (by omega) (by omega) (by omega) hl ho2 _ hon2⟩
            case measure => simp [intOf]; omega
      · have hmin : Hid (∀ k, 0 < k → k < m → (k - 1) / 2 = i' → Ok L' k j1) := by
          intro k h0 h1 h2 x y hx hy
          have hkk : k = j1 := by omega
          subst hkk
          rw [hx] at hy; cases hy; exact Lt.irrefl _
        cases hl : lt (atP L' j1) (atP L' i')
        · go_wp2_with (go_at_call 44; refine (less_at (B := B) (L := L') _ _ (by exact hown'.out) hlen'.out hb (by omega) (by omega)).mono ?_; rintro e w' ⟨rfl, k, rfl⟩)
          go_ret
          exact down_end hown'.out hp'.out hu'.out hk'.out hon'.out hml hmin.out (by omega) (by omega) hl _ _
        · go_wp2_with (first | (go_at_call 44; refine (less_at (B := B) (L := L') _ _ (by exact hown'.out) hlen'.out hb (by omega) (by omega)).mono ?_; rintro e w' ⟨rfl, k, rfl⟩) | (go_at_call 45; refine (swap_all (B := B) (L := L') _ _ (by exact hown'.out) hlen'.out hb (by omega) (by omega)).mono ?_; rintro e w2 ⟨rfl, ho2, hon2⟩))
          go_roundw
          case rel => exact ⟨j1, rfl, by omega, down_next hp'.out hu'.out hk'.out hon'.out hml hmin.out (by omega) (by omega) (by omega) hl ho2 _ hon2⟩
          case measure => simp [intOf]; omega
    · go_wp2_with fail
      go_ret
      exact down_leaf hown'.out hp'.out hu'.out hk'.out hon'.out (by omega) _
end Go.Proofs.Ytoaddfmbjehhoaa
