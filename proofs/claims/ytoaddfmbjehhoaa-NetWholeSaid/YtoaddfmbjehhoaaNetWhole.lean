/- What is proved here: messages that are not lost arrive as they were sent; those to nodes that do not exist do not. Conditions: the messages that come in read as a list. -/
import Derived.Test.YtoaddfmbjehhoaaNetJ
namespace Go.Proofs.Ytoaddfmbjehhoaa
open Go.RowKit

structure Ms where
  fr : Int
  to : Int
  tx : ByteArray
def mc (m : Ms) : List Value := [.int .i64 m.fr, .int .i64 m.to, .string m.tx]
theorem mc_len (m : Ms) : (mc m).length = 3 := rfl
def whP (L : List Ms) (m dl : Int) (i : Nat) : Option Pcl :=
  match L[i]? with
  | some x => if 0 ≤ x.to ∧ x.to < m then some ⟨x.fr, x.to, x.tx, 10 * i + dl, i⟩ else none
  | none => none
def vF (L : List Ms) (m dl : Int) (k n : Nat) : List Pcl := (List.range' k (n - k)).filterMap (whP L m dl)
theorem vF_nil (L : List Ms) (m dl : Int) (k : Nat) : vF L m dl k k = [] := by simp [vF]
theorem vF_cons (L : List Ms) (m dl : Int) (k n : Nat) (h : k < n) : vF L m dl k n = (match whP L m dl k with | some p => p :: vF L m dl (k + 1) n | none => vF L m dl (k + 1) n) := by
  unfold vF
  rw [show n - k = (n - (k + 1)) + 1 by omega, List.range'_succ, List.filterMap_cons]
  cases whP L m dl k <;> rfl
theorem vF_snoc (L : List Ms) (m dl : Int) (k n : Nat) (h : k ≤ n) : vF L m dl k (n + 1) = vF L m dl k n ++ (whP L m dl n).toList := by
  unfold vF
  rw [show n + 1 - k = (n - k) + 1 by omega, List.range'_concat, List.filterMap_append]
  rw [show k + 1 * (n - k) = n by omega]
  cases h : whP L m dl n <;> simp [h]
theorem whP_due {L : List Ms} {m dl : Int} {i : Nat} {p : Pcl} (h : whP L m dl i = some p) : p.due = 10 * i + dl ∧ p.sent = i := by
  unfold whP at h
  split at h
  · split at h
    · cases h; exact ⟨rfl, rfl⟩
    · cases h
  · cases h
theorem vF_mem {L : List Ms} {m dl : Int} {k n : Nat} {p : Pcl} (h : p ∈ vF L m dl k n) : ∃ i, k ≤ i ∧ i < n ∧ whP L m dl i = some p := by
  unfold vF at h
  obtain ⟨i, hi, hp⟩ := List.mem_filterMap.1 h
  rw [List.mem_range'_1] at hi
  exact ⟨i, hi.1, by omega, hp⟩
theorem vF_len (L : List Ms) (m dl : Int) (k n : Nat) : (vF L m dl k n).length ≤ n - k := by
  unfold vF
  have := List.length_filterMap_le (whP L m dl) (List.range' k (n - k))
  simpa using this
theorem ins_last {p : Pcl} {M : List Pcl} (h : ∀ q ∈ M, ¬ Lt p q) : ins p M = M ++ [p] := by
  induction M with
  | nil => rfl
  | cons q M ih =>
    have hl : lt p q = false := (lt_false _ _).2 (h q (List.mem_cons_self ..))
    simp [ins, hl, ih (fun r hr => h r (List.mem_cons_of_mem _ hr))]
def whS (dl : Int) : List Tr := [⟨false, 0, dl⟩]
theorem whS_at (dl : Int) (k : Nat) : trAt (whS dl) k = ⟨false, 0, dl⟩ := by
  unfold trAt whS
  rw [if_neg (by simp)]
  have h : k % [(⟨false, 0, dl⟩ : Tr)].length = 0 := by simp [Nat.mod_one]
  rw [h]; rfl
theorem wh_send (L : List Ms) (m dl : Int) (k : Nat) (x : Ms) (hx : L[k]? = some x) (hd : 0 ≤ dl) : sendM m (whS dl) k (10 * k) x.fr x.to x.tx (vF L m dl 0 k) = vF L m dl 0 (k + 1) := by
  rw [vF_snoc L m dl 0 k (by omega)]
  unfold sendM
  rw [whS_at]
  have hc : copies ⟨false, 0, dl⟩ = 1 := by show (min (max (0 : Int) 1) 8).toNat = 1; decide
  rw [hc]
  by_cases hdr : Drops m ⟨false, 0, dl⟩ x.to
  · rw [if_pos hdr]
    have : whP L m dl k = none := by
      unfold whP
      rw [hx]
      simp only
      rw [if_neg]
      unfold Drops at hdr
      simp at hdr
      omega
    simp [this]
  · rw [if_neg hdr]
    have hv : 0 ≤ x.to ∧ x.to < m := by unfold Drops at hdr; simp at hdr; omega
    have : whP L m dl k = some ⟨x.fr, x.to, x.tx, 10 * k + dl, k⟩ := by
      unfold whP
      rw [hx]
      simp only
      rw [if_pos hv]
    rw [this]
    have hmx : max dl 0 = dl := by omega
    simp only [addM, hmx, Int.natCast_zero, Int.add_zero]
    rw [ins_last]
    · simp
    · intro q hq
      obtain ⟨i, _, hi, hp⟩ := vF_mem hq
      obtain ⟨h1, h2⟩ := whP_due hp
      unfold Lt
      simp only
      omega

theorem Arg.take {α : Type} {f : α → List Value} {s : Nat} {w : World} {A : Option Addr} {n : Nat} {L : List α} (h : Arg f s w A n L) (k : Nat) (hk : k ≤ n) : Arg f s w A k (L.take k) := by
  refine ⟨by rw [List.length_take, h.1]; omega, fun i t ht => ?_⟩
  rw [List.getElem?_take] at ht
  split at ht
  · exact h.2 i t ht
  · cases ht
def WhSend (w : World) (b : Nat) (m dl : Int) (L : List Ms) (k : Nat) (wr : World) : Prop := Nt w.heap.size b m (whS dl) (vF L m dl 0 k) k wr ∧ Below w.heap.size w wr
def WhNext (w : World) (b : Nat) (m dl : Int) (L : List Ms) (n k : Nat) (wr : World) : Prop := Nt w.heap.size b m (whS dl) (vF L m dl k n) n wr ∧ Below w.heap.size w wr

set_option maxHeartbeats 1000000 in
theorem whole_any {A : Option Addr} {n c : Nat} {L : List Ms} {w : World} (nd de : Int) (ha : Arg mc 3 w A n L) (hn : n ≤ maxLen) (hc : n ≤ c) (hn1 : 0 ≤ nd ∧ nd ≤ 255) (hd1 : 0 ≤ de ∧ de ≤ 65535) :
    Calls Try.prog 6 #[.slice A n c, .int .u8 nd, .int .u16 de] w fun e w' => e = .returned (.bool true) ∧ Below w.heap.size w w' := by
  obtain ⟨n', hn'⟩ : ∃ n', n' = min n 30 := ⟨_, rfl⟩
  have hA := ha.take n' (by omega)
  have hl30 : n' ≤ 30 := by omega
  have hmn : (if (30 : Int) < (n : Int) then 30 else (n : Int)) = (n' : Int) := by omega
  have hn'n : n' ≤ n := by omega
  have hn'c : n' ≤ c := by omega
  generalize L.take n' = L' at hA
  obtain ⟨n1, n2⟩ := hn1
  obtain ⟨d1, d2⟩ := hd1
  rw [maxLen_val] at hn
  have HA := Lib.hid hA
  clear ha hA hn'
  have hm1 : 0 ≤ nd % 5 := by omega
  have hm2 : nd % 5 ≤ 4 := by omega
  have hdl1 : 0 ≤ de % 1000 := by omega
  have hdl2 : de % 1000 ≤ 999 := by omega
  go_enter Try.func6, Try.ntmps6
  go_wp2_with fail
  refine (sanity_any _).mono ?_
  rintro e w1 ⟨rfl, hb1⟩
  have HB1 := Lib.hid hb1
  clear hb1
  go_wp2_with fail
  refine (nt_new (B := w.heap.size) (S := whS (de % 1000)) (nd % 5) (by exact World.ownsRow_lit (base := w.heap.size) (e := 42) (size := 3) w1 #[.bool false, .int .i64 0, .int .i64 (de % 1000)] 1 HB1.out.size (by rw [maxLen_val]; omega) rfl) (by simp [whS])).mono ?_
  rintro e w2 ⟨b, rfl, hN2, hb2⟩
  generalize nd % 5 = m at *
  have e3 : de.tmod 1000 = de % 1000 := Int.tmod_eq_emod_of_nonneg d1
  have e4 : IntKind.u16.wrap (de % 1000) = de % 1000 := IntWalk.u16_in _ (by omega)
  have e5 : IntKind.i64.wrap (de % 1000) = de % 1000 := IntWalk.i64_in _ (by omega)
  generalize de % 1000 = dl at *
  have E3 := Lib.hid e3
  have E4 := Lib.hid e4
  have E5 := Lib.hid e5
  clear e3 e4 e5
  have hR : WhSend w b m dl L' 0 w2 := ⟨by rw [vF_nil]; exact hN2.base (by have := HB1.out.size; simp; omega), (HB1.out.alloc HB1.out.size _).trans (hb2.mono (by have := HB1.out.size; simp; omega))⟩
  clear hN2 hb2 HB1
  go_wp2_with fail
  go_loopw [10] (fun v wr => ∃ k : Nat, v = .int .i64 k ∧ k ≤ n' ∧ WhSend w b m dl L' k wr) (fun v _ => n' - (intOf v).toNat)
  case atStart => exact ⟨0, rfl, by omega, hR⟩
  case round =>
    obtain ⟨k, rfl, hk, hN, hb⟩ := hrel
    clear hR
    by_cases hlt : k < n'
    · obtain ⟨x, hx⟩ : ∃ x, L'[k]? = some x := ⟨_, List.getElem?_eq_getElem (by rw [HA.out.1]; exact hlt)⟩
      obtain ⟨bk, off, rfl, hbk, hc'⟩ := (HA.out.keep (hb.mono (Nat.le_refl _))).2 k x hx
      have c0 := hc' 0 (by omega)
      have c1 := hc' 1 (by omega)
      have c2 := hc' 2 (by omega)
      simp only [mc, List.getElem?_cons_zero, List.getElem?_cons_succ, Nat.add_zero] at c0 c1 c2
      have hP := nt_send hN (10 * k) x.fr x.to x.tx hb.size (by simp [whS]) (by omega) (by have := vF_len L' m dl 0 k; omega) (by omega) (by omega) (by rw [whS_at]; simp only; omega)
      rw [wh_send L' m dl k x hx hdl1] at hP
      unfold msg at hP
      have HP := Lib.hid hP
      have HB := Lib.hid hb
      clear hP hN hb hc' hx
      go_wp2_with (go_at_call 14; refine HP.out.mono ?_; rintro e w3 ⟨rfl, hN3, hb3, _⟩)
      go_roundw
      case rel => exact ⟨k + 1, by go_num, by omega, hN3, HB.out.trans hb3⟩
      case measure => simp [intOf]; omega
    · obtain rfl : k = n' := by omega
      have hR2 : WhNext w b m dl L' k 0 wr := ⟨hN, hb⟩
      clear hN hb
      go_wp2_with fail
      go_loopw [11] (fun v wr => ∃ j : Nat, v = .int .i64 j ∧ j ≤ k ∧ WhNext w b m dl L' k j wr) (fun v _ => k - (intOf v).toNat)
      case atStart => exact ⟨0, rfl, by omega, hR2⟩
      case round =>
        obtain ⟨j, rfl, hj, hN, hb⟩ := hrel
        clear hR2
        by_cases hlt : j < k
        · obtain ⟨x, hx⟩ : ∃ x, L'[j]? = some x := ⟨_, List.getElem?_eq_getElem (by rw [HA.out.1]; exact hlt)⟩
          obtain ⟨bk, off, rfl, hbk, hc'⟩ := HA.out.2 j x hx
          have c0 := (hb.cell (p := ⟨bk, off + j * 3 + 0, none⟩) hbk).trans (hc' 0 (by omega))
          have c1 := (hb.cell (p := ⟨bk, off + j * 3 + 1, none⟩) hbk).trans (hc' 1 (by omega))
          have c2 := (hb.cell (p := ⟨bk, off + j * 3 + 2, none⟩) hbk).trans (hc' 2 (by omega))
          simp only [mc, List.getElem?_cons_zero, List.getElem?_cons_succ, Nat.add_zero] at c0 c1 c2
          have hcons := vF_cons L' m dl j k hlt
          by_cases hv : 0 ≤ x.to ∧ x.to < m
          · obtain ⟨v1, v2⟩ := hv
            have hwp : whP L' m dl j = some ⟨x.fr, x.to, x.tx, 10 * j + dl, j⟩ := by unfold whP; rw [hx]; simp only; rw [if_pos ⟨v1, v2⟩]
            rw [hwp] at hcons
            simp only at hcons
            rw [hcons] at hN
            have hP := nt_next hN (by have := vF_len L' m dl (j + 1) k; simp; omega)
            rw [show gotV (⟨x.fr, x.to, x.tx, 10 * j + dl, j⟩ :: vF L' m dl (j + 1) k) = .tuple #[.agg #[.int .i64 x.fr, .int .i64 x.to, .string x.tx], .int .i64 (10 * j + dl), .bool true] from rfl] at hP
            have HP := Lib.hid hP
            have HB := Lib.hid hb
            have HC := Lib.hid (And.intro c0 (And.intro c1 c2))
            clear hP hN hb hc' hx hcons hwp
            go_wp2_with (go_at_call 16; refine HP.out.mono ?_; rintro e w3 ⟨rfl, hN3, hb3, _⟩; have d0 := (hb3.cell (p := ⟨bk, off + j * 3, none⟩) hbk).trans HC.out.1; have d1 := (hb3.cell (p := ⟨bk, off + j * 3 + 1, none⟩) hbk).trans HC.out.2.1; have d2 := (hb3.cell (p := ⟨bk, off + j * 3 + 2, none⟩) hbk).trans HC.out.2.2; have hbk3 : bk < w3.heap.size := (by have := hb3.size; have := HB.out.size; omega); have HN3 := Lib.hid hN3; have HB3 := Lib.hid hb3; clear hN3 hb3 c0 c1 c2)
            have e3 := E3.out
            have e4 := E4.out
            have e5 := E5.out
            have q0 : (0 : Int) ≤ (j : Int) := by omega
            have q1 : (j : Int) < (k : Int) := by omega
            have e1 : IntKind.i64.wrap (10 * (j : Int)) = 10 * (j : Int) := IntWalk.i64_in _ (by omega)
            have e2 : IntKind.i64.wrap (10 * (j : Int) + dl) = 10 * (j : Int) + dl := IntWalk.i64_in _ (by omega)
            go_quiet (fail)
            go_wp2_with fail
            go_roundw
            case rel =>
              exact ⟨j + 1, by go_num, by omega, (HN3.out.only ((Only.refl NoneOf _).alloc _)).only ((Only.refl NoneOf _).drewN _), below_drewN ((HB.out.trans HB3.out).alloc (by have := HB.out.size; have := HB3.out.size; omega) _) _⟩
            case measure => simp [intOf]; omega
          · have hwp : whP L' m dl j = none := by unfold whP; rw [hx]; simp only; rw [if_neg hv]
            rw [hwp] at hcons
            simp only at hcons
            rw [hcons] at hN
            have HN := Lib.hid hN
            have HB := Lib.hid hb
            have hbk' : bk < wr.heap.size := by have := hb.size; omega
            clear hN hb hc' hx hcons hwp
            by_cases h0 : x.to < 0
            · clear hv
              go_wp2_with fail
              go_roundw
              case rel => exact ⟨j + 1, by go_num, by omega, HN.out, HB.out⟩
              case measure => simp [intOf]; omega
            · have h1 : m ≤ x.to := by omega
              clear hv
              go_wp2_with fail
              go_roundw
              case rel => exact ⟨j + 1, by go_num, by omega, HN.out, HB.out⟩
              case measure => simp [intOf]; omega
        · obtain rfl : j = k := by omega
          rw [vF_nil] at hN
          have HN := Lib.hid hN
          have HB := Lib.hid hb
          clear hN hb
          go_wp2_with (go_at_call 18; refine (nt_waiting HN.out).mono ?_; rintro e w3 ⟨rfl, rfl⟩)
          go_ret
          exact ⟨rfl, HB.out⟩
end Go.Proofs.Ytoaddfmbjehhoaa
