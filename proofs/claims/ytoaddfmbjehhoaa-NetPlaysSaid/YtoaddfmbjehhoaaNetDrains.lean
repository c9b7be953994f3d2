/- What is proved here: after all messages, the copies come in the order of their times until none is left. Conditions: the script and the times that come in read as lists. -/
import Derived.Test.YtoaddfmbjehhoaaNetAlone
namespace Go.Proofs.Ytoaddfmbjehhoaa
open Go.RowKit

def tAt (T : List Int) (k : Nat) : Int := T.getD k 0
def drM (S : List Tr) (T : List Int) : Nat → List Pcl
  | 0 => []
  | k + 1 => sendM 1 S k (tAt T k) k 0 ⟨#[]⟩ (drM S T k)
def cpN (t : Tr) : Nat := if t.lost = true then 0 else copies t
theorem dr_send_len (S : List Tr) (k : Nat) (now fr : Int) (tx : ByteArray) (M : List Pcl) : (sendM 1 S k now fr 0 tx M).length = M.length + cpN (trAt S k) := by
  unfold sendM cpN
  by_cases h : (trAt S k).lost = true
  · rw [if_pos (.inl h), if_pos h]; rfl
  · rw [if_neg (by unfold Drops; simp; simpa using h), if_neg h, addM_len]
theorem cpN_le (t : Tr) : cpN t ≤ 8 := by unfold cpN copies; split <;> omega
theorem drM_len (S : List Tr) (T : List Int) (k : Nat) : (drM S T k).length ≤ 8 * k := by
  induction k with
  | zero => simp [drM]
  | succ k ih => unfold drM; rw [dr_send_len]; have := cpN_le (trAt S k); omega
theorem drM_mem (S : List Tr) (T : List Int) (k : Nat) : ∀ p ∈ drM S T k, ∃ i : Nat, i < k ∧ p.fr = i ∧ p.sent = i ∧ tAt T i ≤ p.due := by
  induction k with
  | zero => intro p hp; cases hp
  | succ k ih =>
    intro p hp
    unfold drM sendM at hp
    split at hp
    · obtain ⟨i, h1, h2⟩ := ih p hp
      exact ⟨i, by omega, h2⟩
    · rcases addM_mem _ _ _ p hp with h | ⟨j, _, rfl⟩
      · obtain ⟨i, h1, h2⟩ := ih p h
        exact ⟨i, by omega, h2⟩
      · refine ⟨k, by omega, rfl, rfl, ?_⟩
        simp only
        omega
theorem nt_sorted {B b : Nat} {nodes : Int} {S : List Tr} {M : List Pcl} {k : Nat} {W : World} (h : Nt B b nodes S M k W) : Sorted M := by
  obtain ⟨sv, wv, h⟩ := h
  exact h.2.1.2.2.1
def DrSend (w : World) (B b : Nat) (S : List Tr) (T : List Int) (v : Value) (k : Nat) (wr : World) : Prop :=
  Nt B b 1 S (drM S T k) k wr ∧ B ≤ wr.heap.size ∧ wr.ownsRow w.heap.size 42 3 v S.length (S.flatMap tc) ∧ Below w.heap.size w wr
def Ahead (last first : Int) (M : List Pcl) : Prop := ∀ p ∈ M, last < p.due ∨ last = p.due ∧ first < p.sent
def DrNext (w : World) (b : Nat) (S : List Tr) (T : List Int) (kk n1 i : Nat) (last first : Int) (wr : World) : Prop :=
  ∃ M : List Pcl, M.length + i = (drM S T kk).length ∧ Nt w.heap.size b 1 S M kk wr ∧ Below w.heap.size w wr ∧ Ahead last first M ∧ ∀ p ∈ M, ∃ i : Nat, i < n1 ∧ p.fr = i ∧ p.sent = i ∧ tAt T i ≤ p.due ∧ 0 ≤ p.due
theorem trAt_row {S : List Tr} {k : Nat} (h : 0 < S.length) : ∃ (i : Nat) (t : Tr), i < S.length ∧ (k : Int) % (S.length : Int) = (i : Int) ∧ S[i]? = some t ∧ trAt S k = t := by
  have hil : k % S.length < S.length := Nat.mod_lt _ h
  refine ⟨k % S.length, S[k % S.length], hil, (Int.natCast_emod k S.length).symm, List.getElem?_eq_getElem hil, ?_⟩
  rw [trAt, if_neg (by omega), List.getElem?_eq_getElem hil]; rfl

theorem own_cellAt' {w : World} {base g n m cap : Nat} {e : TypeId} {size : Nat} {xs : List Value} (h : w.ownsRow base e size (.slice (some ⟨g, 0, none⟩) m cap) n xs) (j : Nat) (hj : j < n * size) : w.cell? ⟨g, j, none⟩ = xs[j]? := by
  have hmn : m = n := by
    rcases h.2 with ⟨hv, _⟩ | ⟨g', cap', cur, hv, _⟩
    · simp at hv
    · injection hv
  subst hmn
  exact h.cellAt j hj

set_option maxRecDepth 100000 in
set_option maxHeartbeats 1000000 in
theorem drains_any {A A1 : Option Addr} {n c n1 c1 : Nat} {L : List Tr} {T : List Int} {w : World} (ha : Arg tc 3 w A n L) (hn : n ≤ maxLen) (hat : Arg uc 1 w A1 n1 T) (hn1 : n1 ≤ maxLen) (hT : ∀ t ∈ T, 0 ≤ t ∧ t ≤ 65535) :
    Calls Try.prog 4 #[.slice A n c, .slice A1 n1 c1] w fun e w' => e = .returned (.bool true) ∧ Below w.heap.size w w' := by
  have HA := Lib.hid ha
  have HN := Lib.hid hn
  have HA1 := Lib.hid hat
  have HT := Lib.hid hT
  rw [maxLen_val] at hn1
  clear ha hn hat hT
  go_enter Try.func4, Try.ntmps4
  go_wp2_with fail
  refine (sanity_any _).mono ?_
  rintro e w1 ⟨rfl, hb1⟩
  have HB1 := Lib.hid hb1
  clear hb1
  go_wp2_with fail
  refine (script_any (HA.out.keep HB1.out) HN.out).mono ?_
  rintro e w2 ⟨v, rfl, ho2, hb2⟩
  have hsl : (sc L).length ≤ 12 := by rw [sc_len]; omega
  have HSD := Lib.hid (sc_trAt L)
  have hB2 : Below w.heap.size w w2 := HB1.out.trans (hb2.mono HB1.out.size)
  have ho2' := own_base ho2 HB1.out.size
  generalize sc L = S at *
  have HO2 := Lib.hid ho2'
  have HB2 := Lib.hid hB2
  clear ho2 hb2 ho2' hB2 HB1 HA HN
  obtain ⟨ls, hls⟩ : ∃ ls, ls = S.length := ⟨_, rfl⟩
  have hls12 : ls ≤ 12 := by omega
  obtain ⟨Av, cv, hv, hcv, _⟩ := own_form' HO2.out
  rw [← hls] at hv hcv
  subst hv
  have HLS := Lib.hid hls
  clear hls
  go_wp2_with fail
  refine (nt_new 1 HO2.out (by omega)).mono ?_
  rintro e w3 ⟨b, rfl, hN3, hb3⟩
  have hR : DrSend w w2.heap.size b S T (.slice Av ls cv) 0 w3 := ⟨hN3, hb3.size, own_only HO2.out (Only.of_below hb3 NoneOf) (fun _ _ h => h), HB2.out.trans (hb3.mono HB2.out.size)⟩
  have HLOW := Lib.hid (fun g (hg : (Value.slice Av ls cv).ownBlock = some g) => (HO2.out.lt g hg).2)
  have HSZ := Lib.hid HB2.out.size
  have HR := Lib.hid hR
  clear hN3 hb3 hR HO2 HB2
  generalize w2.heap.size = B at *
  go_wp2_with fail
  go_loopw [8, 9] (fun v8 v wr => ∃ k : Nat, v = .int .i64 k ∧ k ≤ n1 ∧ k ≤ 40 ∧ v8 = .int .i64 (drM S T k).length ∧ DrSend w B b S T (.slice Av ls cv) k wr) (fun _ v _ => 40 - (intOf v).toNat)
  case atStart => exact ⟨0, rfl, by omega, by omega, rfl, HR.out⟩
  case round =>
    clear HR
    obtain ⟨k, rfl, hk, hk40, rfl, hN, hsz, ho, hb⟩ := hrel
    have hml := drM_len S T k
    by_cases hlt : k < n1 ∧ k < 40
    · obtain ⟨hlt1, hlt2⟩ := hlt
      obtain ⟨t, ht⟩ : ∃ t, T[k]? = some t := ⟨_, List.getElem?_eq_getElem (by rw [HA1.out.1]; exact hlt1)⟩
      obtain ⟨bk, off, rfl, hbk, hc'⟩ := HA1.out.2 k t ht
      have c0 := (hb.cell (p := ⟨bk, off + k * 1 + 0, none⟩) hbk).trans (hc' 0 (by omega))
      simp only [uc, List.getElem?_cons_zero, Nat.add_zero, Nat.mul_one] at c0
      obtain ⟨t1, t2⟩ := HT.out t (List.mem_of_getElem? ht)
      have htk : tAt T k = t := by unfold tAt; rw [List.getD_eq_getElem?_getD, ht]; rfl
      have h1 := nt_send hN t k 0 ⟨#[]⟩ hsz (by omega) (by omega) (by omega) (by omega) (by omega) (HSD.out k)
      have hM' : sendM 1 S k t k 0 ⟨#[]⟩ (drM S T k) = drM S T (k + 1) := by conv => rhs; unfold drM; rw [htk]
      have hlen : ((drM S T (k + 1)).length : Int) = ((drM S T k).length : Int) + (cpN (trAt S k) : Int) := by rw [← hM', dr_send_len]; omega
      rw [hM'] at h1
      simp only [msg] at h1
      have H1 := Lib.hid h1
      have HB := Lib.hid hb
      have HO := Lib.hid ho
      have HLEN := Lib.hid hlen
      clear h1 hN hb ho hc' ht htk hM' hlen
      go_wp2_with fail
      refine H1.out.mono ?_
      rintro e w4 ⟨rfl, hN4, hb4, _⟩
      have ho4 : w4.ownsRow w.heap.size 42 3 (.slice Av ls cv) S.length (S.flatMap tc) := own_only HO.out (⟨hb4.os, hb4.tape, hb4.output, hb4.size, fun i hi hn => hb4.block i (by
        by_cases h : i < B
        · exact h
        · exact absurd (show B ≤ i by omega) hn)⟩ : Only (fun i => B ≤ i) wr w4) (fun g hg hB => by have := HLOW.out g hg; omega)
      have hR4 : DrSend w B b S T (.slice Av ls cv) (k + 1) w4 := ⟨hN4, by have := hb4.size; omega, ho4, HB.out.trans (hb4.mono HSZ.out)⟩
      have HR4 := Lib.hid hR4
      by_cases hl0 : ls = 0
      · have hcp : cpN (trAt S k) = 1 := by rw [show trAt S k = ⟨false, 1, 1⟩ from if_pos (by rw [← HLS.out]; exact hl0)]; rfl
        have hlen := HLEN.out
        rw [hcp] at hlen
        have HLEN' := Lib.hid hlen
        have hlz : ¬ (0 : Int) < (ls : Int) := by omega
        clear hN4 hb4 ho4 hR4 hlen hcp HLEN hl0
        go_wp2_with fail
        go_roundw
        case rel => exact ⟨k + 1, by go_num, by omega, by omega, by rw [HLEN'.out]; rfl, HR4.out⟩
        case measure => simp [intOf]; omega
      · obtain ⟨i, tr, hi, ei, hget, htr⟩ := trAt_row (S := S) (k := k) (by have := HLS.out; omega)
        rw [← HLS.out] at hi ei
        obtain ⟨g, cap', he, hg1, hg2, _, _⟩ := own_form ho4 (by have := HLS.out; omega)
        have he1 : Av = some ⟨g, 0, none⟩ := by injection he
        subst he1
        have d0 := (own_cellAt' ho4 (i * 3 + 0) (by have := HLS.out; omega)).trans (flat_get tc_len S i 0 (by omega) tr hget)
        have d1 := (own_cellAt' ho4 (i * 3 + 1) (by have := HLS.out; omega)).trans (flat_get tc_len S i 1 (by omega) tr hget)
        simp only [tc, List.getElem?_cons_zero, List.getElem?_cons_succ, Nat.add_zero] at d0 d1
        have hpos : 0 < ls := by omega
        have hl0' : (((ls : Nat) : Int) == 0) = false := beq_eq_false_iff_ne.2 (by omega)
        rw [htr] at HLEN
        obtain ⟨lost, cp, dl⟩ := tr
        obtain ⟨cm, hcm⟩ : ∃ d, d = max cp 1 := ⟨_, rfl⟩
        have hcm3 : (if cp < 1 then 1 else cp) = cm := by omega
        obtain ⟨cn, hcn⟩ : ∃ c, c = copies ⟨lost, cp, dl⟩ := ⟨_, rfl⟩
        have hcn1 : 1 ≤ cn := by rw [hcn]; simp only [copies]; omega
        have hcn2 : cn ≤ 8 := by rw [hcn]; simp only [copies]; omega
        have hcn3 : (if 8 < cm then 8 else cm) = (cn : Int) := by rw [hcn, hcm]; simp only [copies]; omega
        simp only at d0 d1
        cases lost with
        | true =>
          have hlen := HLEN.out
          rw [show cpN ⟨true, cp, dl⟩ = 0 from rfl] at hlen
          have HLEN' := Lib.hid hlen
          clear hN4 hb4 ho4 hR4 hlen HLEN he hget htr hcn hcm hl0
          go_wp2_with fail
          go_roundw
          case rel => exact ⟨k + 1, by go_num, by omega, by omega, by rw [HLEN'.out]; simp, HR4.out⟩
          case measure => simp [intOf]; omega
        | false =>
          have hlen := HLEN.out
          rw [show cpN ⟨false, cp, dl⟩ = copies ⟨false, cp, dl⟩ from rfl, ← hcn] at hlen
          have HLEN' := Lib.hid hlen
          clear hN4 hb4 ho4 hR4 hlen HLEN he hget htr hcn hcm hl0
          go_wp2_with fail
          go_roundw
          case rel => exact ⟨k + 1, by go_num, by omega, by omega, by rw [HLEN'.out], HR4.out⟩
          case measure => simp [intOf]; omega
    · have hmem : ∀ p ∈ drM S T k, ∃ i : Nat, i < n1 ∧ p.fr = i ∧ p.sent = i ∧ tAt T i ≤ p.due ∧ 0 ≤ p.due := by
        intro p hp
        obtain ⟨i, h1, h2, h3, h4⟩ := drM_mem S T k p hp
        refine ⟨i, by omega, h2, h3, h4, ?_⟩
        have hiT : i < T.length := by rw [HA1.out.1]; omega
        have h5 : tAt T i = T[i] := by unfold tAt; rw [List.getD_eq_getElem?_getD, List.getElem?_eq_getElem hiT]; rfl
        have := (HT.out T[i] (List.getElem_mem hiT)).1
        omega
      have hR2 : DrNext w b S T k n1 0 (-1) (-1) wr := ⟨drM S T k, by omega, hN.base HSZ.out, hb, fun p hp => .inl (by obtain ⟨_, _, _, _, _, h0⟩ := hmem p hp; omega), hmem⟩
      have HR2 := Lib.hid hR2
      have HN := Lib.hid hN
      have HB := Lib.hid hb
      have hml2 : (drM S T k).length ≤ 320 := by omega
      generalize hmany : (drM S T k).length = many at *
      have HMANY := Lib.hid hmany
      clear hN hb ho hR2 hmem hmany
      have hfin : ∀ (P : Prop), (¬ k < n1 → P) → (k < n1 → ¬ k < 40 → P) → P := fun P h1 h2 => by
        by_cases h : k < n1
        · exact h2 h (fun h' => hlt ⟨h, h'⟩)
        · exact h1 h
      refine hfin _ ?_ ?_
      all_goals
        intros
        clear hlt hfin
        go_wp2_with fail
        refine (nt_waiting HN.out).mono ?_
        rintro e w4 ⟨rfl, rfl⟩
        rw [HMANY.out]
        go_wp2_with fail
        go_loopw [11, 12, 13] (fun v11 v12 v wr => ∃ (i : Nat) (last first : Int), v = .int .i64 i ∧ i ≤ many ∧ v11 = .int .i64 last ∧ v12 = .int .i64 first ∧ DrNext w b S T k n1 i last first wr) (fun _ _ v _ => many - (intOf v).toNat)
        case atStart => exact ⟨0, -1, -1, rfl, by omega, rfl, rfl, HR2.out⟩
        case round =>
          clear HR2
          obtain ⟨i, last, first, rfl, hi, rfl, rfl, M, hMl, hN2, hb2, hah, hmem⟩ := hrel
          rw [HMANY.out] at hMl
          have hsorted := nt_sorted hN2
          have h1 := nt_next hN2 (by omega)
          have H1 := Lib.hid h1
          have HB2 := Lib.hid hb2
          cases M with
          | nil =>
            simp only [List.length_nil] at hMl
            obtain rfl : i = many := by omega
            clear h1 hN2 hb2 hah hmem hsorted
            rw [show gotV [] = .tuple #[.agg #[.int .i64 0, .int .i64 0, .string ⟨#[]⟩], .int .i64 0, .bool false] from rfl] at H1
            go_wp2_with fail
            refine H1.out.mono ?_
            rintro e w5 ⟨rfl, hN5, hb5, _⟩
            have HN5 := Lib.hid (hN5.only ((Only.refl NoneOf w5).alloc (.cells #[.int .i64 0, .int .i64 0, .string ⟨#[]⟩] 31)))
            have HB5 := Lib.hid (HB2.out.trans hb5)
            clear hN5 hb5
            go_wp2_with fail
            refine (nt_waiting HN5.out).mono ?_
            rintro e w6 ⟨rfl, rfl⟩
            go_wp2_with fail
            go_ret
            exact ⟨by simp, HB5.out.alloc HB5.out.size _⟩
          | cons p T1 =>
            simp only [List.length_cons] at hMl
            obtain ⟨q, hq1, hq2, hq3, hq4, hq5⟩ := hmem p (List.mem_cons_self ..)
            obtain ⟨tq, htq⟩ : ∃ t, T[q]? = some t := ⟨_, List.getElem?_eq_getElem (by rw [HA1.out.1]; exact hq1)⟩
            obtain ⟨bk, off, rfl, hbk, hc'⟩ := HA1.out.2 q tq htq
            have htq' : tAt T q = tq := by unfold tAt; rw [List.getD_eq_getElem?_getD, htq]; rfl
            rw [htq'] at hq4
            obtain ⟨tq1, tq2⟩ := HT.out tq (List.mem_of_getElem? htq)
            have c0 := (hb2.cell (p := ⟨bk, off + q * 1 + 0, none⟩) hbk).trans (hc' 0 (by omega))
            simp only [uc, List.getElem?_cons_zero, Nat.add_zero, Nat.mul_one] at c0
            have ha1 := hah p (List.mem_cons_self ..)
            have hah' : Ahead p.due q T1 := fun r hr => by
              have := (List.pairwise_cons.1 hsorted).1 r hr
              unfold Lt at this
              rcases this with h | ⟨h1, h2⟩
              · exact .inl h
              · exact .inr ⟨h1, by omega⟩
            have hmem' := fun r hr => hmem r (List.mem_cons_of_mem p hr)
            rw [hq3] at ha1
            rw [show gotV (p :: T1) = .tuple #[.agg #[.int .i64 p.fr, .int .i64 p.tgt, .string p.tx], .int .i64 p.due, .bool true] from rfl, hq2] at H1
            simp only [List.tail_cons] at H1
            have HAH := Lib.hid hah'
            have HMEM := Lib.hid hmem'
            have HC := Lib.hid c0
            have g1 : ¬ p.due < last := by omega
            have g2 : p.due = last → ¬ (q : Int) < first := by omega
            clear h1 hN2 hb2 hah hmem hsorted hah' hmem' hc' htq htq' hq2 hq3 ha1 c0
            generalize p.due = due at *
            have hlti : i < many := by omega
            go_wp2_with fail
            refine H1.out.mono ?_
            rintro e w5 ⟨rfl, hN5, hb5, _⟩
            have c0 := (hb5.cell (p := ⟨bk, off + q, none⟩) hbk).trans HC.out
            have hbk5 : bk < w5.heap.size := by have := HB2.out.size; have := hb5.size; omega
            have HN5 := Lib.hid hN5
            have HB5 := Lib.hid (HB2.out.trans hb5)
            clear hN5 hb5
            by_cases hdl : due = last
            · have g3 := g2 hdl
              subst hdl
              clear g2
              go_wp2_with fail
              go_quiet (fail)
              go_wp2_with fail
              go_roundw
              case rel => exact ⟨i + 1, due, q, by go_num, by omega, rfl, rfl, T1, by rw [HMANY.out]; omega, (HN5.out.only ((Only.refl NoneOf _).alloc _)).only ((Only.refl NoneOf _).drewN _), below_drewN (HB5.out.alloc HB5.out.size _) _, HAH.out, HMEM.out⟩
              case measure => simp [intOf]; omega
            · have g3 : (due == last) = false := beq_eq_false_iff_ne.2 hdl
              clear g2 hdl
              go_wp2_with fail
              go_quiet (fail)
              go_wp2_with fail
              go_roundw
              case rel => exact ⟨i + 1, due, q, by go_num, by omega, rfl, rfl, T1, by rw [HMANY.out]; omega, (HN5.out.only ((Only.refl NoneOf _).alloc _)).only ((Only.refl NoneOf _).drewN _), below_drewN (HB5.out.alloc HB5.out.size _) _, HAH.out, HMEM.out⟩
              case measure => simp [intOf]; omega
end Go.Proofs.Ytoaddfmbjehhoaa
