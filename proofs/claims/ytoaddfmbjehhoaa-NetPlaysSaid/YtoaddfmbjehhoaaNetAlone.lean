/- What is proved here: what happens to a message depends on its number alone. Conditions: the script and the times that come in read as lists. -/
import Derived.Test.YtoaddfmbjehhoaaNetK
namespace Go.Proofs.Ytoaddfmbjehhoaa
open Go.RowKit

def uc (x : Int) : List Value := [.int .u16 x]
theorem uc_len (x : Int) : (uc x).length = 1 := rfl
def f0 (p : Pcl) : Bool := decide (p.tgt = 0)
theorem ins_first {p : Pcl} {M : List Pcl} (h : ∀ q ∈ M, Lt p q) : ins p M = p :: M := by
  cases M with
  | nil => rfl
  | cons q M => simp [ins, (lt_iff p q).2 (h q (List.mem_cons_self ..))]
theorem filter_ins_out {p : Pcl} (hp : f0 p = false) (M : List Pcl) : (ins p M).filter f0 = M.filter f0 := by
  induction M with
  | nil => simp [ins, hp]
  | cons q M ih =>
    unfold ins
    split
    · simp [List.filter_cons, hp]
    · simp [List.filter_cons, ih]
theorem filter_ins_in {p : Pcl} (hp : f0 p = true) {M : List Pcl} (h : Sorted M) : (ins p M).filter f0 = ins p (M.filter f0) := by
  induction M with
  | nil => simp [ins, hp]
  | cons q M ih =>
    have h2 := List.pairwise_cons.1 h
    by_cases hl : lt p q = true
    · have e1 : ins p (q :: M) = p :: q :: M := by simp [ins, hl]
      rw [e1, ins_first (fun r hr => ?_)]
      · rw [List.filter_cons, if_pos hp]
      · have hr' := (List.mem_filter.1 hr).1
        rcases List.mem_cons.1 hr' with rfl | hr'
        · exact (lt_iff _ _).1 hl
        · exact ((lt_iff _ _).1 hl).trans (h2.1 r hr')
    · have e1 : ins p (q :: M) = q :: ins p M := by simp [ins, hl]
      rw [e1, List.filter_cons, List.filter_cons, ih h2.2]
      split
      · simp [ins, hl]
      · rfl
theorem addM_sorted {p : Pcl} {M : List Pcl} {k : Nat} (h : Sorted M) (hk : ∀ q ∈ M, q.sent < k) (hp : p.sent = k) (j : Nat) : Sorted (addM p j M) := by
  induction j with
  | zero => exact h
  | succ j ih => exact ins_sorted ih (addM_new hk hp j)
theorem filter_addM_out {p : Pcl} (hp : f0 p = false) (M : List Pcl) (j : Nat) : (addM p j M).filter f0 = M.filter f0 := by
  induction j with
  | zero => rfl
  | succ j ih =>
    show (ins _ _).filter f0 = _
    rw [filter_ins_out (by simpa [f0] using hp), ih]
theorem filter_addM_in {p : Pcl} {M : List Pcl} {k : Nat} (hp : f0 p = true) (h : Sorted M) (hk : ∀ q ∈ M, q.sent < k) (hps : p.sent = k) (j : Nat) : (addM p j M).filter f0 = addM p j (M.filter f0) := by
  induction j with
  | zero => rfl
  | succ j ih =>
    show (ins _ _).filter f0 = _
    rw [filter_ins_in (by simpa [f0] using hp) (addM_sorted h hk hps j), ih]
    rfl
def thisS : ByteArray := ⟨#[116, 104, 105, 115]⟩
def Al (M1 M2 : List Pcl) : Prop := M1.filter f0 = M2 ∧ ∀ q ∈ M2, q.fr = 7 ∧ q.tgt = 0 ∧ q.tx = thisS
theorem al_other {S : List Tr} {k : Nat} {now fr : Int} {tx : ByteArray} {M : List Pcl} (h : M.filter f0 = []) : (sendM 2 S k now fr 1 tx M).filter f0 = [] := by
  unfold sendM
  split
  · exact h
  · rw [filter_addM_out (by simp [f0]), h]
theorem al_drop {S : List Tr} {k : Nat} {now fr : Int} {tx : ByteArray} (M : List Pcl) : sendM 2 S k now fr 5 tx M = M := by
  unfold sendM
  rw [if_pos (.inr (.inr (by decide)))]
theorem al_this {S : List Tr} {k : Nat} {now : Int} {M : List Pcl} (h : M.filter f0 = []) (hs : Sorted M) (hk : ∀ q ∈ M, q.sent < k) : Al (sendM 2 S k now 7 0 thisS M) (sendM 2 S k now 7 0 thisS []) := by
  unfold sendM
  split
  · exact ⟨h, fun q hq => by cases hq⟩
  · refine ⟨?_, ?_⟩
    · rw [filter_addM_in (k := k) (by simp [f0]) hs hk rfl, h]
    · intro q hq
      rcases addM_mem _ _ _ q hq with h | ⟨i, _, rfl⟩
      · cases h
      · exact ⟨rfl, rfl, rfl⟩
theorem pair_sorted {B b1 b2 : Nat} {n1 n2 : Int} {S1 S2 : List Tr} {M1 M2 : List Pcl} {k1 k2 : Nat} {W : World} (h : Pair B b1 n1 S1 M1 k1 b2 n2 S2 M2 k2 W) : Sorted M1 ∧ ∀ q ∈ M1, q.sent < k1 := by
  obtain ⟨s1, w1, s2, w2, h1, _⟩ := h
  exact ⟨h1.2.1.2.2.1, h1.2.2.2⟩
theorem Arg.take' {α : Type} {f : α → List Value} {s : Nat} {w : World} {A : Option Addr} {n : Nat} {L : List α} (h : Arg f s w A n L) (k : Nat) (hk : k ≤ n) : Arg f s w A k (L.take k) := by
  refine ⟨by rw [List.length_take, h.1]; omega, fun i t ht => ?_⟩
  rw [List.getElem?_take] at ht
  split at ht
  · exact h.2 i t ht
  · cases ht
def AlSend (w : World) (b1 b2 : Nat) (S : List Tr) (k : Nat) (wr : World) : Prop := ∃ M1 : List Pcl, M1.filter f0 = [] ∧ M1.length ≤ 8 * k ∧ Pair w.heap.size b1 2 S M1 k b2 2 S [] k wr ∧ Below w.heap.size w wr
def AlNext (w : World) (b1 b2 : Nat) (S : List Tr) (kk bx i : Nat) (wr : World) : Prop :=
  ∃ M1 M2 : List Pcl, Al M1 M2 ∧ M1.length + i ≤ 248 ∧ Pair w.heap.size b1 2 S M1 kk b2 2 S M2 kk wr ∧ Below w.heap.size w wr ∧ Blk wr bx 31 #[.int .i64 7, .int .i64 0, .string ⟨#[116, 104, 105, 115]⟩]

set_option maxRecDepth 100000 in
set_option maxHeartbeats 1000000 in
theorem alone_any {A A1 : Option Addr} {n c n1 c1 : Nat} {L : List Tr} {T : List Int} {w : World} (now : Int) (ha : Arg tc 3 w A n L) (hn : n ≤ maxLen) (hat : Arg uc 1 w A1 n1 T) (hn1 : n1 ≤ maxLen) (hc1 : n1 ≤ c1) (hT : ∀ t ∈ T, 0 ≤ t ∧ t ≤ 65535) (hnow : 0 ≤ now ∧ now ≤ 65535) :
    Calls Try.prog 5 #[.slice A n c, .slice A1 n1 c1, .int .u16 now] w fun e w' => e = .returned (.bool true) ∧ Below w.heap.size w w' := by
  obtain ⟨nw1, nw2⟩ := hnow
  obtain ⟨n', hn'⟩ : ∃ n', n' = min n1 30 := ⟨_, rfl⟩
  have hA1 := hat.take' n' (by omega)
  have hl30 : n' ≤ 30 := by omega
  have hmn : (if (30 : Int) < (n1 : Int) then 30 else (n1 : Int)) = (n' : Int) := by omega
  have hn'n : n' ≤ n1 := by omega
  have hn'c : n' ≤ c1 := by omega
  have hT' : ∀ t ∈ T.take n', 0 ≤ t ∧ t ≤ 65535 := fun t ht => hT t (List.mem_of_mem_take ht)
  generalize T.take n' = T' at hA1 hT'
  have HA := Lib.hid ha
  have HN := Lib.hid hn
  have HA1 := Lib.hid hA1
  have HT := Lib.hid hT'
  rw [maxLen_val] at hn1
  clear ha hn hat hA1 hT hT' hn'
  go_enter Try.func5, Try.ntmps5
  go_wp2_with fail
  refine (sanity_any _).mono ?_
  rintro e w1 ⟨rfl, hb1⟩
  have HB1 := Lib.hid hb1
  clear hb1
  go_wp2_with fail
  refine (script_any (HA.out.keep HB1.out) HN.out).mono ?_
  rintro e w2 ⟨v, rfl, ho2, hb2⟩
  have hsl : (sc L).length ≤ 12 := by rw [sc_len]; omega
  have HSD := Lib.hid (sc_trAt L)
  have hB2 : Below w.heap.size w w2 := HB1.out.trans (hb2.mono HB1.out.size)
  have ho2' := own_base ho2 HB1.out.size
  generalize sc L = S at *
  have HO2 := Lib.hid ho2'
  have HB2 := Lib.hid hB2
  clear ho2 hb2 ho2' hB2 HB1 HA HN
  obtain ⟨Av, cv, rfl, _, _⟩ := own_form' HO2.out
  go_wp2_with fail
  refine (new_any 2 HO2.out (by omega)).mono ?_
  rintro e w3 ⟨b1, s1, rfl, hN3, hb3⟩
  have HN3 := Lib.hid hN3
  have HB3 := Lib.hid hb3
  have HO3 := Lib.hid (own_only HO2.out (Only.of_below hb3 NoneOf) (fun _ _ h => h))
  clear hN3 hb3
  go_wp2_with fail
  refine (new_any 2 HO3.out (by omega)).mono ?_
  rintro e w4 ⟨b2, s2, rfl, hN4, hb4⟩
  have hR : AlSend w b1 b2 S 0 w4 := ⟨[], rfl, by simp, pair_new HN3.out hb4 hN4 (Nat.le_refl _) HB2.out.size (by have := HB2.out.size; have := HB3.out.size; omega),
    (HB2.out.trans (HB3.out.mono HB2.out.size)).trans (hb4.mono (by have := HB2.out.size; have := HB3.out.size; omega))⟩
  have HR := Lib.hid hR
  clear hN4 hb4 hR HN3 HB3 HO3 HO2 HB2
  go_wp2_with fail
  go_loopw [11] (fun v wr => ∃ k : Nat, v = .int .i64 k ∧ k ≤ n' ∧ AlSend w b1 b2 S k wr) (fun v _ => n' - (intOf v).toNat)
  case atStart => exact ⟨0, rfl, by omega, HR.out⟩
  case round =>
    clear HR
    obtain ⟨k, rfl, hk, M1, hf, hl, hP, hb⟩ := hrel
    by_cases hlt : k < n'
    · obtain ⟨t, ht⟩ : ∃ t, T'[k]? = some t := ⟨_, List.getElem?_eq_getElem (by rw [HA1.out.1]; exact hlt)⟩
      obtain ⟨bk, off, rfl, hbk, hc'⟩ := HA1.out.2 k t ht
      have c0 := (hb.cell (p := ⟨bk, off + k * 1 + 0, none⟩) hbk).trans (hc' 0 (by omega))
      simp only [uc, List.getElem?_cons_zero, Nat.add_zero, Nat.mul_one] at c0
      obtain ⟨t1, t2⟩ := HT.out t (List.mem_of_getElem? ht)
      have h1 := pair_send hP t k 1 ⟨#[111, 116, 104, 101, 114]⟩ hb.size (by omega) (by omega) (by omega) (by omega) (by omega) (HSD.out k)
      simp only [msg] at h1
      have H1 := Lib.hid h1
      have HB := Lib.hid hb
      have HF := Lib.hid hf
      clear h1 hP hb hc' ht hf
      go_wp2_with fail
      refine H1.out.mono ?_
      rintro e w6 ⟨rfl, hP6, hb6, _⟩
      have h2 := pair_send2 hP6 0 0 5 ⟨#[]⟩ (by have := HB.out.size; have := hb6.size; omega) (by omega) (by omega) (by simp) (by omega) (by omega) (HSD.out k)
      rw [al_drop] at h2
      simp only [msg] at h2
      have H2 := Lib.hid h2
      have HB6 := Lib.hid hb6
      clear h2 hP6 hb6
      go_wp2_with fail
      refine H2.out.mono ?_
      rintro e w7 ⟨rfl, hP7, hb7, _⟩
      go_wp2_with fail
      go_roundw
      case rel => exact ⟨k + 1, by go_num, by omega, _, al_other HF.out, by have := sendM_len 2 S k t k 1 ⟨#[111, 116, 104, 101, 114]⟩ M1; omega, hP7, (HB.out.trans HB6.out).trans hb7⟩
      case measure => simp [intOf]; omega
    · obtain rfl : k = n' := by omega
      obtain ⟨so1, so2⟩ := pair_sorted hP
      have hal := al_this (S := S) (k := k) (now := now) hf so1 so2
      have h1 := pair_send (hP.only ((Only.refl NoneOf wr).alloc (.cells #[.int .i64 7, .int .i64 0, .string ⟨#[116, 104, 105, 115]⟩] 31))) now 7 0 ⟨#[116, 104, 105, 115]⟩ (by have := hb.size; simp; omega) (by omega) (by omega) (by omega) (by omega) (by omega) (HSD.out k)
      simp only [msg] at h1
      have H1 := Lib.hid h1
      have HB := Lib.hid (hb.alloc hb.size (.cells #[.int .i64 7, .int .i64 0, .string ⟨#[116, 104, 105, 115]⟩] 31))
      have HX := Lib.hid (Blk.new wr 31 #[.int .i64 7, .int .i64 0, .string ⟨#[116, 104, 105, 115]⟩])
      have HAL := Lib.hid hal
      generalize hbx : wr.heap.size = bx at *
      clear h1 hP hb hf so1 so2 hal
      go_wp2_with fail
      refine H1.out.mono ?_
      rintro e w6 ⟨rfl, hP6, hb6, hk6⟩
      have hx6 := hk6 _ _ _ (by decide) (by decide) HX.out
      have h2 := pair_send2 hP6 now 7 0 ⟨#[116, 104, 105, 115]⟩ (by have := HB.out.size; have := hb6.size; omega) (by omega) (by omega) (by simp) (by omega) (by omega) (HSD.out k)
      simp only [msg] at h2
      have c0 := hx6.cell 0
      have c1 := hx6.cell 1
      have c2 := hx6.cell 2
      have cl := hx6.lt
      simp only [List.getElem?_toArray, List.getElem?_cons_zero, List.getElem?_cons_succ] at c0 c1 c2
      have H2 := Lib.hid h2
      have HB6 := Lib.hid (HB.out.trans hb6)
      have HX6 := Lib.hid hx6
      clear h2 hP6 hb6 hk6 hx6
      go_wp2_with fail
      refine H2.out.mono ?_
      rintro e w7 ⟨rfl, hP7, hb7, hk7⟩
      have hx7 := hk7 _ _ _ (by decide) (by decide) HX6.out
      have hR : AlNext w b1 b2 S (k + 1) bx 0 w7 := ⟨_, _, HAL.out, by have := sendM_len 2 S k now 7 0 ⟨#[116, 104, 105, 115]⟩ M1; unfold thisS; omega, hP7, HB6.out.trans hb7, hx7⟩
      have HR := Lib.hid hR
      clear hP7 hb7 hk7 hx7 hR c0 c1 c2 cl
      go_wp2_with fail
      go_loopw [13] (fun v wr => ∃ i : Nat, v = .int .i64 i ∧ i ≤ 300 ∧ AlNext w b1 b2 S (k + 1) bx i wr) (fun v _ => 300 - (intOf v).toNat)
      case atStart => exact ⟨0, rfl, by omega, HR.out⟩
      case round =>
        clear HR
        obtain ⟨i, rfl, hi, M1', M2', hal, hl', hP, hb, hx⟩ := hrel
        have hlt : i < 300 := by omega
        have h1 := pair_next hP (by omega)
        have H1 := Lib.hid h1
        have HB := Lib.hid hb
        have HX := Lib.hid hx
        have HAL := Lib.hid hal
        clear h1 hP hb hx hal
        cases M1' with
        | nil =>
          go_wp2_with fail
          refine H1.out.mono ?_
          rintro e w8 ⟨rfl, hP8, hb8, _⟩
          have hm2 : M2' = [] := HAL.out.1.symm
          subst hm2
          have HP8 := Lib.hid (hP8.only ((Only.refl NoneOf w8).alloc (.cells #[.int .i64 0, .int .i64 0, .string ⟨#[]⟩] 31)))
          have HB8 := Lib.hid (HB.out.trans hb8)
          rw [show gotV [] = .tuple #[.agg #[.int .i64 0, .int .i64 0, .string ⟨#[]⟩], .int .i64 0, .bool false] from rfl]
          clear hP8 hb8
          go_wp2_with fail
          refine (pair_waiting2 HP8.out).mono ?_
          rintro e w9 ⟨rfl, rfl⟩
          go_wp2_with fail
          refine (pair_waiting HP8.out).mono ?_
          rintro e w9 ⟨rfl, rfl⟩
          go_wp2_with fail
          go_ret
          exact ⟨by simp, HB8.out.alloc HB8.out.size _⟩
        | cons p T1 =>
          obtain ⟨hf, hq⟩ := HAL.out
          rw [show gotV (p :: T1) = .tuple #[.agg #[.int .i64 p.fr, .int .i64 p.tgt, .string p.tx], .int .i64 p.due, .bool true] from rfl] at H1
          simp only [List.tail_cons] at H1
          simp only [List.length_cons] at hl'
          by_cases hto : p.tgt = 0
          · have hfp : f0 p = true := by simp [f0, hto]
            rw [List.filter_cons, if_pos hfp] at hf
            subst hf
            obtain ⟨q1, q2, q3⟩ := hq p (List.mem_cons_self ..)
            have hal' : Al T1 (T1.filter f0) := ⟨rfl, fun q h => hq q (List.mem_cons_of_mem _ h)⟩
            have HAL' := Lib.hid hal'
            clear hq hfp hto hal' HAL
            obtain ⟨fr, tgt, tx, due, sent⟩ := p
            simp only at q1 q2 q3
            subst q1 q2 q3
            simp only [thisS] at H1
            have hlf := List.length_filter_le f0 T1
            go_wp2_with fail
            refine H1.out.mono ?_
            rintro e w8 ⟨rfl, hP8, hb8, hk8⟩
            have hx8 := hk8 _ _ _ (by decide) (by decide) HX.out
            have h2 := pair_next2 (hP8.only ((Only.refl NoneOf w8).alloc (.cells #[.int .i64 7, .int .i64 0, .string ⟨#[116, 104, 105, 115]⟩] 31))) (by simp; omega)
            rw [show gotV (⟨7, 0, ⟨#[116, 104, 105, 115]⟩, due, sent⟩ :: T1.filter f0) = .tuple #[.agg #[.int .i64 7, .int .i64 0, .string ⟨#[116, 104, 105, 115]⟩], .int .i64 due, .bool true] from rfl] at h2
            have H2 := Lib.hid h2
            have HX8 := Lib.hid (hx8.alloc (.cells #[.int .i64 7, .int .i64 0, .string ⟨#[116, 104, 105, 115]⟩] 31))
            have HA8 := Lib.hid (Blk.new w8 31 #[.int .i64 7, .int .i64 0, .string ⟨#[116, 104, 105, 115]⟩])
            have HB8 := Lib.hid ((HB.out.trans hb8).alloc (HB.out.trans hb8).size (.cells #[.int .i64 7, .int .i64 0, .string ⟨#[116, 104, 105, 115]⟩] 31))
            clear h2 hP8 hb8 hk8 hx8
            go_wp2_with fail
            refine H2.out.mono ?_
            rintro e w9 ⟨rfl, hP9, hb9, hk9⟩
            have hx9 := hk9 _ _ _ (by decide) (by decide) HX8.out
            have ha9 := hk9 _ _ _ (by decide) (by decide) HA8.out
            have c0 := hx9.cell 0
            have c1 := hx9.cell 1
            have c2 := hx9.cell 2
            have cl := hx9.lt
            have d0 := ha9.cell 0
            have d1 := ha9.cell 1
            have d2 := ha9.cell 2
            have dl := ha9.lt
            simp only [List.getElem?_toArray, List.getElem?_cons_zero, List.getElem?_cons_succ] at c0 c1 c2 d0 d1 d2
            have HP9 := Lib.hid hP9
            have HB9 := Lib.hid (HB8.out.trans hb9)
            have HX9 := Lib.hid hx9
            clear hP9 hb9 hk9 hx9 ha9
            go_wp2_with fail
            go_roundw
            case rel => exact ⟨i + 1, by go_num, by omega, T1, T1.filter f0, HAL'.out, by omega, HP9.out.only ((Only.refl NoneOf _).alloc _), HB9.out.alloc HB9.out.size _, HX9.out.alloc _⟩
            case measure => simp [intOf]; omega
          · have hfp : f0 p = false := by simp [f0, hto]
            have hf' : T1.filter f0 = M2' := by simpa [List.filter_cons, hfp] using hf
            have HAL' := Lib.hid (And.intro hf' hq)
            clear hf hq hf' hfp HAL
            go_wp2_with fail
            refine H1.out.mono ?_
            rintro e w8 ⟨rfl, hP8, hb8, hk8⟩
            have hx8 := hk8 _ _ _ (by decide) (by decide) HX.out
            have HP8 := Lib.hid hP8
            have HB8 := Lib.hid (HB.out.trans hb8)
            have HX8 := Lib.hid hx8
            clear hP8 hb8 hk8 hx8
            go_wp2_with fail
            go_roundw
            case rel => exact ⟨i + 1, by go_num, by omega, T1, M2', HAL'.out, by omega, HP8.out.only ((Only.refl NoneOf _).alloc _), HB8.out.alloc HB8.out.size _, HX8.out.alloc _⟩
            case measure => simp [intOf]; omega
end Go.Proofs.Ytoaddfmbjehhoaa
