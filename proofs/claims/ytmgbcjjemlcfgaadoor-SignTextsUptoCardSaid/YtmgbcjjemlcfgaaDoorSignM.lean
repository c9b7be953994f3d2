/- What is proved here: a number read off a text, by the reference's code. No conditions but that the text is short. -/
import Derived.Test.YtmgbcjjemlcfgaaDoorSignL
namespace Go.Proofs.YtmgbcjjemlcfgaaDoor
open Go.RowKit Go.Shelf
theorem size_len (t : ByteArray) : t.data.toList.length = t.size := by simp
theorem no_empty {l : List UInt8} (h : l = []) : ∀ n, In n → l ≠ Lib.itoa n := fun _ hn e => (body_ok hn e).2.2.1 (by rw [h]; simp)
theorem no_short {l : List UInt8} (h : l.length ≤ beg l) : ∀ n, In n → l ≠ Lib.itoa n := fun _ hn e => (body_ok hn e).2.2.1 (List.drop_eq_nil_of_le h)
theorem no_long {l : List UInt8} (h : 19 < l.length - beg l) : ∀ n, In n → l ≠ Lib.itoa n := fun _ hn e => by
  have := (body_ok hn e).2.2.2
  rw [List.length_drop] at this
  omega
theorem no_digit {l : List UInt8} {q : Nat} {c : UInt8} (hq : beg l ≤ q) (hc : l[q]? = some c) (hd : ¬ digit c) : ∀ n, In n → l ≠ Lib.itoa n := fun _ hn e => by
  refine hd ((body_ok hn e).1 c ?_)
  have : (l.drop (beg l))[q - beg l]? = some c := by rw [List.getElem?_drop, show beg l + (q - beg l) = q by omega, hc]
  exact List.mem_of_getElem? this
theorem no_text {l : List UInt8} (h : Lib.itoa (numV l) ≠ l) : ∀ n, In n → l ≠ Lib.itoa n := fun _ hn e => by
  rw [numV_itoa hn e] at h
  exact h e.symm
/-- What has been read behind place b up to place q. -/
def upTo (l : List UInt8) (b q : Nat) : Int := IntKind.i64.wrap (-(((l.drop b).take (q - b)).foldl dstep 0 : Nat) : Int)
theorem upTo_zero (l : List UInt8) (b : Nat) : upTo l b b = 0 := by unfold upTo; rw [Nat.sub_self]; rfl
theorem upTo_step {l : List UInt8} {b q : Nat} {c : UInt8} (hq : b ≤ q) (hc : l[q]? = some c) (hd : digit c) : IntKind.i64.wrap (IntKind.i64.wrap (10 * upTo l b q) - ((c.toNat : Int) - 48)) = upTo l b (q + 1) := by
  unfold upTo
  have h1 : (l.drop b)[q - b]? = some c := by rw [List.getElem?_drop, show b + (q - b) = q by omega, hc]
  rw [wrap_step, show q + 1 - b = q - b + 1 by omega, List.take_add_one, h1, Option.toList_some, fold_snoc]
  congr 2
  unfold digit at hd
  omega
theorem upTo_all {l : List UInt8} : (beg l = 0 → IntKind.i64.wrap (-upTo l (beg l) l.length) = numV l) ∧ (beg l ≠ 0 → upTo l (beg l) l.length = numV l) := by
  unfold upTo numV
  rw [List.take_of_length_le (by rw [List.length_drop]; exact Nat.le_refl _)]
  refine ⟨fun h => ?_, fun h => ?_⟩
  · rw [if_pos h, wrap_neg]
  · rw [if_neg h]
theorem upTo_in (l : List UInt8) (b q : Nat) : In (upTo l b q) := wrap_in _
/-- What holds between two digits. -/
def NumR (t : ByteArray) (b : Nat) (w : World) (v j : Value) (wr : World) : Prop :=
  ∃ q : Nat, b ≤ q ∧ q ≤ t.size ∧ v = .int .i64 (upTo t.data.toList b q) ∧ j = .int .i64 (q : Int) ∧ wr = w
set_option maxRecDepth 100000 in
set_option maxHeartbeats 2000000 in
theorem rnum_any (t : ByteArray) (ht : t.size ≤ 1048576) (w : World) : Calls Tryd.prog 43 #[.string t] w fun e w' => NumE t.data.toList e ∧ Only NoneOf w w' := by
  have hlen := size_len t
  by_cases hz : t.size = 0
  · have hno := no_empty (l := t.data.toList) (List.length_eq_zero_iff.1 (by omega))
    have HN := Lib.hid hno
    clear hno hlen
    have hz' : ¬ (0 : Int) < (t.size : Int) := by omega
    go_enter Tryd.func43, Tryd.ntmps43
    go_wp2_with fail
    go_ret2
    exact ⟨.inr ⟨HN.out, _, rfl⟩, Only.refl _ _⟩
  · have hp : 0 < t.size := by omega
    have hpi : (0 : Int) < (t.size : Int) := by omega
    have hg0 := str_get t 0 hp
    obtain ⟨c0, hc0⟩ : ∃ c, t[0] = c := ⟨_, rfl⟩
    rw [hc0] at hg0
    have hhead : t.data.toList.head? = some c0 := by rw [← hg0]; exact List.head?_eq_getElem?
    by_cases h45 : c0 = 45
    · subst h45
      have hb : beg t.data.toList = 1 := by unfold beg; rw [if_pos hhead]
      have e45 : ((45 : UInt8).toNat : Int) = 45 := rfl
      clear hhead hg0
      by_cases hA : t.size ≤ 1
      · have HN := Lib.hid (no_short (l := t.data.toList) (by rw [hb, hlen]; exact hA))
        have hA' : (t.size : Int) ≤ 1 := by omega
        clear hlen hb
        go_enter Tryd.func43, Tryd.ntmps43
        go_wp2_with fail
        go_ret2
        exact ⟨.inr ⟨HN.out, _, rfl⟩, Only.refl _ _⟩
      · have hA' : ¬ (t.size : Int) ≤ 1 := by omega
        have wl : IntKind.i64.wrap ((t.size : Int) - 1) = (t.size : Int) - 1 := IntWalk.i64_in _ (by omega)
        by_cases hB : 19 < t.size - 1
        · have HN := Lib.hid (no_long (l := t.data.toList) (by rw [hb, hlen]; exact hB))
          have hB' : (19 : Int) < (t.size : Int) - 1 := by omega
          clear hlen hb
          go_enter Tryd.func43, Tryd.ntmps43
          go_wp2_with fail
          go_ret2
          exact ⟨.inr ⟨HN.out, _, rfl⟩, Only.refl _ _⟩
        · have hB' : ¬ (19 : Int) < (t.size : Int) - 1 := by omega
          have HLEN := Lib.hid hlen
          have HBB := Lib.hid hb
          clear hlen hb
          go_enter Tryd.func43, Tryd.ntmps43
          go_wp2_with fail
          go_loopw [5, 6] (fun v j wr => NumR t 1 w v j wr) (fun _ j _ => t.size - (intOf j).toNat)
          case atStart => exact ⟨1, Nat.le_refl _, by omega, by rw [upTo_zero], rfl, rfl⟩
          case round =>
            obtain ⟨q, hq, hqs, rfl, rfl, rfl⟩ := hrel
            have hui := upTo_in t.data.toList 1 q
            by_cases hlt : q < t.size
            · have hg := str_get t q hlt
              obtain ⟨c, hc⟩ : ∃ c, t[q] = c := ⟨_, rfl⟩
              rw [hc] at hg
              have q0 : (0 : Int) ≤ (q : Int) := by omega
              have q1 : (q : Int) < (t.size : Int) := by omega
              by_cases hd : digit c
              · have hst := upTo_step hq hg hd
                have hui2 := upTo_in t.data.toList 1 (q + 1)
                obtain ⟨v, ev⟩ : ∃ v, v = upTo t.data.toList 1 q := ⟨_, rfl⟩
                obtain ⟨v2, ev2⟩ : ∃ v2, v2 = upTo t.data.toList 1 (q + 1) := ⟨_, rfl⟩
                rw [← ev] at hst ⊢
                rw [← ev2] at hst hui2
                obtain ⟨v1, ev1⟩ : ∃ v1, IntKind.i64.wrap (10 * v) = v1 := ⟨_, rfl⟩
                rw [ev1] at hst
                unfold digit at hd
                have d0 : ¬ (c.toNat : Int) < 48 := by omega
                have d1 : ¬ (57 : Int) < (c.toNat : Int) := by omega
                have w8 : IntKind.u8.wrap ((c.toNat : Int) - 48) = (c.toNat : Int) - 48 := by
                  simp only [IntKind.wrap, IntKind.bits, IntKind.signed]
                  simp
                  omega
                have wd : IntKind.i64.wrap ((c.toNat : Int) - 48) = (c.toNat : Int) - 48 := IntWalk.i64_in _ (by omega)
                have w2 : IntKind.i64.wrap v2 = v2 := wrap_of hui2
                have wq : IntKind.i64.wrap ((q : Int) + 1) = (q : Int) + 1 := IntWalk.i64_in _ (by omega)
                have FIN : Hid (NumR t 1 wr (.int .i64 v2) (.int .i64 ((q : Int) + 1)) wr) := Lib.hid ⟨q + 1, by omega, by omega, by rw [ev2], by simp, rfl⟩
                clear hui hui2 ev ev2 hg hq
                go_wp2_with fail
                go_roundw
                case rel => exact FIN.out
                case measure => simp [intOf]; omega
              · have HN := Lib.hid (no_digit (l := t.data.toList) (by rw [HBB.out]; exact hq) hg hd)
                clear hg hq hui
                by_cases d0 : (c.toNat : Int) < 48
                · clear hd
                  go_wp2_with fail
                  go_ret2
                  exact ⟨.inr ⟨HN.out, _, rfl⟩, Only.refl _ _⟩
                · have d1 : (57 : Int) < (c.toNat : Int) := by unfold digit at hd; omega
                  clear hd
                  go_wp2_with fail
                  go_ret2
                  exact ⟨.inr ⟨HN.out, _, rfl⟩, Only.refl _ _⟩
            · obtain rfl : q = t.size := by omega
              have hall := @upTo_all t.data.toList
              rw [HBB.out, HLEN.out] at hall
              have hni := numV_in t.data.toList
              have hno := no_text (l := t.data.toList)
              obtain ⟨v, ev⟩ : ∃ v, v = upTo t.data.toList 1 t.size := ⟨_, rfl⟩
              obtain ⟨N, eN⟩ : ∃ N, N = numV t.data.toList := ⟨_, rfl⟩
              rw [← ev, ← eN] at hall
              rw [← eN] at hni hno
              rw [← ev]
              obtain rfl : N = v := (hall.2 (by omega)).symm
              have HNO := Lib.hid hno
              have HNI := Lib.hid hni
              clear hall hni hno eN hui ev hq
              go_wp2_with fail
              refine (rdec_any N HNI.out wr).mono ?_
              rintro e w2 ⟨u, rfl, hu, ho⟩
              have HO := Lib.hid ho
              by_cases heq : Lib.itoa N = t.data.toList
              · have hq : (u.toList == t.toList) = true := by
                  rw [Lib.toList_data, Lib.toList_data, hu]; exact beq_iff_eq.2 heq
                have HQ := Lib.hid heq
                clear heq hu ho
                go_wp2_with fail
                go_ret2
                exact ⟨.inl ⟨N, HNI.out, HQ.out.symm, rfl⟩, HO.out⟩
              · have hq : (u.toList == t.toList) = false := by
                  rw [Lib.toList_data, Lib.toList_data, hu]; exact beq_eq_false_iff_ne.2 heq
                have HQ := Lib.hid (HNO.out heq)
                clear heq hu ho
                go_wp2_with fail
                go_ret2
                exact ⟨.inr ⟨HQ.out, _, rfl⟩, HO.out⟩
    · have hb : beg t.data.toList = 0 := by unfold beg; rw [if_neg (by rw [hhead]; intro h; exact h45 (by simpa using h))]
      have e45 : ¬ (c0.toNat : Int) = 45 := fun h => h45 (UInt8.toNat_inj.1 (by show c0.toNat = 45; omega))
      clear hhead hg0
      by_cases hA : t.size ≤ 0
      · exact absurd hA (by omega)
      · have hA' : ¬ (t.size : Int) ≤ 0 := by omega
        have wl : IntKind.i64.wrap ((t.size : Int) - 0) = (t.size : Int) - 0 := IntWalk.i64_in _ (by omega)
        by_cases hB : 19 < t.size - 0
        · have HN := Lib.hid (no_long (l := t.data.toList) (by rw [hb, hlen]; exact hB))
          have hB' : (19 : Int) < (t.size : Int) - 0 := by omega
          clear hlen hb
          go_enter Tryd.func43, Tryd.ntmps43
          go_wp2_with fail
          go_ret2
          exact ⟨.inr ⟨HN.out, _, rfl⟩, Only.refl _ _⟩
        · have hB' : ¬ (19 : Int) < (t.size : Int) - 0 := by omega
          have HLEN := Lib.hid hlen
          have HBB := Lib.hid hb
          clear hlen hb
          go_enter Tryd.func43, Tryd.ntmps43
          go_wp2_with fail
          go_loopw [5, 6] (fun v j wr => NumR t 0 w v j wr) (fun _ j _ => t.size - (intOf j).toNat)
          case atStart => exact ⟨0, Nat.le_refl _, by omega, by rw [upTo_zero], rfl, rfl⟩
          case round =>
            obtain ⟨q, hq, hqs, rfl, rfl, rfl⟩ := hrel
            have hui := upTo_in t.data.toList 0 q
            by_cases hlt : q < t.size
            · have hg := str_get t q hlt
              obtain ⟨c, hc⟩ : ∃ c, t[q] = c := ⟨_, rfl⟩
              rw [hc] at hg
              have q0 : (0 : Int) ≤ (q : Int) := by omega
              have q1 : (q : Int) < (t.size : Int) := by omega
              by_cases hd : digit c
              · have hst := upTo_step hq hg hd
                have hui2 := upTo_in t.data.toList 0 (q + 1)
                obtain ⟨v, ev⟩ : ∃ v, v = upTo t.data.toList 0 q := ⟨_, rfl⟩
                obtain ⟨v2, ev2⟩ : ∃ v2, v2 = upTo t.data.toList 0 (q + 1) := ⟨_, rfl⟩
                rw [← ev] at hst ⊢
                rw [← ev2] at hst hui2
                obtain ⟨v1, ev1⟩ : ∃ v1, IntKind.i64.wrap (10 * v) = v1 := ⟨_, rfl⟩
                rw [ev1] at hst
                unfold digit at hd
                have d0 : ¬ (c.toNat : Int) < 48 := by omega
                have d1 : ¬ (57 : Int) < (c.toNat : Int) := by omega
                have w8 : IntKind.u8.wrap ((c.toNat : Int) - 48) = (c.toNat : Int) - 48 := by
                  simp only [IntKind.wrap, IntKind.bits, IntKind.signed]
                  simp
                  omega
                have wd : IntKind.i64.wrap ((c.toNat : Int) - 48) = (c.toNat : Int) - 48 := IntWalk.i64_in _ (by omega)
                have w2 : IntKind.i64.wrap v2 = v2 := wrap_of hui2
                have wq : IntKind.i64.wrap ((q : Int) + 1) = (q : Int) + 1 := IntWalk.i64_in _ (by omega)
                have FIN : Hid (NumR t 0 wr (.int .i64 v2) (.int .i64 ((q : Int) + 1)) wr) := Lib.hid ⟨q + 1, by omega, by omega, by rw [ev2], by simp, rfl⟩
                clear hui hui2 ev ev2 hg hq
                go_wp2_with fail
                go_roundw
                case rel => exact FIN.out
                case measure => simp [intOf]; omega
              · have HN := Lib.hid (no_digit (l := t.data.toList) (by rw [HBB.out]; exact hq) hg hd)
                clear hg hq hui
                by_cases d0 : (c.toNat : Int) < 48
                · clear hd
                  go_wp2_with fail
                  go_ret2
                  exact ⟨.inr ⟨HN.out, _, rfl⟩, Only.refl _ _⟩
                · have d1 : (57 : Int) < (c.toNat : Int) := by unfold digit at hd; omega
                  clear hd
                  go_wp2_with fail
                  go_ret2
                  exact ⟨.inr ⟨HN.out, _, rfl⟩, Only.refl _ _⟩
            · obtain rfl : q = t.size := by omega
              have hall := @upTo_all t.data.toList
              rw [HBB.out, HLEN.out] at hall
              have hni := numV_in t.data.toList
              have hno := no_text (l := t.data.toList)
              obtain ⟨v, ev⟩ : ∃ v, v = upTo t.data.toList 0 t.size := ⟨_, rfl⟩
              obtain ⟨N, eN⟩ : ∃ N, N = numV t.data.toList := ⟨_, rfl⟩
              rw [← ev, ← eN] at hall
              rw [← eN] at hni hno
              rw [← ev]
              have wn : IntKind.i64.wrap (-v) = N := hall.1 rfl
              have HNO := Lib.hid hno
              have HNI := Lib.hid hni
              clear hall hni hno eN hui ev hq
              go_wp2_with fail
              refine (rdec_any N HNI.out wr).mono ?_
              rintro e w2 ⟨u, rfl, hu, ho⟩
              have HO := Lib.hid ho
              by_cases heq : Lib.itoa N = t.data.toList
              · have hq : (u.toList == t.toList) = true := by
                  rw [Lib.toList_data, Lib.toList_data, hu]; exact beq_iff_eq.2 heq
                have HQ := Lib.hid heq
                clear heq hu ho
                go_wp2_with fail
                go_ret2
                exact ⟨.inl ⟨N, HNI.out, HQ.out.symm, rfl⟩, HO.out⟩
              · have hq : (u.toList == t.toList) = false := by
                  rw [Lib.toList_data, Lib.toList_data, hu]; exact beq_eq_false_iff_ne.2 heq
                have HQ := Lib.hid (HNO.out heq)
                clear heq hu ho
                go_wp2_with fail
                go_ret2
                exact ⟨.inr ⟨HQ.out, _, rfl⟩, HO.out⟩
end Go.Proofs.YtmgbcjjemlcfgaaDoor
