/- What is proved here: a number read off a text, by the reference of layer 1. No conditions but that the text is short. -/
import Derived.Test.YtclpebgjmgfigaaGreatDoorG2
import Derived.Test.YtclpebgjmgfigaaGreatDoorG1
namespace Go.Proofs.YtclpebgjmgfigaaGreatDoor
open Go.RowKit Go.Shelf
/-- What holds between two digits. -/
def NumP (t : ByteArray) (b : Nat) (w : World) (v j : Value) (wr : World) : Prop :=
  ∃ q : Nat, b ≤ q ∧ q ≤ t.size ∧ v = .int .i64 (upS t.data.toList q) ∧ j = .int .i64 (q : Int) ∧ wr = w
set_option maxRecDepth 100000 in
set_option maxHeartbeats 2000000 in
theorem num01_any (t : ByteArray) (ht : t.size ≤ 100000000) (w : World) : Calls Tryz.prog 106 #[.string t] w fun e w' => NumE t.data.toList e ∧ Only NoneOf w w' := by
  have hlen := size_len t
  by_cases hz : t.size = 0
  · have hno := no_empty (l := t.data.toList) (List.length_eq_zero_iff.1 (by omega))
    have HN := Lib.hid hno
    clear hno hlen
    have hz' : ¬ (0 : Int) < (t.size : Int) := by omega
    go_enter Tryz.func106, Tryz.ntmps106
    go_wp2_with fail
    go_ret2
    exact ⟨.inr ⟨HN.out, _, rfl⟩, Only.refl _ _⟩
  · have hp : 0 < t.size := by omega
    have hpi : (0 : Int) < (t.size : Int) := by omega
    have hg0 := str_get t 0 hp
    obtain ⟨c0, hc0⟩ : ∃ c, t[0] = c := ⟨_, rfl⟩
    rw [hc0] at hg0
    have hhead : t.data.toList.head? = some c0 := by rw [← hg0]; exact List.head?_eq_getElem?
    by_cases h45 : c0 = 45
    · subst h45
      have hb : beg t.data.toList = 1 := by unfold beg; rw [if_pos hhead]
      have e45 : ((45 : UInt8).toNat : Int) = 45 := rfl
      clear hhead hg0
      by_cases hA : t.size = 1
      · have HN := Lib.hid (no_short (l := t.data.toList) (by rw [hb, hlen]; omega))
        have hA' : (t.size : Int) = 1 := by omega
        clear hlen hb
        go_enter Tryz.func106, Tryz.ntmps106
        go_wp2_with fail
        go_ret2
        exact ⟨.inr ⟨HN.out, _, rfl⟩, Only.refl _ _⟩
      · have hA' : ((t.size : Int) == 1) = false := by rw [beq_eq_false_iff_ne]; omega
        have hA2 : 1 ≤ t.size := by omega
        by_cases hB : 20 < t.size
        · have HN := Lib.hid (no_long (l := t.data.toList) (by rw [hb, hlen]; omega))
          have hB' : (20 : Int) < (t.size : Int) := by omega
          clear hlen hb
          go_enter Tryz.func106, Tryz.ntmps106
          go_wp2_with fail
          go_ret2
          exact ⟨.inr ⟨HN.out, _, rfl⟩, Only.refl _ _⟩
        · have hB' : ¬ (20 : Int) < (t.size : Int) := by omega
          have HLEN := Lib.hid hlen
          have HBB := Lib.hid hb
          clear hlen hb
          go_enter Tryz.func106, Tryz.ntmps106
          go_wp2_with fail
          go_loopw [4, 5] (fun v j wr => NumP t 1 w v j wr) (fun _ j _ => t.size - (intOf j).toNat)
          case atStart => exact ⟨1, Nat.le_refl _, by omega, by have h := @upS_zero t.data.toList; rw [HBB.out] at h; rw [h], rfl, rfl⟩
          case round =>
            obtain ⟨q, hq, hqs, rfl, rfl, rfl⟩ := hrel
            have hui := upS_in t.data.toList q
            by_cases hlt : q < t.size
            · have hg := str_get t q hlt
              obtain ⟨c, hc⟩ : ∃ c, t[q] = c := ⟨_, rfl⟩
              rw [hc] at hg
              have q0 : (0 : Int) ≤ (q : Int) := by omega
              have q1 : (q : Int) < (t.size : Int) := by omega
              by_cases hd : digit c
              · have hst := upS_minus HBB.out hq hg hd
                have hui2 := upS_in t.data.toList (q + 1)
                obtain ⟨v, ev⟩ : ∃ v, v = upS t.data.toList q := ⟨_, rfl⟩
                obtain ⟨v2, ev2⟩ : ∃ v2, v2 = upS t.data.toList (q + 1) := ⟨_, rfl⟩
                rw [← ev] at hst ⊢
                rw [← ev2] at hst hui2
                obtain ⟨v1, ev1⟩ : ∃ v1, IntKind.i64.wrap (10 * v) = v1 := ⟨_, rfl⟩
                rw [ev1] at hst
                unfold digit at hd
                have d0 : ¬ (c.toNat : Int) < 48 := by omega
                have d1 : ¬ (57 : Int) < (c.toNat : Int) := by omega
                have w8 : IntKind.u8.wrap ((c.toNat : Int) - 48) = (c.toNat : Int) - 48 := by
                  simp only [IntKind.wrap, IntKind.bits, IntKind.signed]
                  simp
                  omega
                have wd : IntKind.i64.wrap ((c.toNat : Int) - 48) = (c.toNat : Int) - 48 := IntWalk.i64_in _ (by omega)
                have w2 : IntKind.i64.wrap v2 = v2 := wrap_of hui2
                have wq : IntKind.i64.wrap ((q : Int) + 1) = (q : Int) + 1 := IntWalk.i64_in _ (by omega)
                have FIN : Hid (NumP t 1 wr (.int .i64 v2) (.int .i64 ((q : Int) + 1)) wr) := Lib.hid ⟨q + 1, by omega, by omega, by rw [ev2], by simp, rfl⟩
                clear hui hui2 ev ev2 hg hq
                go_wp2_with fail
                go_roundw
                case rel => exact FIN.out
                case measure => simp [intOf]; omega
              · have HN := Lib.hid (no_digit (l := t.data.toList) (by rw [HBB.out]; exact hq) hg hd)
                clear hg hq hui
                by_cases d0 : (c.toNat : Int) < 48
                · clear hd
                  go_wp2_with fail
                  go_ret2
                  exact ⟨.inr ⟨HN.out, _, rfl⟩, Only.refl _ _⟩
                · have d1 : (57 : Int) < (c.toNat : Int) := by unfold digit at hd; omega
                  clear hd
                  go_wp2_with fail
                  go_ret2
                  exact ⟨.inr ⟨HN.out, _, rfl⟩, Only.refl _ _⟩
            · obtain rfl : q = t.size := by omega
              have hall := @upS_all t.data.toList
              rw [HLEN.out] at hall
              have hni := numV_in t.data.toList
              have hno := no_text (l := t.data.toList)
              obtain ⟨v, ev⟩ : ∃ v, v = upS t.data.toList t.size := ⟨_, rfl⟩
              obtain ⟨N, eN⟩ : ∃ N, N = numV t.data.toList := ⟨_, rfl⟩
              rw [← ev, ← eN] at hall
              rw [← eN] at hni hno
              rw [← ev]
              obtain rfl : N = v := hall.symm
              have HNO := Lib.hid hno
              have HNI := Lib.hid hni
              clear hall hni hno eN hui ev hq
              go_wp2_with fail
              refine (decimal_any N HNI.out.1 HNI.out.2 wr).mono ?_
              rintro e w2 ⟨u, rfl, hu, ho⟩
              have HO := Lib.hid ho
              by_cases heq : Lib.itoa N = t.data.toList
              · have hq : (u.toList == t.toList) = true := by
                  rw [Lib.toList_data, Lib.toList_data, hu]; exact beq_iff_eq.2 heq
                have HQ := Lib.hid heq
                clear heq hu ho
                go_wp2_with fail
                go_ret2
                exact ⟨.inl ⟨N, HNI.out, HQ.out.symm, rfl⟩, HO.out⟩
              · have hq : (u.toList == t.toList) = false := by
                  rw [Lib.toList_data, Lib.toList_data, hu]; exact beq_eq_false_iff_ne.2 heq
                have HN := Lib.hid (HNO.out heq)
                clear heq hu ho
                go_wp2_with fail
                go_ret2
                exact ⟨.inr ⟨HN.out, _, rfl⟩, HO.out⟩
    · have hb : beg t.data.toList = 0 := by unfold beg; rw [if_neg (by rw [hhead]; intro h; exact h45 (by simpa using h))]
      have e45 : ¬ (c0.toNat : Int) = 45 := fun h => h45 (UInt8.toNat_inj.1 (by show c0.toNat = 45; omega))
      clear hhead hg0
      by_cases hA : t.size = 0
      · exact absurd hA hz
      · have hA' : ((t.size : Int) == 0) = false := by rw [beq_eq_false_iff_ne]; omega
        by_cases hB : 20 < t.size
        · have HN := Lib.hid (no_long (l := t.data.toList) (by rw [hb, hlen]; omega))
          have hB' : (20 : Int) < (t.size : Int) := by omega
          clear hlen hb
          go_enter Tryz.func106, Tryz.ntmps106
          go_wp2_with fail
          go_ret2
          exact ⟨.inr ⟨HN.out, _, rfl⟩, Only.refl _ _⟩
        · have hB' : ¬ (20 : Int) < (t.size : Int) := by omega
          have HLEN := Lib.hid hlen
          have HBB := Lib.hid hb
          clear hlen hb
          go_enter Tryz.func106, Tryz.ntmps106
          go_wp2_with fail
          go_loopw [4, 5] (fun v j wr => NumP t 0 w v j wr) (fun _ j _ => t.size - (intOf j).toNat)
          case atStart => exact ⟨0, Nat.le_refl _, by omega, by have h := @upS_zero t.data.toList; rw [HBB.out] at h; rw [h], rfl, rfl⟩
          case round =>
            obtain ⟨q, hq, hqs, rfl, rfl, rfl⟩ := hrel
            have hui := upS_in t.data.toList q
            by_cases hlt : q < t.size
            · have hg := str_get t q hlt
              obtain ⟨c, hc⟩ : ∃ c, t[q] = c := ⟨_, rfl⟩
              rw [hc] at hg
              have q0 : (0 : Int) ≤ (q : Int) := by omega
              have q1 : (q : Int) < (t.size : Int) := by omega
              by_cases hd : digit c
              · have hst := upS_plus HBB.out hg hd
                have hui2 := upS_in t.data.toList (q + 1)
                obtain ⟨v, ev⟩ : ∃ v, v = upS t.data.toList q := ⟨_, rfl⟩
                obtain ⟨v2, ev2⟩ : ∃ v2, v2 = upS t.data.toList (q + 1) := ⟨_, rfl⟩
                rw [← ev] at hst ⊢
                rw [← ev2] at hst hui2
                obtain ⟨v1, ev1⟩ : ∃ v1, IntKind.i64.wrap (10 * v) = v1 := ⟨_, rfl⟩
                rw [ev1] at hst
                unfold digit at hd
                have d0 : ¬ (c.toNat : Int) < 48 := by omega
                have d1 : ¬ (57 : Int) < (c.toNat : Int) := by omega
                have w8 : IntKind.u8.wrap ((c.toNat : Int) - 48) = (c.toNat : Int) - 48 := by
                  simp only [IntKind.wrap, IntKind.bits, IntKind.signed]
                  simp
                  omega
                have wd : IntKind.i64.wrap ((c.toNat : Int) - 48) = (c.toNat : Int) - 48 := IntWalk.i64_in _ (by omega)
                have w2 : IntKind.i64.wrap v2 = v2 := wrap_of hui2
                have wq : IntKind.i64.wrap ((q : Int) + 1) = (q : Int) + 1 := IntWalk.i64_in _ (by omega)
                have FIN : Hid (NumP t 0 wr (.int .i64 v2) (.int .i64 ((q : Int) + 1)) wr) := Lib.hid ⟨q + 1, by omega, by omega, by rw [ev2], by simp, rfl⟩
                clear hui hui2 ev ev2 hg hq
                go_wp2_with fail
                go_roundw
                case rel => exact FIN.out
                case measure => simp [intOf]; omega
              · have HN := Lib.hid (no_digit (l := t.data.toList) (by rw [HBB.out]; exact hq) hg hd)
                clear hg hq hui
                by_cases d0 : (c.toNat : Int) < 48
                · clear hd
                  go_wp2_with fail
                  go_ret2
                  exact ⟨.inr ⟨HN.out, _, rfl⟩, Only.refl _ _⟩
                · have d1 : (57 : Int) < (c.toNat : Int) := by unfold digit at hd; omega
                  clear hd
                  go_wp2_with fail
                  go_ret2
                  exact ⟨.inr ⟨HN.out, _, rfl⟩, Only.refl _ _⟩
            · obtain rfl : q = t.size := by omega
              have hall := @upS_all t.data.toList
              rw [HLEN.out] at hall
              have hni := numV_in t.data.toList
              have hno := no_text (l := t.data.toList)
              obtain ⟨v, ev⟩ : ∃ v, v = upS t.data.toList t.size := ⟨_, rfl⟩
              obtain ⟨N, eN⟩ : ∃ N, N = numV t.data.toList := ⟨_, rfl⟩
              rw [← ev, ← eN] at hall
              rw [← eN] at hni hno
              rw [← ev]
              obtain rfl : N = v := hall.symm
              have HNO := Lib.hid hno
              have HNI := Lib.hid hni
              clear hall hni hno eN hui ev hq
              go_wp2_with fail
              refine (decimal_any N HNI.out.1 HNI.out.2 wr).mono ?_
              rintro e w2 ⟨u, rfl, hu, ho⟩
              have HO := Lib.hid ho
              by_cases heq : Lib.itoa N = t.data.toList
              · have hq : (u.toList == t.toList) = true := by
                  rw [Lib.toList_data, Lib.toList_data, hu]; exact beq_iff_eq.2 heq
                have HQ := Lib.hid heq
                clear heq hu ho
                go_wp2_with fail
                go_ret2
                exact ⟨.inl ⟨N, HNI.out, HQ.out.symm, rfl⟩, HO.out⟩
              · have hq : (u.toList == t.toList) = false := by
                  rw [Lib.toList_data, Lib.toList_data, hu]; exact beq_eq_false_iff_ne.2 heq
                have HN := Lib.hid (HNO.out heq)
                clear heq hu ho
                go_wp2_with fail
                go_ret2
                exact ⟨.inr ⟨HN.out, _, rfl⟩, HO.out⟩
end Go.Proofs.YtclpebgjmgfigaaGreatDoor
