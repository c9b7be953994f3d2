/- What is proved here: how the reference of layer 1 takes integers apart and puts them together. Conditions: the integers have 64 bits. -/
import Derived.Test.YtdgapomeenigbaaDoorRefD
namespace Go.Proofs.YtdgapomeenigbaaDoor
open Go.RowKit
/-- A number of the reference: its sign and its digits. -/
def bigV (neg : Bool) (v : Value) : Value := .agg #[.bool neg, v]
theorem dg16_take_snoc {m k : Nat} (h : m / 65536 ^ k ≠ 0) : (dg16 m).take (k + 1) = (dg16 m).take k ++ [m / 65536 ^ k % 65536] := take_snoc' (dg16_at m k h)
theorem dg16_size {m k : Nat} (h : m / 65536 ^ k ≠ 0) : k < (dg16 m).length := (List.getElem?_eq_some_iff.1 (dg16_at m k h)).1
theorem div_next (m k : Nat) : m / 65536 ^ (k + 1) = m / 65536 ^ k / 65536 := by rw [Nat.pow_succ, ← Nat.div_div_eq_div_mul]
theorem dg16_end (m : Nat) : m / 65536 ^ (dg16 m).length = 0 := by
  have h := dg16_drop (dg16 m).length m
  rw [List.drop_length] at h
  rcases Nat.eq_zero_or_pos (m / 65536 ^ (dg16 m).length) with h0 | h0
  · exact h0
  · rw [dg16_pos (by omega)] at h; cases h
theorem dg16_len4 {m : Nat} (h : m ≤ 9223372036854775808) : (dg16 m).length ≤ 4 := dg16_len 4 m (by rw [pow64]; omega)
def OfI (w : World) (m k : Nat) (v : Value) (wr : World) : Prop := wr.ownsRow (w.heap.size + 1) 3 1 v ((dg16 m).take k).length (((dg16 m).take k).map dv) ∧ Blk wr w.heap.size 86 #[.bool false, .slice none 0 0] ∧ Only NoneOf w wr
theorem wrap_u (x : Int) (h0 : 0 ≤ x) (h1 : x < 18446744073709551616) : IntKind.u64.wrap x = x := by
  simp [IntKind.wrap, IntKind.bits, IntKind.signed]; omega
set_option maxRecDepth 100000 in
set_option maxHeartbeats 1000000 in
theorem of_any (n : Int) (h0 : -9223372036854775808 ≤ n) (h1 : n ≤ 9223372036854775807) (w : World) :
    Calls Tryd.prog 62 #[.int .i64 n] w fun e w' => ∃ v, e = .returned (bigV (decide (n < 0)) v) ∧ Rd w' v (dg16 n.natAbs) ∧ Only NoneOf w w' := by
  obtain ⟨m, em⟩ : ∃ m, m = n.natAbs := ⟨_, rfl⟩
  obtain ⟨i0, hi0, hz0, hz1, hz2⟩ := info_parts info_i64
  have hm : m ≤ 9223372036854775808 := by omega
  have hl4 := dg16_len4 hm
  rw [← em]
  have EM := Lib.hid em
  have HL4 := Lib.hid hl4
  clear em hl4
  obtain ⟨nb, enb⟩ : ∃ nb : Bool, decide (n < 0) = nb := ⟨_, rfl⟩
  have hM : ∀ k, m / 65536 ^ k ≤ 9223372036854775808 := fun k => Nat.le_trans (Nat.div_le_self _ _) hm
  have HM := Lib.hid hM
  have HMM := Lib.hid hm
  clear hM hm
  have key : ∀ (x : Int), (n < 0 → x = 18446744073709551616 + n) → True := fun _ _ => trivial
  clear key
  rw [enb]
  by_cases hn : n < 0
  all_goals
    first
      | have hu : IntKind.u64.wrap n = 18446744073709551616 + n := by simp [IntKind.wrap, IntKind.bits, IntKind.signed]; omega
        have hv : IntKind.u64.wrap (-(18446744073709551616 + n)) = (m : Int) := by
          have := EM.out
          have := HMM.out
          simp [IntKind.wrap, IntKind.bits, IntKind.signed]; omega
      | have hu : IntKind.u64.wrap n = (m : Int) := by
          have := EM.out
          simp [IntKind.wrap, IntKind.bits, IntKind.signed]; omega
    first
      | (have e1 := decide_eq_true hn; rw [enb] at e1; subst e1; clear enb)
      | (have e1 := decide_eq_false hn; have hdd := e1; rw [enb] at e1; subst e1; clear enb)
    have HN0 := Lib.hid h0
    have HN1 := Lib.hid h1
    clear h0 h1
    go_enter Tryd.func62, Tryd.ntmps62
    go_wp2_with fail
    clear hu
    (try clear hv)
    go_loopw [3, 4] (fun a b wr => ∃ k : Nat, b = .int .u64 ((m / 65536 ^ k : Nat) : Int) ∧ k ≤ 4 ∧ OfI w m k a wr) (fun _ b _ => (intOf b).toNat)
    case atStart => exact ⟨0, by simp, by omega, by simpa using World.ownsRow_nil _ _ _ _, Blk.new w _ _, (Only.refl _ _).alloc _⟩
    case round =>
      obtain ⟨k, rfl, hk, hI⟩ := hrel
      obtain ⟨q, eq⟩ : ∃ q, q = m / 65536 ^ k := ⟨_, rfl⟩
      have hq := HM.out k
      rw [← eq] at hq ⊢
      have HI := Lib.hid hI
      have HEQ := Lib.hid eq
      clear hI eq
      obtain ⟨l, el⟩ : ∃ l, l = ((dg16 m).take k).length := ⟨_, rfl⟩
      have hown := HI.out.1
      rw [← el] at hown
      have hl : l ≤ 4 := by rw [el, List.length_take]; omega
      obtain ⟨A3, c3, e3, hc3, hc3m⟩ := own_form' hown
      unfold maxLen at hc3m
      subst e3
      have HO := Lib.hid hown
      have EL := Lib.hid el
      clear hown el
      obtain ⟨B, eB⟩ : ∃ B, B = w.heap.size := ⟨_, rfl⟩
      have hblk := HI.out.2.1
      rw [← eB] at hblk ⊢
      have HBB := Lib.hid hblk
      have EB := Lib.hid eB
      have c0 : wr.cell? ⟨B, 0, none⟩ = some (.bool false) := hblk.cell 0
      have c1 : wr.cell? ⟨B, 1, none⟩ = some (.slice none 0 0) := hblk.cell 1
      have f0 := hblk.frozen 0
      have f1 := hblk.frozen 1
      clear hblk eB
      by_cases hq0 : q = 0
      · subst hq0
        go_wp2_with fail
        have hb2 := fun x => (HBB.out.set_ 0 (.bool x)).set_ 1 (.slice A3 l c3)
        have hall : (dg16 m).take k = dg16 m := dg16_all m k HEQ.out.symm
        have hrd : Rd wr (.slice A3 l c3) (dg16 m) := by
          have h := HO.out
          rw [hall] at h
          exact Rd.of_own h
        have hne : ∀ j, (Value.slice A3 l c3).ownBlock = some j → ¬ j = B := fun j hj e => by have := (own_ge HO.out hj).1; have := EB.out; omega
        refine bodyPost_ret (results_blk rfl rfl (hb2 _) Tryd.underlying86 rfl (by kernel_rfl)) rfl ⟨_, rfl, hrd.onlyS (((Only.refl (fun j => j = B) _).setCell (.inl rfl) _).setCell (.inl rfl) _) hne, ?_⟩
        exact (HI.out.2.2.setCell (.inr (by rw [EB.out]; exact Nat.le_refl _)) _).setCell (.inr (by rw [EB.out]; exact Nat.le_refl _)) _
      · have hq1 : (0 : Int) < (q : Int) := by omega
        have hw1 : IntKind.i64.wrap ((q : Int) % 65536) = (q : Int) % 65536 := IntWalk.i64_in _ (by omega)
        obtain ⟨r, er⟩ : ∃ r, r = q % 65536 := ⟨_, rfl⟩
        have er2 : (q : Int) % 65536 = (r : Int) := by omega
        have hk5 : k < (dg16 m).length := dg16_size (by rw [← HEQ.out]; exact hq0)
        have hlk : l = k := by rw [EL.out, List.length_take]; omega
        have hsz := HI.out.2.2.size
        have hsn : (dg16 m).take (k + 1) = (dg16 m).take k ++ [r] := by rw [dg16_take_snoc (by rw [← HEQ.out]; exact hq0), ← HEQ.out, er]
        have HSN := Lib.hid hsn
        have HLK := Lib.hid hlk
        have ER := Lib.hid er
        rw [er2] at hw1
        clear hsn hlk er
        go_wp2_with (at_builtin; refine wpList_append_own _ rfl _ _ 36 rfl (w.heap.size + 1) 3 i0 _ 1 8 Tryd.underlying36 hi0 hz0 hz1 hz2 rfl (by decide) (.slice A3 l c3) l _ rfl (by exact (HO.out.alloc _)) ⟨wr.heap.size, 0, none⟩ 1 1 [.int .i64 (r : Int)] rfl rfl (World.news_of_block (cs := #[.int .i64 (r : Int)]) (t := 3) (fr := (0, 0)) (by simpa using heap_alloc_new wr _)) (by simp [Value.oneCell']) (by rw [maxLen_val]; omega) (by omega) (by have := HI.out.2.1.lt; simp; omega) ?_; intro v' w1 hown1 hgrow _)
        go_roundw
        case rel =>
          refine ⟨k + 1, ?_, ?_, ?_, ?_, ?_⟩
          · rw [div_next, ← HEQ.out]; congr 1
          · have := HL4.out; omega
          · rw [HSN.out, List.map_append, List.length_append, ← EL.out]; exact hown1
          · have h := HBB.out
            rw [EB.out] at h
            exact (h.alloc _).grown hgrow (fun e => by have := (own_ge HO.out e.symm).1; omega)
          · exact (HI.out.2.2.alloc _).grown hgrow (fun j e => .inr (by have := (own_ge HO.out e).1; omega))
        case measure => simp [intOf]; omega
def FitI (m : Nat) (len : Nat) (a b : Value) : Prop := ∃ k : Nat, k ≤ len ∧ b = .int .i64 ((k : Int) - 1) ∧ a = .int .u64 ((m / 65536 ^ k : Nat) : Int)
set_option maxRecDepth 100000 in
set_option maxHeartbeats 1000000 in
theorem fit_any (neg : Bool) (v : Value) (m : Nat) (w : World) (hv : Rd w v (dg16 m)) (hm : m ≤ 9223372036854775808) (hn : neg = true ∧ 0 < m ∨ neg = false ∧ m < 9223372036854775808) :
    Calls Tryd.prog 74 #[bigV neg v] w fun e w' => e = .returned (.tuple #[.int .i64 (if neg then -(m : Int) else (m : Int)), .bool true]) ∧ Only NoneOf w w' := by
  have hl4 := dg16_len4 hm
  obtain ⟨g0, c0, rfl, hc0, hc0m⟩ := hv.form
  obtain ⟨len, elen⟩ : ∃ len, len = (dg16 m).length := ⟨_, rfl⟩
  rw [← elen] at hl4 hc0 hv ⊢
  have HV := Lib.hid (hv.only ((Only.refl NoneOf w).alloc (.cells #[.bool neg, .slice g0 len c0] 86)))
  have EL := Lib.hid elen
  have hM : ∀ k, m / 65536 ^ k ≤ 9223372036854775808 := fun k => Nat.le_trans (Nat.div_le_self _ _) hm
  have HM := Lib.hid hM
  have HMM := Lib.hid hm
  clear hv elen hM hm
  unfold bigV
  go_enter Tryd.func74, Tryd.ntmps74
  go_wp2_with fail
  refine (trim_any HV.out).mono ?_
  rintro e w1 ⟨v1, rfl, hv1, hw1⟩
  rw [hw1]
  rw [dg16_trim] at hv1
  have HV1 := Lib.hid hv1
  obtain ⟨g1, c1, e1, hc1, hc1m⟩ := hv1.form
  rw [← EL.out] at e1 hc1
  subst e1
  clear hv1 hw1
  go_wp2_with fail
  have hcell : ∀ (i d : Nat), (dg16 m)[i]? = some d → ∃ g, g1 = some ⟨g, 0, none⟩ ∧ (w.alloc (.cells #[.bool neg, .slice g0 len c0] 86)).cell? ⟨g, i, none⟩ = some (.int .i64 (d : Int)) := fun i d hd => by
    obtain ⟨g, c, he, _, _, _, hc⟩ := HV1.out.cells (by intro e; rw [e] at hd; simp at hd)
    simp only [Value.slice.injEq] at he
    exact ⟨g, he.1, hc i d hd⟩
  have HCELL := Lib.hid hcell
  have z0 : m / 65536 ^ len = 0 := by rw [EL.out]; exact dg16_end m
  have Z0 := Lib.hid z0
  clear hcell z0
  go_loop [5, 6] (fun a b => FitI m len a b) (fun _ b => (intOf b + 1).toNat)
  case atStart => exact ⟨len, Nat.le_refl _, rfl, by rw [Z0.out]; rfl⟩
  case round =>
    obtain ⟨k, hk, rfl, rfl⟩ := hrel
    rcases Nat.eq_zero_or_pos k with h0 | h0
    · subst h0
      rw [Nat.pow_zero, Nat.div_one]
      have hb0 := HMM.out
      cases neg with
      | true =>
        have hle : decide ((m : Int) ≤ 9223372036854775808) = true := decide_eq_true (by omega)
        have hm0 : 0 < m := by simpa using hn
        have hw1 : IntKind.u64.wrap (-(m : Int)) = 18446744073709551616 - (m : Int) := by simp [IntKind.wrap, IntKind.bits, IntKind.signed]; omega
        have hw2 : IntKind.i64.wrap (18446744073709551616 - (m : Int)) = -(m : Int) := by rw [IntKind.wrap_i64]; omega
        clear hn hb0 hm0
        go_wp2_with fail
        go_ret2
        exact ⟨rfl, (Only.refl _ _).alloc _⟩
      | false =>
        have hm1 : m < 9223372036854775808 := by simpa using hn
        have hge : decide (9223372036854775808 ≤ (m : Int)) = false := decide_eq_false (by omega)
        have hw2 : IntKind.i64.wrap (m : Int) = (m : Int) := IntWalk.i64_in _ (by omega)
        clear hn hb0 hm1
        go_wp2_with fail
        go_ret2
        exact ⟨rfl, (Only.refl _ _).alloc _⟩
    · obtain ⟨i, rfl⟩ : ∃ i, k = i + 1 := ⟨k - 1, by omega⟩
      have hlast : m / 65536 ^ i ≠ 0 := by
        intro e
        have h1 := dg16_all m i e
        have h2 := congrArg List.length h1
        rw [List.length_take, ← EL.out] at h2
        omega
      have hat := dg16_at m i hlast
      have hst := dg16_step m i
      obtain ⟨d, ed⟩ : ∃ d, d = m / 65536 ^ i % 65536 := ⟨_, rfl⟩
      obtain ⟨q, eq⟩ : ∃ q, q = m / 65536 ^ (i + 1) := ⟨_, rfl⟩
      obtain ⟨p, ep⟩ : ∃ p, p = m / 65536 ^ i := ⟨_, rfl⟩
      have hp := HM.out i
      rw [← ed] at hat
      rw [← ed, ← eq, ← ep] at hst
      rw [← ep] at hp
      rw [← eq]
      obtain ⟨g, rfl, hc⟩ := HCELL.out i d hat
      rw [show ((i + 1 : Nat) : Int) - 1 = (i : Int) by omega]
      have i0 : (0 : Int) ≤ (i : Int) := by omega
      have il : (i : Int) < (len : Int) := by omega
      have hw1 : IntKind.u64.wrap ((q : Int) * 65536) = (q : Int) * 65536 := wrap_u _ (by omega) (by omega)
      have hw2 : IntKind.u64.wrap (d : Int) = (d : Int) := wrap_u _ (by omega) (by omega)
      have hw3 : IntKind.u64.wrap ((q : Int) * 65536 + (d : Int)) = (p : Int) := by rw [wrap_u _ (by omega) (by omega)]; omega
      have EP := Lib.hid ep
      clear hat hst hlast ed eq ep hp hn
      go_wp2_with fail
      go_round
      case rel => exact ⟨i, by omega, rfl, by rw [EP.out]⟩
      case measure => simp [intOf]
end Go.Proofs.YtdgapomeenigbaaDoor
