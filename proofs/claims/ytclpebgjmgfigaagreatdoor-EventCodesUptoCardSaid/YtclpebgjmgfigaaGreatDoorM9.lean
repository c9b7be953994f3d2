/- What is proved here: several parts. the first reference's decimal texts of integers. Conditions: the integers have 64 bits. · numbers written to the base 65536, in plain Lean, and slices that read as such digits. No function of the program. No conditions. · how the reference of layer 1 trims, compares, multiplies and subtracts rows of at most one digit. Conditions: the rows read as digits. · how the reference of layer 1 multiplies one by a digit, subtracts a digit from itself, and divides by one. Conditions: the rows read as digits. · how the reference of layer 1 divides a row of digits by one. Conditions: the rows read as digits. · how the reference of layer 1 takes integers apart and puts them together. Conditions: the integers have 64 bits. · an integer over one is in lowest terms by the reference of layer 1; its text is its decimal form. Conditions: the integer has 64 bits. · the text of an integer by the reference is its decimal form. Conditions: the integer has 64 bits. -/
import Derived.Test.YtclpebgjmgfigaaGreatDoorM4
import Derived.Test.YtclpebgjmgfigaaGreatDoorM3
import Derived.Deep.OwnRows
import Derived.Lib.AppendZeros
import Derived.Deep.AppendLies
import Derived.Deep.RegionHeld3
import Derived.Deep.RegionLaw
namespace Go.Proofs.YtclpebgjmgfigaaGreatDoor
open Go.RowKit
set_option maxHeartbeats 400000 in
theorem digit_any (u : Nat) (hu : u < 10) (w : World) : Calls Tryz.prog 94 #[.int .i64 (u : Int)] w (RetStr (Lib.decDigits u) w) := by
  have hr : (u : Int) < 10 := by omega
  have h0 : ¬ (u : Int) < 0 := by omega
  have hd : decide ((u : Int) < 0) = false := decide_eq_false h0
  obtain ⟨b, eb⟩ : ∃ b, b = UInt8.ofNat (48 + u) := ⟨_, rfl⟩
  have EB := Lib.hid eb
  clear eb
  have tok : True := trivial
  go_enter Tryz.func94, Tryz.ntmps94
  go_wp2_with (have _t := tok; refine wpList_convert_back rfl 39 9 5 (.tmp 28) rfl w.heap.size 0 1 1 rfl [b] rfl (bytesAt_one _ _ _ _ ?hv) Tryz.underlying39 Tryz.underlying5 Tryz.underlying9 ?_; clear tok _t)
  case hv => rw [EB.out]; simp; omega
  go_ret
  exact RetStr.mk (by rw [dec_small hu, ← EB.out]) ((Only.refl NoneOf w).alloc _)
set_option maxHeartbeats 400000 in
theorem decpos_any (k : Nat) : ∀ (u : Nat) (w : World), u ≤ k → u ≤ 9223372036854775807 → Calls Tryz.prog 94 #[.int .i64 (u : Int)] w (RetStr (Lib.decDigits u) w) := by
  induction k with
  | zero => intro u w hk _; exact digit_any u (by omega) w
  | succ k ih =>
    intro u w hk hm
    by_cases h10 : u < 10
    · exact digit_any u h10 w
    · have c1 := ih (u / 10)
      have c2 := digit_any (u % 10) (by omega)
      have e1 : ((u / 10 : Nat) : Int) = (u : Int) / 10 := by omega
      have e2 : ((u % 10 : Nat) : Int) = (u : Int) % 10 := by omega
      rw [e1] at c1
      rw [e2] at c2
      have C1 := Lib.hid c1
      have C2 := Lib.hid c2
      have HB := Lib.hid (dec_big h10)
      have L1 := Lib.hid (dec_len20 (u := u / 10) (by omega))
      have h0 : ¬ (u : Int) < 0 := by omega
      have hd : decide ((u : Int) < 0) = false := decide_eq_false h0
      have h9 : ¬ (u : Int) < 10 := by omega
      clear c1 c2 e1 e2 ih
      go_enter Tryz.func94, Tryz.ntmps94
      go_wp2_with fail
      refine (C1.out _ (by omega) (by omega)).mono ?_
      rintro e w1 ⟨t1, rfl, ht1, ho1⟩
      have z1 : t1.size ≤ 20 := by rw [size_list, ht1]; exact L1.out
      have HT1 := Lib.hid ht1
      have HO1 := Lib.hid ho1
      clear ht1 ho1
      go_wp2_with fail
      refine (C2.out _).mono ?_
      rintro e w2 ⟨t2, rfl, ht2, ho2⟩
      have z2 : t2.size ≤ 20 := by rw [size_list, ht2, dec_small (by omega)]; simp
      have HT2 := Lib.hid ht2
      have HO2 := Lib.hid ho2
      clear ht2 ho2
      go_wp2_with fail
      go_ret
      refine RetStr.mk ?_ (HO1.out.trans HO2.out)
      rw [append_list, HT1.out, HT2.out, dec_small (u := u % 10) (by omega), HB.out]
set_option maxHeartbeats 400000 in
theorem decneg_any (k : Nat) : ∀ (u : Nat) (w : World), u ≤ k → 0 < u → u ≤ 9223372036854775808 → Calls Tryz.prog 94 #[.int .i64 (-(u : Int))] w (RetStr (45 :: Lib.decDigits u) w) := by
  induction k with
  | zero => intro u w hk h0 _; omega
  | succ k ih =>
    intro u w hk hp hm
    by_cases h10 : u < 10
    · have C2 := Lib.hid (digit_any u h10)
      have HT := Lib.hid (dec_small h10)
      have h0 : -(u : Int) < 0 := by omega
      have hd : decide (-(u : Int) < 0) = true := decide_eq_true h0
      have h9 : -10 < -(u : Int) := by omega
      have hn : IntKind.i64.wrap (- -(u : Int)) = (u : Int) := by rw [Int.neg_neg]; exact IntWalk.i64_in _ (by omega)
      clear ih
      go_enter Tryz.func94, Tryz.ntmps94
      go_wp2_with fail
      refine (C2.out _).mono ?_
      rintro e w2 ⟨t2, rfl, ht2, ho2⟩
      have z2 : t2.size ≤ 20 := by rw [size_list, ht2, HT.out]; simp
      have HT2 := Lib.hid ht2
      have HO2 := Lib.hid ho2
      clear ht2 ho2
      go_wp2_with fail
      go_ret
      refine RetStr.mk ?_ HO2.out
      rw [append_list, HT2.out]
      rfl
    · have c1 := ih (u / 10)
      have c2 := digit_any (u % 10) (by omega)
      have e1 : ((u / 10 : Nat) : Int) = (u : Int) / 10 := by omega
      have e2 : ((u % 10 : Nat) : Int) = (u : Int) % 10 := by omega
      rw [e1] at c1
      rw [e2] at c2
      clear e1 e2
      have C1 := Lib.hid c1
      have C2 := Lib.hid c2
      have HB := Lib.hid (dec_big h10)
      have L1 := Lib.hid (dec_len20 (u := u / 10) (by omega))
      have h0 : -(u : Int) < 0 := by omega
      have hd : decide (-(u : Int) < 0) = true := decide_eq_true h0
      have h9 : ¬ -10 < -(u : Int) := by omega
      clear c1 c2 ih
      go_enter Tryz.func94, Tryz.ntmps94
      go_wp2_with fail
      refine (C1.out _ (by omega) (by omega) (by omega)).mono ?_
      rintro e w1 ⟨t1, rfl, ht1, ho1⟩
      have z1 : t1.size ≤ 21 := by rw [size_list, ht1]; have := L1.out; simp; omega
      have HT1 := Lib.hid ht1
      have HO1 := Lib.hid ho1
      clear ht1 ho1
      go_wp2_with fail
      refine (C2.out _).mono ?_
      rintro e w2 ⟨t2, rfl, ht2, ho2⟩
      have z2 : t2.size ≤ 20 := by rw [size_list, ht2, dec_small (by omega)]; simp
      have HT2 := Lib.hid ht2
      have HO2 := Lib.hid ho2
      clear ht2 ho2
      go_wp2_with fail
      go_ret
      refine RetStr.mk ?_ (HO1.out.trans HO2.out)
      rw [append_list, HT1.out, HT2.out, dec_small (u := u % 10) (by omega), HB.out]
      rfl
theorem decimal_any (n : Int) (h0 : -9223372036854775808 ≤ n) (h1 : n ≤ 9223372036854775807) (w : World) : Calls Tryz.prog 94 #[.int .i64 n] w (RetStr (Lib.itoa n) w) := by
  by_cases h : n < 0
  · obtain ⟨u, rfl⟩ : ∃ u : Nat, n = -(u : Int) := ⟨n.natAbs, by omega⟩
    have := decneg_any u u w (Nat.le_refl _) (by omega) (by omega)
    have e : Lib.itoa (-(u : Int)) = 45 :: Lib.decDigits u := by unfold Lib.itoa; rw [if_pos h]; simp
    rw [e]
    exact this
  · obtain ⟨u, rfl⟩ : ∃ u : Nat, n = (u : Int) := ⟨n.toNat, by omega⟩
    have := decpos_any u u w (Nat.le_refl _) (by omega)
    have e : Lib.itoa (u : Int) = Lib.decDigits u := by unfold Lib.itoa; rw [if_neg h]; simp
    rw [e]
    exact this
end Go.Proofs.YtclpebgjmgfigaaGreatDoor
namespace Go.Proofs.YtclpebgjmgfigaaGreatDoor
open Go.RowKit

def dv (d : Nat) : Value := .int .i64 (d : Int)
theorem dv_one (D : List Nat) : ∀ v ∈ D.map dv, v.oneCell' = true := fun v hv => by obtain ⟨_, _, rfl⟩ := List.mem_map.1 hv; rfl
/-- Without the zeros at the end. -/
def trimL (D : List Nat) : List Nat := (D.reverse.dropWhile (· == 0)).reverse
theorem trimL_nil : trimL [] = [] := rfl
theorem trimL_snoc (D : List Nat) (d : Nat) : trimL (D ++ [d]) = if d = 0 then trimL D else D ++ [d] := by
  unfold trimL
  rw [List.reverse_append, List.reverse_singleton, List.singleton_append, List.dropWhile_cons]
  by_cases h : d = 0
  · simp [h]
  · simp [h]
theorem trimL_le (D : List Nat) : (trimL D).length ≤ D.length := by
  unfold trimL
  rw [List.length_reverse]
  have h := (List.dropWhile_sublist (l := D.reverse) (fun x => x == 0)).length_le
  rw [List.length_reverse] at h
  exact h
theorem trimL_one (d : Nat) : trimL [d] = if d = 0 then [] else [d] := trimL_snoc [] d
theorem take_snoc' {D : List Nat} {k d : Nat} (h : D[k]? = some d) : D.take (k + 1) = D.take k ++ [d] := by
  rw [List.take_add_one, h]; rfl
/-- The digits of a number, the least significant one first. -/
def dg16 (m : Nat) : List Nat := if h : m = 0 then [] else m % 65536 :: dg16 (m / 65536)
termination_by m
decreasing_by omega
theorem dg16_zero : dg16 0 = [] := by rw [dg16, dif_pos rfl]
theorem dg16_pos {m : Nat} (h : m ≠ 0) : dg16 m = m % 65536 :: dg16 (m / 65536) := by
  conv => lhs; rw [dg16, dif_neg h]
theorem dg16_one : dg16 1 = [1] := by rw [dg16_pos (by omega)]; simp [dg16_zero]
theorem dg16_len (k : Nat) : ∀ m, m < 65536 ^ k → (dg16 m).length ≤ k := by
  induction k with
  | zero => intro m h; have : m = 0 := by simpa using h
            subst this; simp [dg16_zero]
  | succ k ih =>
    intro m h
    by_cases h0 : m = 0
    · subst h0; simp [dg16_zero]
    · rw [dg16_pos h0, List.length_cons]
      have := ih (m / 65536) (by rw [Nat.pow_succ] at h; omega)
      omega
theorem dg16_drop (k : Nat) : ∀ m, (dg16 m).drop k = dg16 (m / 65536 ^ k) := by
  induction k with
  | zero => intro m; simp
  | succ k ih =>
    intro m
    by_cases h0 : m = 0
    · subst h0; simp [dg16_zero]
    · rw [dg16_pos h0, List.drop_succ_cons, ih, Nat.div_div_eq_div_mul, Nat.pow_succ, Nat.mul_comm]
theorem dg16_at (m k : Nat) (h : m / 65536 ^ k ≠ 0) : (dg16 m)[k]? = some (m / 65536 ^ k % 65536) := by
  have h1 : ((dg16 m).drop k)[0]? = some (m / 65536 ^ k % 65536) := by rw [dg16_drop, dg16_pos h]; rfl
  rw [List.getElem?_drop, Nat.add_zero] at h1
  exact h1
theorem dg16_all (m k : Nat) (h : m / 65536 ^ k = 0) : (dg16 m).take k = dg16 m := by
  have h1 := dg16_drop k m
  rw [h, dg16_zero] at h1
  have h2 := List.take_append_drop k (dg16 m)
  rw [h1, List.append_nil] at h2
  exact h2
theorem dg16_trim (m : Nat) : trimL (dg16 m) = dg16 m := by
  induction m using Nat.strongRecOn with
  | _ m ih =>
    by_cases h0 : m = 0
    · subst h0; simp [dg16_zero, trimL]
    · by_cases h1 : m / 65536 = 0
      · rw [dg16_pos h0, h1, dg16_zero, trimL_one, if_neg (by omega)]
      · have h2 := ih (m / 65536) (by omega)
        obtain ⟨x, l, hx⟩ : ∃ x l, dg16 (m / 65536) = l ++ [x] := by
          rcases List.eq_nil_or_concat (dg16 (m / 65536)) with e | ⟨l, x, e⟩
          · rw [dg16_pos h1] at e; cases e
          · exact ⟨x, l, by simpa using e⟩
        rw [hx, trimL_snoc] at h2
        rw [dg16_pos h0, hx, ← List.cons_append, trimL_snoc]
        by_cases hx0 : x = 0
        · exfalso
          rw [if_pos hx0] at h2
          have := congrArg List.length h2
          have := trimL_le l
          simp at *
          omega
        · rw [if_neg hx0]
theorem dg16_lt (m : Nat) : ∀ d ∈ dg16 m, d < 65536 := by
  induction m using Nat.strongRecOn with
  | _ m ih =>
    intro d hd
    by_cases h0 : m = 0
    · subst h0; rw [dg16_zero] at hd; cases hd
    · rw [dg16_pos h0] at hd
      rcases List.mem_cons.1 hd with e | e
      · subst e; omega
      · exact ih _ (by omega) d e
theorem dg16_pos_len {m : Nat} (h : m ≠ 0) : 0 < (dg16 m).length := by rw [dg16_pos h]; simp
/-- The number of digits, from one on. -/
theorem dg16_step (m i : Nat) : m / 65536 ^ i = m / 65536 ^ (i + 1) * 65536 + m / 65536 ^ i % 65536 := by
  rw [Nat.pow_succ, ← Nat.div_div_eq_div_mul]
  omega
theorem pow64 : (65536 : Nat) ^ 4 = 18446744073709551616 := rfl

/-- A slice that reads as these digits. -/
def Rd (w : World) (v : Value) (D : List Nat) : Prop :=
  (v = .slice none 0 0 ∧ D = []) ∨ ∃ g c, v = .slice (some ⟨g, 0, none⟩) D.length c ∧ D.length ≤ c ∧ c ≤ maxLen ∧ g < w.heap.size ∧ ∀ (j d : Nat), D[j]? = some d → w.cell? ⟨g, j, none⟩ = some (dv d)
section
variable {w w' : World} {v : Value} {D : List Nat} {S : Nat → Prop}
theorem Rd.nil (w : World) : Rd w (.slice none 0 0) [] := .inl ⟨rfl, rfl⟩
theorem Rd.form (h : Rd w v D) : ∃ a c, v = .slice a D.length c ∧ D.length ≤ c ∧ c ≤ 9223372036854775807 := by
  rcases h with ⟨rfl, rfl⟩ | ⟨g, c, rfl, h1, h2, _⟩
  · exact ⟨none, 0, rfl, by simp, by omega⟩
  · exact ⟨_, c, rfl, h1, h2⟩
theorem Rd.cells (h : Rd w v D) (hD : D ≠ []) : ∃ g c, v = .slice (some ⟨g, 0, none⟩) D.length c ∧ D.length ≤ c ∧ c ≤ 9223372036854775807 ∧ g < w.heap.size ∧ ∀ (j d : Nat), D[j]? = some d → w.cell? ⟨g, j, none⟩ = some (.int .i64 (d : Int)) := by
  rcases h with ⟨_, h⟩ | ⟨g, c, rfl, h1, h2, h3, h4⟩
  · exact absurd h hD
  · exact ⟨g, c, rfl, h1, h2, h3, h4⟩
theorem Rd.only (h : Rd w v D) (ho : Only NoneOf w w') : Rd w' v D := by
  rcases h with h | ⟨g, c, h0, h1, h2, h3, h4⟩
  · exact .inl h
  · exact .inr ⟨g, c, h0, h1, h2, Nat.lt_of_lt_of_le h3 ho.size, fun j d hd => ho.cell_some (h4 j d hd) (fun e => e)⟩
theorem Rd.onlyS (h : Rd w v D) (ho : Only S w w') (hn : ∀ k, v.ownBlock = some k → ¬ S k) : Rd w' v D := by
  rcases h with h | ⟨g, c, rfl, h1, h2, h3, h4⟩
  · exact .inl h
  · exact .inr ⟨g, c, rfl, h1, h2, Nat.lt_of_lt_of_le h3 ho.size, fun j d hd => ho.cell_some (h4 j d hd) (hn g rfl)⟩
theorem Rd.of_blk {g : Nat} {t : TypeId} {c : Nat} {cs : Array Value} (hb : Blk w g t cs) (hc : D.length ≤ c) (hm : c ≤ maxLen) (h : ∀ (j d : Nat), D[j]? = some d → cs[j]? = some (dv d)) : Rd w (.slice (some ⟨g, 0, none⟩) D.length c) D :=
  .inr ⟨g, c, rfl, hc, hm, hb.lt, fun j d hd => (hb.cell j).trans (h j d hd)⟩
theorem Rd.of_own {base : Nat} {e : TypeId} {n : Nat} (h : w.ownsRow base e 1 v n (D.map dv)) : Rd w v D := by
  have hl : D.length = n := by have := h.1; simpa using this
  rcases h.2 with ⟨rfl, rfl⟩ | ⟨g, cap, cur, rfl, hb, hh, hc, hm, hs, ht⟩
  · exact .inl ⟨rfl, List.eq_nil_of_length_eq_zero hl⟩
  · refine .inr ⟨g, cap, by rw [hl], by omega, hm, (Array.getElem?_eq_some_iff.1 hh).1, fun j d hd => ?_⟩
    have hj : j < D.length := (List.getElem?_eq_some_iff.1 hd).1
    have h1 : (cur.toList.take (n * 1))[j]? = some (dv d) := by rw [ht, List.getElem?_map, hd]; rfl
    rw [List.getElem?_take, if_pos (by omega)] at h1
    unfold World.cell?
    simp only [hh]
    simpa using h1
end
theorem run_append_zero {P : Program} {t ty e : TypeId} {i : TypeInfo} (ht : P.underlying t = some (.slice e)) (hi : P.info? e = some i) (g : Addr) (n cap : Nat) (hn : n ≤ cap) (A : Option Addr) (c : Nat) (w : World) :
    (Builtin.append_ #[t, t] ty #[.slice (some g) n cap, .slice A 0 c]).run P w = .ok (.slice (some g) n cap) w := by
  cases A with
  | none => simp [Builtin.append_, run_underlying ht, sizeOf, typeInfo, hi, Builtin.lenOf, Builtin.firstCells, hn, storeCells]
  | some a => simp [Builtin.append_, run_underlying ht, sizeOf, typeInfo, hi, Builtin.lenOf, Builtin.firstCells, hn, storeCells, loadCells, loadCellsFrom]
end Go.Proofs.YtclpebgjmgfigaaGreatDoor
namespace Go.Proofs.YtclpebgjmgfigaaGreatDoor
open Go.RowKit
theorem info_i64 : (Tryz.prog.info? 3).map (fun i => (i.zero, i.size, i.bytes)) = some (some (.int .i64 0), 1, 8) := by kernel_rfl
/-- The call gave a slice that reads as these digits; all that lay lies as it lay. -/
def RetRd (D : List Nat) (w : World) (e : Ending) (w' : World) : Prop := ∃ v, e = .returned v ∧ Rd w' v D ∧ Only NoneOf w w'
set_option maxHeartbeats 400000 in
theorem trim_at {v : Value} {D : List Nat} {w : World} (h : Rd w v D) : Calls Tryz.prog 143 #[v] w fun e w' => ∃ v', e = .returned v' ∧ Rd w v' (trimL D) ∧ w' = w ∧ v'.ownBlock = v.ownBlock := by
  rcases h with ⟨rfl, rfl⟩ | ⟨g, c, rfl, hc, hm, hg, hcell⟩
  · go_enter Tryz.func143, Tryz.ntmps143
    go_wp2_with fail
    go_loop [0] (fun v => v = .slice none 0 0) (fun _ => 0)
    case atStart => rfl
    case round =>
      subst hrel
      go_wp2_with fail
      go_ret
      exact ⟨_, rfl, Rd.nil w, rfl, rfl⟩
  · have HC := Lib.hid hcell
    unfold maxLen at hm
    clear hcell
    go_enter Tryz.func143, Tryz.ntmps143
    go_wp2_with fail
    go_loop [0] (fun v => ∃ k : Nat, k ≤ D.length ∧ v = .slice (some ⟨g, 0, none⟩) k c ∧ Hid (trimL (D.take k) = trimL D)) (fun v => match v with | .slice _ k _ => k | _ => 0)
    case atStart => exact ⟨D.length, Nat.le_refl _, rfl, Lib.hid (by rw [List.take_length])⟩
    case round =>
      obtain ⟨k, hk, rfl, HT⟩ := hrel
      rcases Nat.eq_zero_or_pos k with h0 | h0
      · subst h0
        go_wp2_with fail
        go_ret
        refine ⟨_, rfl, ?_, rfl, rfl⟩
        have e : trimL D = [] := by rw [← HT.out]; rfl
        rw [e]
        exact .inr ⟨g, c, rfl, by simp, by unfold maxLen; omega, hg, fun j d hd => by simp at hd⟩
      · obtain ⟨k', rfl⟩ : ∃ k', k = k' + 1 := ⟨k - 1, by omega⟩
        obtain ⟨d, hd⟩ : ∃ d, D[k']? = some d := ⟨_, List.getElem?_eq_getElem (by omega)⟩
        have hcd : w.cell? ⟨g, k', none⟩ = some (.int .i64 (d : Int)) := HC.out k' d hd
        have hts := take_snoc' hd
        have HTS := Lib.hid hts
        clear hd hts
        rcases Nat.eq_zero_or_pos d with hd0 | hd0
        · subst hd0
          go_wp2_with fail
          go_round
          case rel => exact ⟨k', by omega, rfl, Lib.hid (by rw [← HT.out, HTS.out, trimL_snoc, if_pos rfl])⟩
          case measure => simp
        · have hne : ((d : Int) == 0) = false := by simp; omega
          have hne2 : ¬ (d : Int) = 0 := by omega
          go_wp2_with fail
          go_ret
          refine ⟨_, rfl, ?_, rfl, rfl⟩
          have e : trimL D = D.take (k' + 1) := by rw [← HT.out, HTS.out, trimL_snoc, if_neg (by omega)]
          rw [e]
          have el : (D.take (k' + 1)).length = k' + 1 := by rw [List.length_take]; omega
          refine .inr ⟨g, c, by rw [el]; rfl, by omega, by unfold maxLen; omega, hg, fun j x hx => ?_⟩
          rw [List.getElem?_take] at hx
          split at hx
          · exact HC.out j x hx
          · cases hx
theorem trim_any {v : Value} {D : List Nat} {w : World} (h : Rd w v D) : Calls Tryz.prog 143 #[v] w fun e w' => ∃ v', e = .returned v' ∧ Rd w v' (trimL D) ∧ w' = w :=
  (trim_at h).mono fun _ _ ⟨v', he, hv, hw, _⟩ => ⟨v', he, hv, hw⟩
def cmpL : List Nat → List Nat → Int
  | [], [] => 0
  | [x], [y] => if x = y then 0 else if x < y then -1 else 1
  | A, B => if A.length < B.length then -1 else 1
set_option maxHeartbeats 400000 in
theorem compare_len {va vb : Value} {A B : List Nat} {w : World} (ha : Rd w va A) (hb : Rd w vb B) (h : A.length ≠ B.length) :
    Calls Tryz.prog 159 #[va, vb] w fun e w' => e = .returned (.int .i64 (if A.length < B.length then -1 else 1)) ∧ ∃ q, w' = w.drewN q := by
  obtain ⟨a, c, rfl, ha1, ha2⟩ := ha.form
  obtain ⟨b, d, rfl, hb1, hb2⟩ := hb.form
  clear ha hb
  have hne : ((A.length : Int) == (B.length : Int)) = false := by simp; omega
  by_cases hlt : A.length < B.length
  · have hlt2 : (A.length : Int) < (B.length : Int) := by omega
    go_enter Tryz.func159, Tryz.ntmps159
    go_wp2_with fail
    go_ret
    exact ⟨rfl, 0, rfl⟩
  · have hlt2 : ¬ (A.length : Int) < (B.length : Int) := by omega
    go_enter Tryz.func159, Tryz.ntmps159
    go_wp2_with fail
    go_ret
    exact ⟨rfl, 0, rfl⟩
set_option maxHeartbeats 400000 in
theorem compare_nil {va vb : Value} {w : World} (ha : Rd w va []) (hb : Rd w vb []) :
    Calls Tryz.prog 159 #[va, vb] w fun e w' => e = .returned (.int .i64 0) ∧ ∃ q, w' = w.drewN q := by
  obtain ⟨a, c, rfl, ha1, ha2⟩ := ha.form
  obtain ⟨b, d, rfl, hb1, hb2⟩ := hb.form
  clear ha hb
  go_enter Tryz.func159, Tryz.ntmps159
  go_wp2_with fail
  go_loop [5] (fun v => v = .int .i64 (-1)) (fun _ => 0)
  case atStart => rfl
  case round =>
    subst hrel
    go_wp2_with fail
    go_ret
    exact ⟨rfl, 0, rfl⟩
set_option maxHeartbeats 400000 in
theorem compare_one {va vb : Value} {x y : Nat} {w : World} (ha : Rd w va [x]) (hb : Rd w vb [y]) (_hx : x < 65536) (_hy : y < 65536) :
    Calls Tryz.prog 159 #[va, vb] w fun e w' => e = .returned (.int .i64 (if x = y then 0 else if x < y then -1 else 1)) ∧ ∃ q, w' = w.drewN q := by
  obtain ⟨a, c, rfl, ha1, ha2, _, hac⟩ := ha.cells (by simp)
  obtain ⟨b, d, rfl, hb1, hb2, _, hbc⟩ := hb.cells (by simp)
  have cx := hac 0 x rfl
  have cy := hbc 0 y rfl
  simp only [List.length_singleton] at ha1 hb1
  clear ha hb hac hbc
  obtain ⟨r, er⟩ : ∃ r : Int, r = if x = y then 0 else if x < y then -1 else 1 := ⟨_, rfl⟩
  rw [← er]
  have ER := Lib.hid er
  clear er
  go_enter Tryz.func159, Tryz.ntmps159
  go_wp2_with fail
  go_loopw [5] (fun v wr => (∃ q, wr = w.drewN q) ∧ (v = .int .i64 0 ∨ v = .int .i64 (-1) ∧ x = y)) (fun v _ => (intOf v + 1).toNat)
  case atStart => exact ⟨⟨0, rfl⟩, .inl rfl⟩
  case round =>
    obtain ⟨⟨q, rfl⟩, rfl | ⟨rfl, hxy⟩⟩ := hrel
    · by_cases hxy : x = y
      · subst hxy
        go_wp2_with fail
        go_region
        go_wp2_with fail
        go_roundw
        case rel => exact ⟨⟨q + 1, rfl⟩, .inr ⟨rfl, trivial⟩⟩
        case measure => simp [intOf]
      · have hne : ((x : Int) == (y : Int)) = false := by simp; omega
        have hne2 : ¬ (x : Int) = (y : Int) := by omega
        by_cases hlt : x < y
        · have hlt2 : (x : Int) < (y : Int) := by omega
          go_wp2_with fail
          go_region
          go_wp2_with fail
          go_region
          go_wp2_with fail
          go_ret
          exact ⟨ret_int (by rw [ER.out, if_neg hxy, if_pos hlt]), q + 2, rfl⟩
        · have hlt2 : ¬ (x : Int) < (y : Int) := by omega
          go_wp2_with fail
          go_region
          go_wp2_with fail
          go_region
          go_wp2_with fail
          go_ret
          exact ⟨ret_int (by rw [ER.out, if_neg hxy, if_neg hlt]), q + 2, rfl⟩
    · have HXY := Lib.hid hxy
      clear hxy
      go_wp2_with fail
      go_ret
      exact ⟨ret_int (by rw [ER.out, if_pos HXY.out]), q, rfl⟩
end Go.Proofs.YtclpebgjmgfigaaGreatDoor
namespace Go.Proofs.YtclpebgjmgfigaaGreatDoor
open Go.RowKit
theorem madeInts (n : Nat) : madeCells #[Value.int .i64 0] n = ((List.replicate n (0 : Nat)).map dv).toArray := by
  apply Array.ext'
  apply List.ext_getElem?
  intro i
  by_cases h : i < n
  · simp [madeCells, h, Nat.mod_one, dv]
  · simp [madeCells, h]
set_option maxRecDepth 100000 in
set_option maxHeartbeats 1000000 in
theorem times_any {va vb : Value} {m : Nat} {w : World} (ha : Rd w va [1]) (hb : Rd w vb [m]) (hm : m < 65536) :
    Calls Tryz.prog 168 #[va, vb] w (RetRd (trimL [m]) w) := by
  obtain ⟨a, c, rfl, ha1, ha2, hal, hac⟩ := ha.cells (by simp)
  obtain ⟨b, d, rfl, hb1, hb2, hbl, hbc⟩ := hb.cells (by simp)
  have ca := hac 0 1 rfl
  have cb := hbc 0 m rfl
  simp only [List.length_singleton] at ha1 hb1
  have hmk : (Instr.makeSlice 69 (.int .i64 2) (.int .i64 2)).run Tryz.prog w = .ok (.slice (some ⟨w.heap.size, 0, none⟩) 2 2) (w.alloc (.cells #[dv 0, dv 0] 3)) :=
    (run_make_row' (P := Tryz.prog) 69 3 (.int .i64 0) 8 Tryz.underlying69 info_i64 rfl .i64 .i64 2 (by omega) (by omega) w).trans (by rw [madeInts]; rfl)
  have CA := Lib.hid ca
  have CB := Lib.hid cb
  clear ha hb hac hbc ca cb
  go_enter Tryz.func168, Tryz.ntmps168
  go_wp2_with fail
  clear hmk
  obtain ⟨O, eO⟩ : ∃ O, O = w.heap.size := ⟨_, rfl⟩
  have hw0 : IntKind.i64.wrap 0 = 0 := rfl
  rw [← eO]
  have EO := Lib.hid eO
  clear eO
  go_loopw [6] (fun v wr => ∃ i : Nat, i ≤ 1 ∧ v = .int .i64 i ∧ Blk wr O 3 #[dv (if i = 0 then 0 else m), dv 0] ∧ Only NoneOf w wr) (fun v _ => 2 - (intOf v).toNat)
  case atStart => exact ⟨0, by omega, rfl, by rw [EO.out]; exact Blk.new w _ _, (Only.refl _ _).alloc _⟩
  case round =>
    obtain ⟨i, hi, rfl, hB, hO⟩ := hrel
    rcases Nat.eq_zero_or_pos i with h0 | h0
    · subst h0
      simp only [if_true] at hB
      have HB := Lib.hid hB
      have HO := Lib.hid hO
      obtain ⟨wo, ewo⟩ : ∃ wo : World, wo = wr := ⟨_, rfl⟩
      have EWO := Lib.hid ewo
      clear hB hO ewo
      go_wp2_with fail
      go_loopw [7, 8] (fun v7 v wr => ∃ k : Nat, k ≤ 1 ∧ v7 = .int .i64 0 ∧ v = .int .i64 k ∧ Blk wr O 3 #[dv (if k = 0 then 0 else m), dv 0] ∧ Only NoneOf w wr) (fun _ v _ => 2 - (intOf v).toNat)
      case atStart => exact ⟨0, by omega, rfl, rfl, HB.out, HO.out⟩
      case round =>
        obtain ⟨k, hk, rfl, rfl, hB, hO⟩ := hrel
        rcases Nat.eq_zero_or_pos k with h1 | h1
        · subst h1
          simp only [if_true] at hB
          have c1 : wr.cell? ⟨O, 0, none⟩ = some (.int .i64 0) := hB.cell 0
          have fr0 := hB.frozen 0
          have c2 : wr.cell? ⟨a, 0, none⟩ = some (.int .i64 1) := hO.cell_some CA.out (fun e => e)
          have c3 : wr.cell? ⟨b, 0, none⟩ = some (.int .i64 (m : Int)) := hO.cell_some CB.out (fun e => e)
          have m0 : 0 ≤ (m : Int) := by omega
          have m1 : (m : Int) < 65536 := by omega
          have HB2 := Lib.hid hB
          have HO2 := Lib.hid hO
          clear hB hO
          go_wp2_with fail
          go_region
          go_wp2_with fail
          go_roundw
          case rel =>
            refine ⟨1, by omega, by rw [show (m : Int) / 65536 = 0 by omega], rfl, ?_, (HO2.out.setCell (.inr (by rw [EO.out]; exact Nat.le_refl _)) _).drew⟩
            have := HB2.out.set_ 0 (.int .i64 ((m : Int) % 65536))
            rw [show (m : Int) % 65536 = (m : Int) by omega] at this ⊢
            exact this.drew
          case measure => simp [intOf]
        · obtain rfl : k = 1 := by omega
          simp only [Nat.one_ne_zero, if_false] at hB
          have c1 : wr.cell? ⟨O, 1, none⟩ = some (.int .i64 0) := hB.cell 1
          have fr0 := hB.frozen 1
          have HB2 := Lib.hid hB
          have HO2 := Lib.hid hO
          clear hB hO
          go_wp2_with fail
          go_roundw
          case rel =>
            refine ⟨1, by omega, rfl, ?_, (HO2.out.setCell (.inr (by rw [EO.out]; exact Nat.le_refl _)) _)⟩
            exact HB2.out.set_ 1 (dv 0)
          case measure => simp [intOf]
    · obtain rfl : i = 1 := by omega
      simp only [Nat.one_ne_zero, if_false] at hB
      have hr := Rd.of_blk (D := [m, 0]) hB (c := 2) (by simp) (by unfold maxLen; omega) (fun j d hd => by
        match j, hd with
        | 0, hd => cases hd; rfl
        | 1, hd => cases hd; rfl)
      have HR := Lib.hid hr
      have HO := Lib.hid hO
      clear hr hO hB
      go_wp2_with fail
      refine (trim_any HR.out).mono ?_
      rintro e w' ⟨v', rfl, hv, hw⟩
      rw [hw]
      rw [show trimL [m, 0] = trimL [m] from (trimL_snoc [m] 0).trans (if_pos rfl)] at hv
      have HV := Lib.hid hv
      clear hv hw
      go_wp2_with fail
      go_ret
      exact ⟨v', rfl, HV.out, HO.out⟩
theorem by_any {va : Value} {m : Nat} {w : World} (ha : Rd w va [1]) (hm : m < 65536) :
    Calls Tryz.prog 160 #[va, .int .i64 (m : Int)] w (RetRd (trimL [m]) w) := by
  have HA := Lib.hid (ha.only ((Only.refl NoneOf w).alloc (.cells #[dv m] 3)))
  have HB := Lib.hid (Rd.of_blk (D := [m]) (Blk.new w 3 #[dv m]) (c := 1) (by simp) (by unfold maxLen; omega) (fun j d hd => by
        match j, hd with
        | 0, hd => cases hd; rfl))
  obtain ⟨a, c, rfl, ha1, ha2⟩ := ha.form
  clear ha
  go_enter Tryz.func160, Tryz.ntmps160
  go_wp2_with fail
  refine (times_any HA.out HB.out hm).mono ?_
  rintro e w' ⟨v', rfl, hv, ho⟩
  have HV := Lib.hid hv
  have HO := Lib.hid ho
  clear hv ho
  go_wp2_with fail
  go_ret
  exact ⟨v', rfl, HV.out, ((Only.refl NoneOf w).alloc _).trans HO.out⟩
end Go.Proofs.YtclpebgjmgfigaaGreatDoor
namespace Go.Proofs.YtclpebgjmgfigaaGreatDoor
open Go.RowKit
theorem minus_nil {va vb : Value} {w : World} (ha : Rd w va []) (hb : Rd w vb []) :
    Calls Tryz.prog 161 #[va, vb] w (RetRd [] w) := by
  obtain ⟨a, c, rfl, ha1, ha2⟩ := ha.form
  obtain ⟨b, d, rfl, hb1, hb2⟩ := hb.form
  clear ha hb
  go_enter Tryz.func161, Tryz.ntmps161
  go_wp2_with fail
  go_loop [5, 7] (fun u v => u = .slice none 0 0 ∧ v = .int .i64 0) (fun _ _ => 0)
  case atStart => exact ⟨rfl, rfl⟩
  case round =>
    obtain ⟨rfl, rfl⟩ := hrel
    go_wp2_with fail
    refine (trim_any (Rd.nil _)).mono ?_
    rintro e w' ⟨v', rfl, hv, hw⟩
    rw [hw]
    rw [trimL_nil] at hv
    have HV := Lib.hid hv
    clear hv hw
    go_wp2_with fail
    go_ret
    exact ⟨v', rfl, HV.out, Only.refl _ _⟩
set_option maxRecDepth 100000 in
set_option maxHeartbeats 400000 in
theorem minus_one {va vb : Value} {d : Nat} {w : World} (ha : Rd w va [d]) (hb : Rd w vb [d]) (hd : d < 65536) :
    Calls Tryz.prog 161 #[va, vb] w (RetRd [] w) := by
  obtain ⟨a, ca, rfl, ha1, ha2, hal, hac⟩ := ha.cells (by simp)
  obtain ⟨b, cb, rfl, hb1, hb2, hbl, hbc⟩ := hb.cells (by simp)
  have CA := Lib.hid (hac 0 d rfl)
  have CB := Lib.hid (hbc 0 d rfl)
  simp only [List.length_singleton] at ha1 hb1
  clear ha hb hac hbc
  obtain ⟨i0, hi0, hz0, hz1, hz2⟩ := info_parts info_i64
  go_enter Tryz.func161, Tryz.ntmps161
  go_wp2_with fail
  go_loopw [5, 6, 7] (fun u b v wr => ∃ k : Nat, k ≤ 1 ∧ v = .int .i64 k ∧ b = .int .i64 0 ∧ wr.ownsRow w.heap.size 3 1 u k ((List.replicate k 0).map dv) ∧ Only NoneOf w wr) (fun _ _ v _ => 2 - (intOf v).toNat)
  case atStart => exact ⟨0, by omega, rfl, rfl, World.ownsRow_nil _ _ _ _, Only.refl _ _⟩
  case round =>
    obtain ⟨k, hk, rfl, rfl, hown, ho⟩ := hrel
    rcases Nat.eq_zero_or_pos k with h0 | h0
    · subst h0
      have c1 : wr.cell? ⟨a, 0, none⟩ = some (.int .i64 (d : Int)) := ho.cell_some CA.out (fun e => e)
      have c2 : wr.cell? ⟨b, 0, none⟩ = some (.int .i64 (d : Int)) := ho.cell_some CB.out (fun e => e)
      have HOWN := Lib.hid hown
      have HO := Lib.hid ho
      have hsz := ho.size
      have hdd : IntKind.i64.wrap ((d : Int) - (d : Int)) = 0 := by rw [Int.sub_self]; rfl
      clear hown ho
      go_wp2_with (at_builtin; refine wpList_append_own _ rfl _ _ 69 rfl w.heap.size 3 i0 _ 1 8 Tryz.underlying69 hi0 hz0 hz1 hz2 rfl (by decide) u5 0 [] rfl (by exact (HOWN.out.alloc _)) ⟨wr.heap.size, 0, none⟩ 1 1 [.int .i64 0] rfl rfl (World.news_of_block (cs := #[.int .i64 0]) (t := 3) (fr := (0, 0)) (by simpa using heap_alloc_new wr _)) (by simp [Value.oneCell']) (by rw [maxLen_val]; omega) (by omega) (by simp; omega) ?_; intro v' w1 hown1 hgrow _)
      go_roundw
      case rel => exact ⟨1, by omega, rfl, rfl, hown1, ((HO.out.alloc _).grown hgrow (fun k hk => .inr ((HOWN.out.lt k hk).1)))⟩
      case measure => simp [intOf]
    · obtain rfl : k = 1 := by omega
      have hr : Rd wr u5 [0] := Rd.of_own hown
      have HR := Lib.hid hr
      have HO := Lib.hid ho
      clear hr hown ho
      go_wp2_with fail
      refine (trim_any HR.out).mono ?_
      rintro e w' ⟨v', rfl, hv, hw⟩
      rw [hw]
      rw [trimL_one, if_pos rfl] at hv
      have HV := Lib.hid hv
      clear hv hw
      go_wp2_with fail
      go_ret
      exact ⟨v', rfl, HV.out, HO.out⟩
/-- The quotient's digits when those from k on have been found. -/
def qRow (D : List Nat) (k : Nat) : List Nat := List.replicate k 0 ++ D.drop k
theorem qRow_len {D : List Nat} {k : Nat} (h : k ≤ D.length) : (qRow D k).length = D.length := by simp [qRow]; omega
theorem qRow_set {D : List Nat} {k d : Nat} (hd : D[k]? = some d) : ((qRow D (k + 1)).map dv).toArray.setIfInBounds k (dv d) = ((qRow D k).map dv).toArray := by
  have hk : k < D.length := (List.getElem?_eq_some_iff.1 hd).1
  rw [List.setIfInBounds_toArray, ← List.map_set, qRow, qRow, List.set_append_left _ _ (by simp), List.replicate_succ', List.set_append_right _ _ (by simp), List.length_replicate, Nat.sub_self, List.set_cons_zero, List.append_assoc, List.singleton_append]
  congr 4
  rw [List.drop_eq_getElem_cons hk]
  congr 1
  exact (List.getElem?_eq_some_iff.1 hd).2.symm
theorem qRow_zero (D : List Nat) : qRow D 0 = D := by simp [qRow]
theorem qRow_all (D : List Nat) : qRow D D.length = List.replicate D.length 0 := by simp [qRow]
def OverI (w : World) (D : List Nat) (Q : Nat) (k : Nat) (r : Value) (wr : World) : Prop :=
  Rd wr r [] ∧ Blk wr Q 3 ((qRow D k).map dv).toArray ∧ Only NoneOf w wr
def BisI (w : World) (d : Nat) (low high : Nat) (wr : World) : Prop := low ≤ d ∧ d < high ∧ high ≤ 65536 ∧ Only NoneOf w wr
theorem cmp_le {m d : Nat} : decide ((if m = d then (0 : Int) else if m < d then -1 else 1) ≤ 0) = decide (m ≤ d) := by
  by_cases h1 : m = d
  · simp [h1]
  · by_cases h2 : m < d
    · rw [if_neg h1, if_pos h2]; simp; omega
    · rw [if_neg h1, if_neg h2]; simp; omega
theorem compare_none {va vb : Value} {w : World} (ha : Rd w va []) (hb : Rd w vb [1]) :
    Calls Tryz.prog 159 #[va, vb] w fun e w' => e = .returned (.int .i64 (-1)) ∧ ∃ q, w' = w.drewN q :=
  (compare_len ha hb (by simp)).mono fun _ _ ⟨he, hq⟩ => ⟨by rw [he, if_pos (by simp)], hq⟩
theorem compare_ge {va vb : Value} {d : Nat} {w : World} (ha : Rd w va [d]) (hb : Rd w vb [1]) (hd0 : 0 < d) (hd : d < 65536) :
    Calls Tryz.prog 159 #[va, vb] w fun e w' => ∃ c : Int, e = .returned (.int .i64 c) ∧ 0 ≤ c ∧ ∃ q, w' = w.drewN q :=
  (compare_one ha hb hd (by omega)).mono fun _ _ ⟨he, hq⟩ => ⟨_, he, by split <;> (try split) <;> omega, hq⟩
theorem compare_le {va vb : Value} {m d : Nat} {w : World} (ha : Rd w va [m]) (hb : Rd w vb [d]) (hm : m < 65536) (hd : d < 65536) :
    Calls Tryz.prog 159 #[va, vb] w fun e w' => ∃ c : Int, e = .returned (.int .i64 c) ∧ (c ≤ 0 ↔ m ≤ d) ∧ ∃ q, w' = w.drewN q :=
  (compare_one ha hb hm hd).mono fun _ _ ⟨he, hq⟩ => ⟨_, he, by have := cmp_le (m := m) (d := d); simpa using this, hq⟩
theorem by_zero {va : Value} {w : World} (ha : Rd w va [1]) : Calls Tryz.prog 160 #[va, .int .i64 0] w (RetRd [] w) := by_any (m := 0) ha (by omega)
theorem by_pos {va : Value} {m : Nat} {w : World} (ha : Rd w va [1]) (h0 : 0 < m) (hm : m < 65536) : Calls Tryz.prog 160 #[va, .int .i64 (m : Int)] w (RetRd [m] w) := by
  have h := by_any ha hm
  rwa [trimL_one, if_neg (by omega)] at h
set_option maxRecDepth 100000 in
set_option maxHeartbeats 1000000 in
theorem over_one {va vb : Value} {D : List Nat} {w : World} (ha : Rd w va D) (hb : Rd w vb [1]) (hD : ∀ d ∈ D, d < 65536) (hT : trimL D = D) (hl : D.length ≤ 1000) :
    Calls Tryz.prog 142 #[va, vb] w fun e w' => ∃ q r, e = .returned (.tuple #[q, r]) ∧ Rd w' q D ∧ Rd w' r [] ∧ Only NoneOf w w' := by
  have HA := Lib.hid ha
  have HB := Lib.hid hb
  have HD := Lib.hid hD
  have HTT := Lib.hid hT
  obtain ⟨i0, hi0, hz0, hz1, hz2⟩ := info_parts info_i64
  have hmk := run_make_row' (P := Tryz.prog) 69 3 (.int .i64 0) 8 Tryz.underlying69 info_i64 rfl .i64 .i64 D.length (by omega) (by omega) w
  rw [madeInts, ← qRow_all] at hmk
  obtain ⟨a, ca, rfl, ha1, ha2⟩ := ha.form
  obtain ⟨b, cb, rfl, hb1, hb2⟩ := hb.form
  clear ha hb hD hT
  go_enter Tryz.func142, Tryz.ntmps142
  go_wp2_with fail
  obtain ⟨Q, eQ⟩ : ∃ Q, Q = w.heap.size := ⟨_, rfl⟩
  have H0 : Hid (OverI w D Q D.length (.slice none 0 0) (w.alloc (.cells ((qRow D D.length).map dv).toArray 3))) :=
    Lib.hid ⟨Rd.nil _, by rw [eQ]; exact Blk.new w _ _, (Only.refl NoneOf w).alloc _⟩
  rw [← eQ]
  have EQ := Lib.hid eQ
  clear hmk eQ
  go_loopw [7, 8] (fun r v wr => ∃ k : Nat, k ≤ D.length ∧ v = .int .i64 ((k : Int) - 1) ∧ OverI w D Q k r wr) (fun _ v _ => (intOf v + 1).toNat)
  case atStart => exact ⟨D.length, Nat.le_refl _, rfl, H0.out⟩
  case round =>
    obtain ⟨k, hk, rfl, hI⟩ := hrel
    rcases Nat.eq_zero_or_pos k with h0 | h0
    · subst h0
      have HR := Lib.hid hI.1
      have HQ := Lib.hid (Rd.of_blk (D := D) (c := D.length) (by simpa [qRow_zero] using hI.2.1) (Nat.le_refl _) (by unfold maxLen; omega) (fun j d hd => by simp [hd]))
      have HO := Lib.hid hI.2.2
      clear hI
      go_wp2_with fail
      refine (trim_any HQ.out).mono ?_
      rintro e w' ⟨v', rfl, hv, hw⟩
      rw [hw]
      rw [HTT.out] at hv
      have HV := Lib.hid hv
      clear hv hw
      go_wp2_with fail
      go_ret2
      exact ⟨v', u7, rfl, HV.out, HR.out, HO.out⟩
    · obtain ⟨i, rfl⟩ : ∃ i, k = i + 1 := ⟨k - 1, by omega⟩
      obtain ⟨d, hd⟩ : ∃ d, D[i]? = some d := ⟨_, List.getElem?_eq_getElem (by omega)⟩
      have hd6 : d < 65536 := HD.out d (List.mem_of_getElem? hd)
      rw [show ((i + 1 : Nat) : Int) - 1 = (i : Int) by omega]
      obtain ⟨A, hA0, hAc⟩ : ∃ g, a = some ⟨g, 0, none⟩ ∧ wr.cell? ⟨g, i, none⟩ = some (.int .i64 (d : Int)) := by
        obtain ⟨g, c, he, _, _, _, hc⟩ := HA.out.cells (by intro e; rw [e] at hd; simp at hd)
        simp only [Value.slice.injEq] at he
        exact ⟨g, he.1, hI.2.2.cell_some (hc i d hd) (fun e => e)⟩
      subst hA0
      obtain ⟨B2, R2, eR2⟩ : ∃ x c, u7 = .slice x 0 c := by
        obtain ⟨x, c, he, _⟩ := hI.1.form
        exact ⟨x, c, he⟩
      subst eR2
      have i0 : (0 : Int) ≤ (i : Int) := by omega
      have il : (i : Int) < (D.length : Int) := by omega
      have hI0 := hI.2.1
      have HI := Lib.hid hI
      have HDI := Lib.hid hd
      have HI0 := Lib.hid hI0
      clear hI hd hI0
      go_wp2_with (at_builtin; refine Lib.wpList_append_run _ rfl _ _ _ _ rfl _ _ rfl rfl _ _ (run_append_zero Tryz.underlying69 hi0 _ 1 1 (Nat.le_refl _) _ _ _) ?_)
      have hR1 : Rd (wr.alloc (.cells #[.int .i64 (d : Int)] 3)) (.slice (some ⟨wr.heap.size, 0, none⟩) 1 1) [d] :=
        Rd.of_blk (D := [d]) (Blk.new wr 3 #[dv d]) (c := 1) (by simp) (by unfold maxLen; omega) (fun j x hx => by
          match j, hx with
          | 0, hx => cases hx; rfl)
      refine (trim_at hR1).mono ?_
      rintro e w1 ⟨v1, rfl, hv1, hw1, hob⟩
      rw [← hw1] at hv1

      have hne : ∀ k, v1.ownBlock = some k → ¬ k = Q := fun k hk e => by
        rw [hob] at hk
        have e2 : wr.heap.size = k := by simpa [Value.ownBlock] using hk
        have := HI0.out.lt
        omega
      have HNE := Lib.hid hne
      have ho1 : Only NoneOf wr w1 := by rw [hw1]; exact (Only.refl NoneOf wr).alloc _
      have HV1 := Lib.hid hv1
      have HO1 := Lib.hid ho1
      clear hR1 hv1 hw1 ho1 hob hne
      rcases Nat.eq_zero_or_pos d with hd0 | hd0
      · subst hd0
        have hv0 := HV1.out
        rw [trimL_one, if_pos rfl] at hv0
        have HV0 := Lib.hid hv0
        clear hv0 HV1 hAc hd6
        go_wp2_with fail
        refine (compare_none HV0.out (HB.out.only (HI.out.2.2.trans HO1.out))).mono ?_
        rintro e w2 ⟨rfl, q, hq⟩
        have ho2 : Only NoneOf wr w2 := by rw [hq]; exact HO1.out.drewN _
        have hv2 : Rd w2 v1 [] := HV0.out.only (by rw [hq]; exact (Only.refl _ _).drewN _)
        have hb2 : Blk w2 Q 3 ((qRow D (i + 1)).map dv).toArray := HI.out.2.1.only ho2 (fun e => e)
        have cq : w2.cell? ⟨Q, i, none⟩ = some (dv 0) := by
          rw [hb2.cell, List.getElem?_toArray, List.getElem?_map, qRow, List.getElem?_append_left (by simp), List.getElem?_replicate, if_pos (by omega)]
          rfl
        have fq := hb2.frozen i
        have HO2 := Lib.hid ho2
        have HV2 := Lib.hid hv2
        have HB2 := Lib.hid hb2
        clear hq ho2 hv2 hb2
        go_wp2_with fail
        go_loop [9, 10] (fun l h => l = .int .i64 0 ∧ h = .int .i64 1) (fun _ _ => 0)
        case atStart => exact ⟨rfl, rfl⟩
        case round =>
          obtain ⟨rfl, rfl⟩ := hrel
          go_wp2_with fail
          have hN : Only NoneOf w (w2.setCell ⟨Q, i, none⟩ (.int .i64 0)) := (HI.out.2.2.trans HO2.out).setCell (.inr (by rw [EQ.out]; exact Nat.le_refl _)) _
          refine (by_zero (HB.out.only hN)).mono ?_
          rintro e w3 ⟨v3, rfl, hv3, ho3⟩
          have HN := Lib.hid hN
          have HV3 := Lib.hid hv3
          have HO3 := Lib.hid ho3
          clear hN hv3 ho3
          go_wp2_with fail
          have hs : Only (fun k => k = Q) w2 w3 := ((Only.refl (fun k => k = Q) w2).setCell (p := ⟨Q, i, none⟩) (.inl rfl) (.int .i64 0)).trans' HO3.out (fun _ _ h => h.elim)
          have hv1 := HV2.out.onlyS hs HNE.out
          refine (minus_nil hv1 HV3.out).mono ?_
          rintro e w4 ⟨v4, rfl, hv4, ho4⟩
          have HV4 := Lib.hid hv4
          have HO4 := Lib.hid ho4
          clear hv1 hv4 ho4 hs
          go_wp2_with fail
          go_roundw
          case rel =>
            refine ⟨i, by omega, rfl, HV4.out, ?_, HN.out.trans (HO3.out.trans HO4.out)⟩
            have := HB2.out.set_ i (dv 0)
            rw [qRow_set HDI.out] at this
            exact this.only (HO3.out.trans HO4.out) (fun e => e)
          case measure => simp [intOf]
      · have hv0 := HV1.out
        rw [trimL_one, if_neg (by omega)] at hv0
        have HV0 := Lib.hid hv0
        clear hv0 HV1 hAc
        go_wp2_with fail
        refine (compare_ge HV0.out (HB.out.only (HI.out.2.2.trans HO1.out)) hd0 hd6).mono ?_
        rintro e w2 ⟨c, rfl, hc, q, hq⟩
        have ho2 : Only NoneOf wr w2 := by rw [hq]; exact HO1.out.drewN _
        have hv2 : Rd w2 v1 [d] := HV0.out.only (by rw [hq]; exact (Only.refl _ _).drewN _)
        have hc' : ¬ c < 0 := by omega
        have HO2 := Lib.hid ho2
        have HV2 := Lib.hid hv2
        clear hq ho2 hv2 hc
        go_wp2_with fail
        go_loopw [9, 10] (fun l h wr' => ∃ low high : Nat, l = .int .i64 low ∧ h = .int .i64 high ∧ BisI w2 d low high wr') (fun l h _ => (intOf h - intOf l).toNat)
        case atStart => exact ⟨0, 65536, rfl, rfl, by omega, hd6, by omega, Only.refl _ _⟩
        case round =>
          obtain ⟨low, high, rfl, rfl, hl1, hl2, hl3, hl4⟩ := hrel
          have HL4 := Lib.hid hl4
          clear hl4
          by_cases hlt : low + 1 < high
          · obtain ⟨m, em⟩ : ∃ m, m = (low + high) / 2 := ⟨_, rfl⟩
            have em2 : ((low : Int) + (high : Int)) / 2 = (m : Int) := by omega
            have hm1 : low < m := by omega
            have hm2 : m < high := by omega
            have ht : 1 < (high : Int) - (low : Int) := by omega
            clear em
            go_wp2_with fail
            refine (by_pos (HB.out.only (HI.out.2.2.trans (HO2.out.trans HL4.out))) (by omega) (by omega)).mono ?_
            rintro e w3 ⟨v3, rfl, hv3, ho3⟩
            have HV3 := Lib.hid hv3
            have HO3 := Lib.hid ho3
            clear hv3 ho3
            go_wp2_with fail
            refine (compare_le HV3.out (HV2.out.only (HL4.out.trans HO3.out)) (by omega) hd6).mono ?_
            rintro e w4 ⟨c4, rfl, hc4, q4, hq4⟩
            have HO4 : Hid (Only NoneOf w2 w4) := Lib.hid (by rw [hq4]; exact (HL4.out.trans HO3.out).drewN _)
            clear hq4
            by_cases hmd : m ≤ d
            · have hc5 : c4 ≤ 0 := hc4.2 hmd
              clear hc4
              go_wp2_with fail
              go_roundw
              case rel => exact ⟨m, high, rfl, rfl, hmd, hl2, hl3, HO4.out⟩
              case measure => simp [intOf]; omega
            · have hc5 : ¬ c4 ≤ 0 := fun e => hmd (hc4.1 e)
              clear hc4
              go_wp2_with fail
              go_roundw
              case rel => exact ⟨low, m, rfl, rfl, hl1, by omega, by omega, HO4.out⟩
              case measure => simp [intOf]; omega
          · obtain rfl : low = d := by omega
            have ht : ¬ 1 < (high : Int) - (low : Int) := by omega
            have hw3 := HO2.out.trans HL4.out
            have hb2 : Blk _ Q 3 ((qRow D (i + 1)).map dv).toArray := HI.out.2.1.only hw3 (fun e => e)
            obtain ⟨w3, ew3⟩ : ∃ w3, w3 = wr := ⟨_, rfl⟩
            have cq := hb2.cell i
            rw [List.getElem?_toArray, List.getElem?_map, qRow, List.getElem?_append_left (by simp), List.getElem?_replicate, if_pos (by omega)] at cq
            have cq2 := cq
            simp only [Option.map_some, dv] at cq2
            have fq := hb2.frozen i
            have HB2 := Lib.hid hb2
            have HW3 := Lib.hid hw3
            clear hb2 hw3 cq ew3
            go_wp2_with fail
            have hN := (HI.out.2.2.trans HW3.out).setCell (p := ⟨Q, i, none⟩) (.inr (by rw [EQ.out]; exact Nat.le_refl _)) (dv low)
            refine (by_pos (HB.out.only hN) hd0 hd6).mono ?_
            rintro e w5 ⟨v5, rfl, hv5, ho5⟩
            have HN := Lib.hid hN
            have HV5 := Lib.hid hv5
            have HO5 := Lib.hid ho5
            clear hN hv5 ho5
            go_wp2_with fail
            have hs : Only (fun k => k = Q) w2 w5 := (((Only.refl (fun k => k = Q) w2).trans' HL4.out (fun _ _ h => h.elim)).setCell (p := ⟨Q, i, none⟩) (.inl rfl) (dv low)).trans' HO5.out (fun _ _ h => h.elim)
            refine (minus_one (HV2.out.onlyS hs HNE.out) HV5.out hd6).mono ?_
            rintro e w6 ⟨v6, rfl, hv6, ho6⟩
            have HV6 := Lib.hid hv6
            have HO6 := Lib.hid ho6
            clear hs hv6 ho6
            go_wp2_with fail
            go_roundw
            case rel =>
              refine ⟨i, by omega, rfl, HV6.out, ?_, HN.out.trans (HO5.out.trans HO6.out)⟩
              have := HB2.out.set_ i (dv low)
              rw [qRow_set HDI.out] at this
              exact this.only (HO5.out.trans HO6.out) (fun e => e)
            case measure => simp [intOf]
end Go.Proofs.YtclpebgjmgfigaaGreatDoor
namespace Go.Proofs.YtclpebgjmgfigaaGreatDoor
open Go.RowKit
/-- A number of the reference: its sign and its digits. -/
def bigV (neg : Bool) (v : Value) : Value := .agg #[.bool neg, v]
theorem dg16_take_snoc {m k : Nat} (h : m / 65536 ^ k ≠ 0) : (dg16 m).take (k + 1) = (dg16 m).take k ++ [m / 65536 ^ k % 65536] := take_snoc' (dg16_at m k h)
theorem dg16_size {m k : Nat} (h : m / 65536 ^ k ≠ 0) : k < (dg16 m).length := (List.getElem?_eq_some_iff.1 (dg16_at m k h)).1
theorem div_next (m k : Nat) : m / 65536 ^ (k + 1) = m / 65536 ^ k / 65536 := by rw [Nat.pow_succ, ← Nat.div_div_eq_div_mul]
theorem dg16_end (m : Nat) : m / 65536 ^ (dg16 m).length = 0 := by
  have h := dg16_drop (dg16 m).length m
  rw [List.drop_length] at h
  rcases Nat.eq_zero_or_pos (m / 65536 ^ (dg16 m).length) with h0 | h0
  · exact h0
  · rw [dg16_pos (by omega)] at h; cases h
theorem dg16_len4 {m : Nat} (h : m ≤ 9223372036854775808) : (dg16 m).length ≤ 4 := dg16_len 4 m (by rw [pow64]; omega)
def OfI (w : World) (m k : Nat) (v : Value) (wr : World) : Prop := wr.ownsRow (w.heap.size + 1) 3 1 v ((dg16 m).take k).length (((dg16 m).take k).map dv) ∧ Blk wr w.heap.size 159 #[.bool false, .slice none 0 0] ∧ Only NoneOf w wr
theorem wrap_u (x : Int) (h0 : 0 ≤ x) (h1 : x < 18446744073709551616) : IntKind.u64.wrap x = x := by
  simp [IntKind.wrap, IntKind.bits, IntKind.signed]; omega
set_option maxRecDepth 100000 in
set_option maxHeartbeats 1000000 in
theorem of_any (n : Int) (h0 : -9223372036854775808 ≤ n) (h1 : n ≤ 9223372036854775807) (w : World) :
    Calls Tryz.prog 122 #[.int .i64 n] w fun e w' => ∃ v, e = .returned (bigV (decide (n < 0)) v) ∧ Rd w' v (dg16 n.natAbs) ∧ Only NoneOf w w' := by
  obtain ⟨m, em⟩ : ∃ m, m = n.natAbs := ⟨_, rfl⟩
  obtain ⟨i0, hi0, hz0, hz1, hz2⟩ := info_parts info_i64
  have hm : m ≤ 9223372036854775808 := by omega
  have hl4 := dg16_len4 hm
  rw [← em]
  have EM := Lib.hid em
  have HL4 := Lib.hid hl4
  clear em hl4
  obtain ⟨nb, enb⟩ : ∃ nb : Bool, decide (n < 0) = nb := ⟨_, rfl⟩
  have hM : ∀ k, m / 65536 ^ k ≤ 9223372036854775808 := fun k => Nat.le_trans (Nat.div_le_self _ _) hm
  have HM := Lib.hid hM
  have HMM := Lib.hid hm
  clear hM hm
  have key : ∀ (x : Int), (n < 0 → x = 18446744073709551616 + n) → True := fun _ _ => trivial
  clear key
  rw [enb]
  by_cases hn : n < 0
  all_goals
    first
      | have hu : IntKind.u64.wrap n = 18446744073709551616 + n := by simp [IntKind.wrap, IntKind.bits, IntKind.signed]; omega
        have hv : IntKind.u64.wrap (-(18446744073709551616 + n)) = (m : Int) := by
          have := EM.out
          have := HMM.out
          simp [IntKind.wrap, IntKind.bits, IntKind.signed]; omega
      | have hu : IntKind.u64.wrap n = (m : Int) := by
          have := EM.out
          simp [IntKind.wrap, IntKind.bits, IntKind.signed]; omega
    first
      | (have e1 := decide_eq_true hn; rw [enb] at e1; subst e1; clear enb)
      | (have e1 := decide_eq_false hn; have hdd := e1; rw [enb] at e1; subst e1; clear enb)
    have HN0 := Lib.hid h0
    have HN1 := Lib.hid h1
    clear h0 h1
    go_enter Tryz.func122, Tryz.ntmps122
    go_wp2_with fail
    clear hu
    (try clear hv)
    go_loopw [3, 4] (fun a b wr => ∃ k : Nat, b = .int .u64 ((m / 65536 ^ k : Nat) : Int) ∧ k ≤ 4 ∧ OfI w m k a wr) (fun _ b _ => (intOf b).toNat)
    case atStart => exact ⟨0, by simp, by omega, by simpa using World.ownsRow_nil _ _ _ _, Blk.new w _ _, (Only.refl _ _).alloc _⟩
    case round =>
      obtain ⟨k, rfl, hk, hI⟩ := hrel
      obtain ⟨q, eq⟩ : ∃ q, q = m / 65536 ^ k := ⟨_, rfl⟩
      have hq := HM.out k
      rw [← eq] at hq ⊢
      have HI := Lib.hid hI
      have HEQ := Lib.hid eq
      clear hI eq
      obtain ⟨l, el⟩ : ∃ l, l = ((dg16 m).take k).length := ⟨_, rfl⟩
      have hown := HI.out.1
      rw [← el] at hown
      have hl : l ≤ 4 := by rw [el, List.length_take]; omega
      obtain ⟨A3, c3, e3, hc3, hc3m⟩ := own_form' hown
      unfold maxLen at hc3m
      subst e3
      have HO := Lib.hid hown
      have EL := Lib.hid el
      clear hown el
      obtain ⟨B, eB⟩ : ∃ B, B = w.heap.size := ⟨_, rfl⟩
      have hblk := HI.out.2.1
      rw [← eB] at hblk ⊢
      have HBB := Lib.hid hblk
      have EB := Lib.hid eB
      have c0 : wr.cell? ⟨B, 0, none⟩ = some (.bool false) := hblk.cell 0
      have c1 : wr.cell? ⟨B, 1, none⟩ = some (.slice none 0 0) := hblk.cell 1
      have f0 := hblk.frozen 0
      have f1 := hblk.frozen 1
      clear hblk eB
      by_cases hq0 : q = 0
      · subst hq0
        go_wp2_with fail
        have hb2 := fun x => (HBB.out.set_ 0 (.bool x)).set_ 1 (.slice A3 l c3)
        have hall : (dg16 m).take k = dg16 m := dg16_all m k HEQ.out.symm
        have hrd : Rd wr (.slice A3 l c3) (dg16 m) := by
          have h := HO.out
          rw [hall] at h
          exact Rd.of_own h
        have hne : ∀ j, (Value.slice A3 l c3).ownBlock = some j → ¬ j = B := fun j hj e => by have := (own_ge HO.out hj).1; have := EB.out; omega
        refine bodyPost_ret (results_blk rfl rfl (hb2 _) Tryz.underlying159 rfl (by kernel_rfl)) rfl ⟨_, rfl, hrd.onlyS (((Only.refl (fun j => j = B) _).setCell (.inl rfl) _).setCell (.inl rfl) _) hne, ?_⟩
        exact (HI.out.2.2.setCell (.inr (by rw [EB.out]; exact Nat.le_refl _)) _).setCell (.inr (by rw [EB.out]; exact Nat.le_refl _)) _
      · have hq1 : (0 : Int) < (q : Int) := by omega
        have hw1 : IntKind.i64.wrap ((q : Int) % 65536) = (q : Int) % 65536 := IntWalk.i64_in _ (by omega)
        obtain ⟨r, er⟩ : ∃ r, r = q % 65536 := ⟨_, rfl⟩
        have er2 : (q : Int) % 65536 = (r : Int) := by omega
        have hk5 : k < (dg16 m).length := dg16_size (by rw [← HEQ.out]; exact hq0)
        have hlk : l = k := by rw [EL.out, List.length_take]; omega
        have hsz := HI.out.2.2.size
        have hsn : (dg16 m).take (k + 1) = (dg16 m).take k ++ [r] := by rw [dg16_take_snoc (by rw [← HEQ.out]; exact hq0), ← HEQ.out, er]
        have HSN := Lib.hid hsn
        have HLK := Lib.hid hlk
        have ER := Lib.hid er
        rw [er2] at hw1
        clear hsn hlk er
        go_wp2_with (at_builtin; refine wpList_append_own _ rfl _ _ 69 rfl (w.heap.size + 1) 3 i0 _ 1 8 Tryz.underlying69 hi0 hz0 hz1 hz2 rfl (by decide) (.slice A3 l c3) l _ rfl (by exact (HO.out.alloc _)) ⟨wr.heap.size, 0, none⟩ 1 1 [.int .i64 (r : Int)] rfl rfl (World.news_of_block (cs := #[.int .i64 (r : Int)]) (t := 3) (fr := (0, 0)) (by simpa using heap_alloc_new wr _)) (by simp [Value.oneCell']) (by rw [maxLen_val]; omega) (by omega) (by have := HI.out.2.1.lt; simp; omega) ?_; intro v' w1 hown1 hgrow _)
        go_roundw
        case rel =>
          refine ⟨k + 1, ?_, ?_, ?_, ?_, ?_⟩
          · rw [div_next, ← HEQ.out]; congr 1
          · have := HL4.out; omega
          · rw [HSN.out, List.map_append, List.length_append, ← EL.out]; exact hown1
          · have h := HBB.out
            rw [EB.out] at h
            exact (h.alloc _).grown hgrow (fun e => by have := (own_ge HO.out e.symm).1; omega)
          · exact (HI.out.2.2.alloc _).grown hgrow (fun j e => .inr (by have := (own_ge HO.out e).1; omega))
        case measure => simp [intOf]; omega
def FitI (m : Nat) (len : Nat) (a b : Value) : Prop := ∃ k : Nat, k ≤ len ∧ b = .int .i64 ((k : Int) - 1) ∧ a = .int .u64 ((m / 65536 ^ k : Nat) : Int)
set_option maxRecDepth 100000 in
set_option maxHeartbeats 1000000 in
theorem fit_any (neg : Bool) (v : Value) (m : Nat) (w : World) (hv : Rd w v (dg16 m)) (hm : m ≤ 9223372036854775808) (hn : neg = true ∧ 0 < m ∨ neg = false ∧ m < 9223372036854775808) :
    Calls Tryz.prog 144 #[bigV neg v] w fun e w' => e = .returned (.tuple #[.int .i64 (if neg then -(m : Int) else (m : Int)), .bool true]) ∧ Only NoneOf w w' := by
  have hl4 := dg16_len4 hm
  obtain ⟨g0, c0, rfl, hc0, hc0m⟩ := hv.form
  obtain ⟨len, elen⟩ : ∃ len, len = (dg16 m).length := ⟨_, rfl⟩
  rw [← elen] at hl4 hc0 hv ⊢
  have HV := Lib.hid (hv.only ((Only.refl NoneOf w).alloc (.cells #[.bool neg, .slice g0 len c0] 159)))
  have EL := Lib.hid elen
  have hM : ∀ k, m / 65536 ^ k ≤ 9223372036854775808 := fun k => Nat.le_trans (Nat.div_le_self _ _) hm
  have HM := Lib.hid hM
  have HMM := Lib.hid hm
  clear hv elen hM hm
  unfold bigV
  go_enter Tryz.func144, Tryz.ntmps144
  go_wp2_with fail
  refine (trim_any HV.out).mono ?_
  rintro e w1 ⟨v1, rfl, hv1, hw1⟩
  rw [hw1]
  rw [dg16_trim] at hv1
  have HV1 := Lib.hid hv1
  obtain ⟨g1, c1, e1, hc1, hc1m⟩ := hv1.form
  rw [← EL.out] at e1 hc1
  subst e1
  clear hv1 hw1
  go_wp2_with fail
  have hcell : ∀ (i d : Nat), (dg16 m)[i]? = some d → ∃ g, g1 = some ⟨g, 0, none⟩ ∧ (w.alloc (.cells #[.bool neg, .slice g0 len c0] 159)).cell? ⟨g, i, none⟩ = some (.int .i64 (d : Int)) := fun i d hd => by
    obtain ⟨g, c, he, _, _, _, hc⟩ := HV1.out.cells (by intro e; rw [e] at hd; simp at hd)
    simp only [Value.slice.injEq] at he
    exact ⟨g, he.1, hc i d hd⟩
  have HCELL := Lib.hid hcell
  have z0 : m / 65536 ^ len = 0 := by rw [EL.out]; exact dg16_end m
  have Z0 := Lib.hid z0
  clear hcell z0
  go_loop [5, 6] (fun a b => FitI m len a b) (fun _ b => (intOf b + 1).toNat)
  case atStart => exact ⟨len, Nat.le_refl _, rfl, by rw [Z0.out]; rfl⟩
  case round =>
    obtain ⟨k, hk, rfl, rfl⟩ := hrel
    rcases Nat.eq_zero_or_pos k with h0 | h0
    · subst h0
      rw [Nat.pow_zero, Nat.div_one]
      have hb0 := HMM.out
      cases neg with
      | true =>
        have hle : decide ((m : Int) ≤ 9223372036854775808) = true := decide_eq_true (by omega)
        have hm0 : 0 < m := by simpa using hn
        have hw1 : IntKind.u64.wrap (-(m : Int)) = 18446744073709551616 - (m : Int) := by simp [IntKind.wrap, IntKind.bits, IntKind.signed]; omega
        have hw2 : IntKind.i64.wrap (18446744073709551616 - (m : Int)) = -(m : Int) := by rw [IntKind.wrap_i64]; omega
        clear hn hb0 hm0
        go_wp2_with fail
        go_ret2
        exact ⟨rfl, (Only.refl _ _).alloc _⟩
      | false =>
        have hm1 : m < 9223372036854775808 := by simpa using hn
        have hge : decide (9223372036854775808 ≤ (m : Int)) = false := decide_eq_false (by omega)
        have hw2 : IntKind.i64.wrap (m : Int) = (m : Int) := IntWalk.i64_in _ (by omega)
        clear hn hb0 hm1
        go_wp2_with fail
        go_ret2
        exact ⟨rfl, (Only.refl _ _).alloc _⟩
    · obtain ⟨i, rfl⟩ : ∃ i, k = i + 1 := ⟨k - 1, by omega⟩
      have hlast : m / 65536 ^ i ≠ 0 := by
        intro e
        have h1 := dg16_all m i e
        have h2 := congrArg List.length h1
        rw [List.length_take, ← EL.out] at h2
        omega
      have hat := dg16_at m i hlast
      have hst := dg16_step m i
      obtain ⟨d, ed⟩ : ∃ d, d = m / 65536 ^ i % 65536 := ⟨_, rfl⟩
      obtain ⟨q, eq⟩ : ∃ q, q = m / 65536 ^ (i + 1) := ⟨_, rfl⟩
      obtain ⟨p, ep⟩ : ∃ p, p = m / 65536 ^ i := ⟨_, rfl⟩
      have hp := HM.out i
      rw [← ed] at hat
      rw [← ed, ← eq, ← ep] at hst
      rw [← ep] at hp
      rw [← eq]
      obtain ⟨g, rfl, hc⟩ := HCELL.out i d hat
      rw [show ((i + 1 : Nat) : Int) - 1 = (i : Int) by omega]
      have i0 : (0 : Int) ≤ (i : Int) := by omega
      have il : (i : Int) < (len : Int) := by omega
      have hw1 : IntKind.u64.wrap ((q : Int) * 65536) = (q : Int) * 65536 := wrap_u _ (by omega) (by omega)
      have hw2 : IntKind.u64.wrap (d : Int) = (d : Int) := wrap_u _ (by omega) (by omega)
      have hw3 : IntKind.u64.wrap ((q : Int) * 65536 + (d : Int)) = (p : Int) := by rw [wrap_u _ (by omega) (by omega)]; omega
      have EP := Lib.hid ep
      clear hat hst hlast ed eq ep hp hn
      go_wp2_with fail
      go_round
      case rel => exact ⟨i, by omega, rfl, by rw [EP.out]⟩
      case measure => simp [intOf]
end Go.Proofs.YtclpebgjmgfigaaGreatDoor
namespace Go.Proofs.YtclpebgjmgfigaaGreatDoor
open Go.RowKit
def ComI (w : World) (m : Nat) (a b : Value) (wr : World) : Prop := (Rd wr a (dg16 m) ∧ Rd wr b [1] ∨ Rd wr a [1] ∧ Rd wr b []) ∧ Only NoneOf w wr
set_option maxRecDepth 100000 in
set_option maxHeartbeats 400000 in
theorem common_one {va vb : Value} {m : Nat} {w : World} (ha : Rd w va (dg16 m)) (hb : Rd w vb [1]) (hm : m ≤ 9223372036854775808) :
    Calls Tryz.prog 141 #[va, vb] w (RetRd [1] w) := by
  have HI0 : Hid (ComI w m va vb w) := Lib.hid ⟨.inl ⟨ha, hb⟩, Only.refl _ _⟩
  have HM := Lib.hid (dg16_len4 hm)
  clear ha hb hm
  go_enter Tryz.func141, Tryz.ntmps141
  go_wp2_with fail
  go_loopw [0, 1] (fun a b wr => ComI w m a b wr) (fun _ b _ => match b with | .slice _ k _ => k | _ => 0)
  case atStart => exact HI0.out
  case round =>
    obtain ⟨⟨ha, hb⟩ | ⟨ha, hb⟩, ho⟩ := hrel
    · have HA := Lib.hid ha
      have HB := Lib.hid hb
      have HO := Lib.hid ho
      obtain ⟨b1, c1, e1, hc1, hc1m⟩ := hb.form
      subst e1
      clear ha hb ho
      go_wp2_with fail
      refine (trim_any HB.out).mono ?_
      rintro e w1 ⟨v1, rfl, hv1, hw1⟩
      rw [hw1]
      rw [show trimL [1] = [1] from rfl] at hv1
      obtain ⟨b2, c2, e2, hc2, hc2m⟩ := hv1.form
      subst e2
      clear hv1 hw1
      go_wp2_with fail
      refine (trim_any HA.out).mono ?_
      rintro e w1 ⟨v1, rfl, hv1, hw1⟩
      rw [hw1]
      rw [dg16_trim] at hv1
      have HV1 := Lib.hid hv1
      clear hv1 hw1
      go_wp2_with fail
      refine (trim_any HB.out).mono ?_
      rintro e w1 ⟨v2, rfl, hv2, hw1⟩
      rw [hw1]
      rw [show trimL [1] = [1] from rfl] at hv2
      have HV2 := Lib.hid hv2
      clear hv2 hw1
      go_wp2_with fail
      refine (over_one HV1.out HV2.out (dg16_lt m) (dg16_trim m) (Nat.le_trans HM.out (by omega))).mono ?_
      rintro e w2 ⟨q, r, rfl, hq, hr, ho2⟩
      have HR := Lib.hid hr
      have HO2 := Lib.hid ho2
      obtain ⟨b3, c3, e3, hc3, hc3m⟩ := hr.form
      subst e3
      clear hq hr ho2
      go_wp2_with fail
      go_roundw
      case rel => exact ⟨.inr ⟨HB.out.only HO2.out, HR.out⟩, HO.out.trans HO2.out⟩
      case measure => simp
    · have HA := Lib.hid ha
      have HB := Lib.hid hb
      have HO := Lib.hid ho
      clear ha hb ho
      go_wp2_with fail
      refine (trim_any HB.out).mono ?_
      rintro e w1 ⟨v1, rfl, hv1, hw1⟩
      rw [hw1]
      rw [trimL_nil] at hv1
      obtain ⟨b2, c2, e2, hc2, hc2m⟩ := hv1.form
      subst e2
      clear hv1 hw1
      go_wp2_with fail
      refine (trim_any HA.out).mono ?_
      rintro e w1 ⟨v1, rfl, hv1, hw1⟩
      rw [hw1]
      rw [show trimL [1] = [1] from rfl] at hv1
      have HV1 := Lib.hid hv1
      clear hv1 hw1
      go_wp2_with fail
      go_ret
      exact ⟨_, rfl, HV1.out, HO.out⟩
/-- A rational number of the reference. -/
abbrev ratV (n d : Int) : Value := .agg #[.int .i64 n, .int .i64 d]
set_option maxRecDepth 100000 in
set_option maxHeartbeats 1000000 in
theorem lowest_one (n : Int) {va vb : Value} (h0 : -9223372036854775808 ≤ n) (h1 : n ≤ 9223372036854775807) (hn : n ≠ 0) {w : World} (ha : Rd w va (dg16 n.natAbs)) (hb : Rd w vb [1]) :
    Calls Tryz.prog 121 #[bigV (decide (n < 0)) va, bigV false vb] w fun e w' => e = .returned (.tuple #[ratV n 1, .bool true]) ∧ Only NoneOf w w' := by
  obtain ⟨m, em⟩ : ∃ m, m = n.natAbs := ⟨_, rfl⟩
  rw [← em] at ha
  have hm : m ≤ 9223372036854775808 := by omega
  have hm0 : 0 < m := by omega
  obtain ⟨ga, ca, ea, hca, hcam⟩ := ha.form
  obtain ⟨gb, cb, eb, hcb, hcbm⟩ := hb.form
  obtain ⟨neg, eneg⟩ : ∃ neg : Bool, decide (n < 0) = neg := ⟨_, rfl⟩
  have hfit : neg = true ∧ 0 < m ∨ neg = false ∧ m < 9223372036854775808 := by
    rw [← eneg]
    by_cases hlt : n < 0
    · exact .inl ⟨decide_eq_true hlt, hm0⟩
    · exact .inr ⟨decide_eq_false hlt, by omega⟩
  have hval : (if neg then -(m : Int) else (m : Int)) = n := by
    rw [← eneg]
    by_cases hlt : n < 0
    · rw [decide_eq_true hlt]; simp; omega
    · rw [decide_eq_false hlt]; simp; omega
  rw [eneg]
  have HA := Lib.hid ha
  have HB := Lib.hid hb
  have HM := Lib.hid hm
  have HM0 := Lib.hid (dg16_pos_len (m := m) (by omega))
  have HFIT := Lib.hid hfit
  have HVAL := Lib.hid hval
  have hle := dg16_len4 hm
  have HLE := Lib.hid hle
  clear ha hb hm hm0 em eneg hfit hval hn h0 h1 hle
  subst ea eb
  unfold bigV
  go_enter Tryz.func121, Tryz.ntmps121
  go_wp2_with fail
  obtain ⟨B, eB⟩ : ∃ B, B = w.heap.size := ⟨_, rfl⟩
  obtain ⟨L, eL⟩ : ∃ L, L = (dg16 m).length := ⟨_, rfl⟩
  have hL : 0 < L := by have := HM0.out; omega
  rw [← eB, ← eL]
  rw [← eL] at HA
  have EL := Lib.hid eL
  refine calls_gen (fun X => Only NoneOf w X ∧ Blk X B 159 #[.bool neg, .slice ga L ca] ∧ Blk X (B + 1) 159 #[.bool false, .slice gb 1 cb] ∧ Blk X (B + 2) 106 #[.int .i64 0, .int .i64 0])
    ⟨((Only.refl NoneOf w).alloc _).alloc _ |>.alloc _, by rw [eB]; exact ((Blk.new w _ _).alloc _).alloc _, by rw [eB]; exact (by simpa using Blk.new (w.alloc (.cells #[.bool neg, .slice ga L ca] 159)) 159 #[.bool false, .slice gb 1 cb] : Blk _ (w.heap.size + 1) _ _).alloc _, by rw [eB]; simpa using Blk.new ((w.alloc (.cells #[.bool neg, .slice ga L ca] 159)).alloc (.cells #[.bool false, .slice gb 1 cb] 159)) 106 #[.int .i64 0, .int .i64 0]⟩ ?_
  rintro X ⟨ho, hb1, hb2, hb3⟩
  have HO := Lib.hid ho
  have HB1 := Lib.hid hb1
  have HB2 := Lib.hid hb2
  have HB3 := Lib.hid hb3
  have EB := Lib.hid eB
  clear eB eL ho hb1 hb2 hb3
  refine (common_one (HA.out.only HO.out) (HB.out.only HO.out) HM.out).mono ?_
  rintro e w1 ⟨g, rfl, hg, ho1⟩
  have HG := Lib.hid hg
  have HO1 := Lib.hid ho1
  have c1 : w1.cell? ⟨B, 1, none⟩ = some (.slice ga L ca) := (HB1.out.only ho1 (fun e => e)).cell 1
  clear hg ho1
  go_wp2_with fail
  refine (trim_any (HA.out.only (HO.out.trans HO1.out))).mono ?_
  rintro e w2 ⟨v2, rfl, hv2, hw2⟩
  rw [hw2]
  rw [dg16_trim] at hv2
  have HV2 := Lib.hid hv2
  clear hv2 hw2 c1
  go_wp2_with fail
  refine (over_one HV2.out HG.out (dg16_lt m) (dg16_trim m) (Nat.le_trans HLE.out (by omega))).mono ?_
  rintro e w3 ⟨q, r, rfl, hq, _, ho3⟩
  have HO3 := Lib.hid (HO1.out.trans ho3)
  have HG3 := Lib.hid (HG.out.only ho3)
  have HQ := Lib.hid hq
  obtain ⟨gq, cq, eq, hcq, hcqm⟩ := hq.form
  rw [← EL.out] at eq hcq
  subst eq
  have c1 : w3.cell? ⟨B + 1, 1, none⟩ = some (.slice gb 1 cb) := (HB2.out.only HO3.out (fun e => e)).cell 1
  clear hq ho3
  go_wp2_with fail
  refine (trim_any (HB.out.only (HO.out.trans HO3.out))).mono ?_
  rintro e w4 ⟨v4, rfl, hv4, hw4⟩
  rw [hw4]
  rw [show trimL [1] = [1] from rfl] at hv4
  have HV4 := Lib.hid hv4
  clear hv4 hw4 c1
  go_wp2_with fail
  refine (over_one (D := [1]) HV4.out HG3.out (by simp) rfl (by simp)).mono ?_
  rintro e w5 ⟨q5, r5, rfl, hq5, _, ho5⟩
  have HO5 := Lib.hid (HO3.out.trans ho5)
  have HQ5 := Lib.hid hq5
  have HQB := Lib.hid (HQ.out.only ho5)
  have c0 : w5.cell? ⟨B, 0, none⟩ = some (.bool neg) := (HB1.out.only HO5.out (fun e => e)).cell 0
  have c2 : w5.cell? ⟨B + 1, 0, none⟩ = some (.bool false) := (HB2.out.only HO5.out (fun e => e)).cell 0
  have hL2 : (0 : Int) < (L : Int) := by omega
  have hbb : (neg != false) = neg := by cases neg <;> rfl
  obtain ⟨g5, c5, e5, hc5, hc5m⟩ := hq5.form
  subst e5
  simp only [List.length_singleton] at HQ5 hc5
  have hf0 := fit_any neg _ m w5 HQB.out HM.out HFIT.out
  rw [HVAL.out] at hf0
  have HF0 := Lib.hid hf0
  clear hq5 ho5 hf0 HFIT HVAL
  cases neg
  all_goals
    go_wp2_with fail
    refine HF0.out.mono ?_
    rintro e w6 ⟨rfl, ho6⟩
    have HO6 := Lib.hid (HO5.out.trans ho6)
    have HQ6 := Lib.hid (HQ5.out.only ho6)
    clear ho6 c0 c2
    go_wp2_with fail
    have hf := fit_any false _ 1 w6 (by rw [dg16_one]; exact HQ6.out) (by omega) (.inr ⟨rfl, by omega⟩)
    refine hf.mono ?_
    rintro e w7 ⟨rfl, ho7⟩
    have HO7 := Lib.hid (HO6.out.trans ho7)
    have c0 : w7.cell? ⟨B + 2, 0, none⟩ = some (.int .i64 0) := (HB3.out.only HO7.out (fun e => e)).cell 0
    have c2 : w7.cell? ⟨B + 2, 1, none⟩ = some (.int .i64 0) := (HB3.out.only HO7.out (fun e => e)).cell 1
    have f0 := (HB3.out.only HO7.out (fun e => e)).frozen 0
    have f1 := (HB3.out.only HO7.out (fun e => e)).frozen 1
    clear hf ho7
    go_wp2_with fail
    have hb9 := ((HB3.out.only HO7.out (fun e => e)).set_ 0 (.int .i64 n)).set_ 1 (.int .i64 1)
    have d0 := hb9.cell 0
    have d1 := hb9.cell 1
    simp only [List.setIfInBounds_toArray, List.set_cons_zero, List.set_cons_succ, List.getElem?_toArray, List.getElem?_cons_zero, List.getElem?_cons_succ] at d0 d1
    exact bodyPost_ret (v := .tuple #[.agg #[.int .i64 n, .int .i64 1], .bool true]) (by simp [results, Tryz.results121, go_sem, d0, d1]) rfl ⟨rfl, ((HO.out.trans HO7.out).setCell (.inr (by rw [EB.out]; show _ ≤ w.heap.size + 1 + 1; omega)) _).setCell (.inr (by rw [EB.out]; show _ ≤ w.heap.size + 1 + 1; omega)) _⟩
set_option maxRecDepth 100000 in
set_option maxHeartbeats 400000 in
theorem quick_one (n : Int) (h0 : -1000000000 < n) (h1 : n < 1000000000) (w : World) :
    Calls Tryz.prog 120 #[.int .i64 n, .int .i64 1] w fun e w' => e = .returned (ratV n 1) ∧ Only NoneOf w w' := by
  have wn : IntKind.i64.wrap (-n) = -n := IntWalk.i64_in _ (by omega)
  go_enter Tryz.func120, Tryz.ntmps120
  go_wp2_with fail
  all_goals
    go_loop [5, 6] (fun a b => (∃ m : Int, 0 ≤ m ∧ m < 1000000000 ∧ a = .int .i64 m ∧ b = .int .i64 1) ∨ a = .int .i64 1 ∧ b = .int .i64 0) (fun _ b => (intOf b).toNat)
    case atStart => exact .inl ⟨_, by omega, by omega, rfl, rfl⟩
    case round =>
      rcases hrel with ⟨m, hm0, hm1, rfl, rfl⟩ | ⟨rfl, rfl⟩
      · have e1 : m % 1 = 0 := Int.emod_one m
        go_wp2_with fail
        go_round
        case rel => exact .inr ⟨rfl, rfl⟩
        case measure => simp [intOf]
      · obtain ⟨B, eB⟩ : ∃ B, B = w.heap.size := ⟨_, rfl⟩
        have hb := Blk.new w 106 #[.int .i64 0, .int .i64 0]
        obtain ⟨X, eX⟩ : ∃ X, X = w.alloc (.cells #[.int .i64 0, .int .i64 0] 106) := ⟨_, rfl⟩
        rw [← eX] at hb ⊢
        rw [← eB] at hb ⊢
        have c0 : X.cell? ⟨B, 0, none⟩ = some (.int .i64 0) := hb.cell 0
        have c1 : X.cell? ⟨B, 1, none⟩ = some (.int .i64 0) := hb.cell 1
        have f0 := hb.frozen 0
        have f1 := hb.frozen 1
        have HB := Lib.hid hb
        have EB := Lib.hid eB
        have HO : Hid (Only NoneOf w X) := Lib.hid (by rw [eX]; exact (Only.refl _ _).alloc _)
        have q1 : n / 1 = n := Int.ediv_one n
        clear hb eB eX
        go_wp2_with fail
        go_region
        go_wp2_with fail
        have hb9 := ((HB.out.set_ 0 (.int .i64 n)).set_ 1 (.int .i64 1)).drew
        exact bodyPost_ret (results_blk rfl rfl hb9 Tryz.underlying106 rfl (by kernel_rfl)) rfl ⟨rfl, ((HO.out.setCell (.inr (by rw [EB.out]; exact Nat.le_refl _)) _).setCell (.inr (by rw [EB.out]; exact Nat.le_refl _)) _).drew⟩
end Go.Proofs.YtclpebgjmgfigaaGreatDoor
namespace Go.Proofs.YtclpebgjmgfigaaGreatDoor
open Go.RowKit
theorem small_yes (n : Int) (h0 : -1000000000 < n) (h1 : n < 1000000000) (w : World) :
    Calls Tryz.prog 119 #[.int .i64 n] w fun e w' => e = .returned (.bool true) ∧ w' = w := by
  go_enter Tryz.func119, Tryz.ntmps119
  go_wp2_with fail
  go_ret
  exact ⟨rfl, rfl⟩
theorem small_no (n : Int) (h : ¬ (-1000000000 < n ∧ n < 1000000000)) (w : World) :
    Calls Tryz.prog 119 #[.int .i64 n] w fun e w' => e = .returned (.bool false) ∧ w' = w := by
  by_cases h1 : -1000000000 < n
  · have h2 : ¬ n < 1000000000 := fun e => h ⟨h1, e⟩
    have h3 : decide (n < 1000000000) = false := decide_eq_false h2
    clear h
    go_enter Tryz.func119, Tryz.ntmps119
    go_wp2_with fail
    go_ret
    exact ⟨rfl, rfl⟩
  · have h3 : decide (-1000000000 < n) = false := decide_eq_false h1
    clear h
    go_enter Tryz.func119, Tryz.ntmps119
    go_wp2_with fail
    go_ret
    exact ⟨rfl, rfl⟩
theorem new_rat {W W' : World} (ho : Only NoneOf (W.alloc (.cells #[.int .i64 0, .int .i64 0] 106)) W') : Blk W' W.heap.size 106 #[.int .i64 0, .int .i64 0] := (Blk.new W _ _).only ho (fun e => e)
theorem only_of_drew' {S : Nat → Prop} {w w' : World} (h : Only S w.drew w') : Only S w w' := ⟨h.os, h.tape, h.output, h.size, h.block⟩
theorem of_one (w : World) : Calls Tryz.prog 122 #[.int .i64 1] w fun e w' => ∃ v, e = .returned (bigV false v) ∧ Rd w' v [1] ∧ Only NoneOf w w' :=
  (of_any 1 (by omega) (by omega) w).mono fun _ _ ⟨v, he, hv, ho⟩ => ⟨v, he, by rw [show (1 : Int).natAbs = 1 from rfl, dg16_one] at hv; exact hv, ho⟩
theorem only_set2 {w W : World} (h : Only NoneOf w W) {b : Nat} (hb : w.heap.size ≤ b) (u v : Value) : Only NoneOf w ((W.setCell ⟨b, 0, none⟩ u).setCell ⟨b, 1, none⟩ v) :=
  (h.setCell (.inr hb) _).setCell (.inr hb) _
set_option maxRecDepth 100000 in
set_option maxHeartbeats 1000000 in
theorem right_one (n : Int) (h0 : -9223372036854775808 ≤ n) (h1 : n ≤ 9223372036854775807) (w : World) :
    Calls Tryz.prog 93 #[ratV n 1] w fun e w' => e = .returned (.bool true) ∧ Only NoneOf w w' := by
  have hb := Blk.new w 106 #[.int .i64 n, .int .i64 1]
  have HB := Lib.hid hb
  have c0 : (w.alloc (.cells #[.int .i64 n, .int .i64 1] 106)).cell? ⟨w.heap.size, 0, none⟩ = some (.int .i64 n) := hb.cell 0
  have c1 : (w.alloc (.cells #[.int .i64 n, .int .i64 1] 106)).cell? ⟨w.heap.size, 1, none⟩ = some (.int .i64 1) := hb.cell 1
  clear hb
  by_cases hs : -1000000000 < n ∧ n < 1000000000
  · obtain ⟨s0, s1⟩ := hs
    go_enter Tryz.func93, Tryz.ntmps93
    go_wp2_with (go_at_call 119; first | ((with_reducible refine (small_yes n s0 s1 _).mono ?_); rintro e w' ⟨rfl, rfl⟩) | ((with_reducible refine (small_yes 1 (by omega) (by omega) _).mono ?_); rintro e w' ⟨rfl, rfl⟩))
    go_region_held3 (fun w' => w'.cell? ⟨w.heap.size, 0, none⟩ = some (.int .i64 n) ∧ w'.cell? ⟨w.heap.size, 1, none⟩ = some (.int .i64 1)) (first | assumption | exact ⟨c0, c1⟩ | (refine ⟨?_, ?_⟩ <;> assumption) | go_keep)
      (first | (go_at_call 120; (with_reducible refine (quick_one n s0 s1 _).mono ?_); rintro e w9 ⟨rfl, ho9⟩; have s0' := ho9.cell_some c0 (fun e => e); have s1' := ho9.cell_some c1 (fun e => e); have HO9 := Lib.hid ho9; clear ho9))
    all_goals
      go_wp2_with fail
      go_ret
      exact ⟨rfl, ((Only.refl NoneOf w).alloc _).trans (only_of_drew' HO9.out)⟩
  · have hd := small_no n hs
    have HD := Lib.hid hd
    have hn0 : n ≠ 0 := fun e => hs (by omega)
    have HN0 := Lib.hid hn0
    clear hs hd hn0
    go_enter Tryz.func93, Tryz.ntmps93
    go_wp2_with (go_at_call 119; (with_reducible refine (HD.out _).mono ?_); rintro e w' ⟨rfl, rfl⟩)
    obtain ⟨B, eB⟩ : ∃ B, B = w.heap.size := ⟨_, rfl⟩
    obtain ⟨X, eX⟩ : ∃ X, X = w.alloc (.cells #[.int .i64 n, .int .i64 1] 106) := ⟨_, rfl⟩
    rw [← eX, ← eB] at c0 c1
    rw [← eX, ← eB]
    have HXX : Hid (Only NoneOf w X) := Lib.hid (by rw [eX]; exact (Only.refl _ _).alloc _)
    have HNN := Lib.hid (of_any n h0 h1)
    have H0 := Lib.hid h0
    have H1 := Lib.hid h1
    have n0 := World.new_ne X _ c0
    have n1 := World.new_ne X _ c1
    clear eX eB HB HD h0 h1
    go_region_held3 (fun w' => w'.cell? ⟨B, 0, none⟩ = some (.int .i64 n) ∧ w'.cell? ⟨B, 1, none⟩ = some (.int .i64 1)) (first | assumption | exact ⟨c0, c1⟩ | (refine ⟨?_, ?_⟩ <;> assumption) | go_keep)
      (first
        | (go_at_call 122; (with_reducible refine (HNN.out _).mono ?_); rintro e w2 ⟨v2, rfl, hv2, ho2⟩; have HO2 : Hid (Only NoneOf X w2) := Lib.hid (by first | exact (Only.refl NoneOf X).drew.trans ho2 | exact ((Only.refl NoneOf X).alloc _).drew.trans ho2); have s0 := HO2.out.cell_some c0 (fun e => e); have s1 := HO2.out.cell_some c1 (fun e => e); have n2 := World.new_ne w2 _ s0; have n3 := World.new_ne w2 _ s1; have HV2 := Lib.hid hv2; (try (have k2 := new_rat (only_of_drew' ho2); have r0 := k2.cell 0; have r1 := k2.cell 1; have f0 := k2.frozen 0; have f1 := k2.frozen 1; have K2 := Lib.hid k2; clear k2)); clear hv2 ho2)
        | (go_at_call 122; (with_reducible refine (of_one _).mono ?_); rintro e w3 ⟨v3, rfl, hv3, ho3⟩; have HO3 : Hid (Only NoneOf X w3) := Lib.hid (by first | exact HO2.out.trans ho3 | exact (HO2.out.alloc _).trans ho3); have s2 := HO3.out.cell_some c0 (fun e => e); have s3 := HO3.out.cell_some c1 (fun e => e); have n4 := World.new_ne w3 _ s2; have n5 := World.new_ne w3 _ s3; have HV3 := Lib.hid hv3; have HV23 := Lib.hid (HV2.out.only (by first | exact ho3 | exact ((Only.refl NoneOf w2).alloc _).trans ho3)); (first | (have K3 := Lib.hid (K2.out.only ho3 (fun e => e)); have r2 := K3.out.cell 0; have r3 := K3.out.cell 1; have f2 := K3.out.frozen 0; have f3 := K3.out.frozen 1) | (have K3 := Lib.hid (new_rat ho3); have r2 := K3.out.cell 0; have r3 := K3.out.cell 1; have f2 := K3.out.frozen 0; have f3 := K3.out.frozen 1) | skip); clear hv3 ho3)
        | (go_at_call 121; (with_reducible refine (lowest_one n H0.out H1.out HN0.out (by first | exact HV23.out | exact HV23.out.only ((Only.refl NoneOf w3).alloc _)) (by first | exact HV3.out | exact HV3.out.only ((Only.refl NoneOf w3).alloc _))).mono ?_); rintro e w4 ⟨rfl, ho4⟩; have HO4 : Hid (Only NoneOf X w4) := Lib.hid (by first | exact HO3.out.trans ho4 | exact (HO3.out.alloc _).trans ho4); have s4 := HO4.out.cell_some c0 (fun e => e); have s5 := HO4.out.cell_some c1 (fun e => e); have n6 := World.new_ne w4 _ s4; have n7 := World.new_ne w4 _ s5; (first | (have K4 := Lib.hid (K3.out.only ho4 (fun e => e)); have r4 := K4.out.cell 0; have r5 := K4.out.cell 1; have f4 := K4.out.frozen 0; have f5 := K4.out.frozen 1) | (have K4 := Lib.hid (new_rat ho4); have r4 := K4.out.cell 0; have r5 := K4.out.cell 1; have f4 := K4.out.frozen 0; have f5 := K4.out.frozen 1) | skip); clear ho4))
    all_goals
      go_wp2_with fail
      have z1 := HXX.out.size
      have z2 := HO2.out.size
      have z3 := HO3.out.size
      have z4 := HO4.out.size
      go_ret
      first
        | exact ⟨rfl, (HXX.out.trans HO4.out).alloc _⟩
        | exact ⟨rfl, only_set2 (HXX.out.trans HO4.out) (by omega) _ _⟩
set_option maxHeartbeats 400000 in
theorem text_one (n : Int) (h0 : -9223372036854775808 ≤ n) (h1 : n ≤ 9223372036854775807) (w : World) :
    Calls Tryz.prog 58 #[ratV n 1] w (RetStr (Lib.itoa n) w) := by
  obtain ⟨X, eX⟩ : ∃ X, X = w.alloc (.cells #[.int .i64 n, .int .i64 1] 106) := ⟨_, rfl⟩
  obtain ⟨B, eB⟩ : ∃ B, B = w.heap.size := ⟨_, rfl⟩
  have hb := Blk.new w 106 #[.int .i64 n, .int .i64 1]
  rw [← eX, ← eB] at hb
  have HXX : Hid (Only NoneOf w X) := Lib.hid (by rw [eX]; exact (Only.refl _ _).alloc _)
  have HR := Lib.hid (right_one n h0 h1 X)
  have HD := Lib.hid (decimal_any n h0 h1)
  have HB := Lib.hid hb
  have c0 : X.cell? ⟨B, 0, none⟩ = some (.int .i64 n) := hb.cell 0
  have c1 : X.cell? ⟨B, 1, none⟩ = some (.int .i64 1) := hb.cell 1
  rw [eX, eB] at c0 c1
  clear hb h0 h1
  go_enter Tryz.func58, Tryz.ntmps58
  go_wp2_with fail
  rw [← eX, ← eB]
  clear c0 c1 eX eB
  refine HR.out.mono ?_
  rintro e w1 ⟨rfl, ho1⟩
  have c0 : w1.cell? ⟨B, 0, none⟩ = some (.int .i64 n) := (HB.out.only ho1 (fun e => e)).cell 0
  have c1 : w1.cell? ⟨B, 1, none⟩ = some (.int .i64 1) := (HB.out.only ho1 (fun e => e)).cell 1
  have HO1 := Lib.hid (HXX.out.trans ho1)
  clear ho1
  go_wp2_with fail
  refine (HD.out _).mono ?_
  rintro e w2 ⟨t, rfl, ht, ho2⟩
  have HT := Lib.hid ht
  have HO2 := Lib.hid (HO1.out.trans ho2)
  clear ht ho2 c0 c1
  go_wp2_with fail
  go_ret
  exact RetStr.mk HT.out HO2.out
end Go.Proofs.YtclpebgjmgfigaaGreatDoor
