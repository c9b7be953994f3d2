/- What is proved here: several parts. arithmetic on rows of digits to the base 65536, in plain Lean. No function of the program. No conditions. · how the reference of layer 1 compares, subtracts and multiplies rows of any length. Conditions: the rows read as digits of numbers. · how the reference of layer 1 divides rows of any length. Conditions: the rows read as digits of numbers, the divisor is not 0. · the reference of layer 1 finds a common divisor, and takes any ratio to lowest terms, whatever they are. Conditions: the rows read as digits of numbers of 64 bits. · the reference of layer 1 says of any ratio whether it is right, and writes it. Conditions: the numbers have 64 bits. · the reference of layer 1 writes any ratio, whatever its text is. Conditions: the numbers have 64 bits. -/
import Derived.Test.YtclpebgjmgfigaaGreatDoorM9
import Derived.Deep.AppendLies
import Derived.Deep.RegionHeld3
import Derived.Deep.RegionLaw
namespace Go.Proofs.YtclpebgjmgfigaaGreatDoor
open Go.RowKit
/-- The value of a row of digits. -/
def val16 : List Nat → Nat
  | [] => 0
  | d :: l => d + 65536 * val16 l
def Ok16 (D : List Nat) : Prop := ∀ d ∈ D, d < 65536
theorem trimL_cons (d : Nat) (l : List Nat) : trimL (d :: l) = if trimL l = [] then (if d = 0 then [] else [d]) else d :: trimL l := by
  obtain ⟨n, hn⟩ : ∃ n, n = l.length := ⟨_, rfl⟩
  induction n generalizing l with
  | zero =>
    have := List.eq_nil_of_length_eq_zero hn.symm
    subst this
    rw [trimL_nil, if_pos rfl, trimL_one]
  | succ n ih =>
    rcases List.eq_nil_or_concat l with e | ⟨l2, x, e⟩
    · rw [e] at hn; cases hn
    · rw [List.concat_eq_append] at e
      subst e
      have hn2 : n = l2.length := by simpa using hn
      rw [← List.cons_append, trimL_snoc, trimL_snoc]
      by_cases hx : x = 0
      · rw [if_pos hx, if_pos hx, ih l2 hn2]
      · rw [if_neg hx, if_neg hx, if_neg (by simp), List.cons_append]
theorem val16_append (L M : List Nat) : val16 (L ++ M) = val16 L + 65536 ^ L.length * val16 M := by
  induction L with
  | nil => simp [val16]
  | cons d l ih =>
    rw [List.cons_append, val16, val16, ih, List.length_cons, Nat.pow_succ, Nat.mul_add, ← Nat.mul_assoc, Nat.mul_comm 65536 (65536 ^ l.length), Nat.add_assoc]
theorem val16_zero (n : Nat) : val16 (List.replicate n 0) = 0 := by
  induction n with
  | zero => rfl
  | succ n ih => rw [List.replicate_succ, val16, ih]
theorem trimL_val {D : List Nat} (h : Ok16 D) : trimL D = dg16 (val16 D) := by
  induction D with
  | nil => rw [trimL_nil, val16, dg16_zero]
  | cons d l ih =>
    have hl := ih (fun x hx => h x (List.mem_cons_of_mem _ hx))
    have hd := h d (List.mem_cons_self ..)
    rw [trimL_cons, hl, val16]
    by_cases h0 : val16 l = 0
    · rw [h0, dg16_zero, if_pos rfl, Nat.mul_zero, Nat.add_zero]
      by_cases hd0 : d = 0
      · rw [if_pos hd0, hd0, dg16_zero]
      · rw [if_neg hd0, dg16_pos hd0, Nat.mod_eq_of_lt hd, Nat.div_eq_of_lt hd, dg16_zero]
    · rw [if_neg (by rw [dg16_pos h0]; simp), dg16_pos (by omega : d + 65536 * val16 l ≠ 0), show (d + 65536 * val16 l) % 65536 = d by omega, show (d + 65536 * val16 l) / 65536 = val16 l by omega]
theorem dg16_ok (m : Nat) : Ok16 (dg16 m) := dg16_lt m
theorem val_dg16 (m : Nat) : val16 (dg16 m) = m := by
  induction m using Nat.strongRecOn with
  | _ m ih =>
    by_cases h0 : m = 0
    · subst h0; rw [dg16_zero]; rfl
    · rw [dg16_pos h0, val16, ih _ (by omega)]; omega
theorem val_lt {D : List Nat} (h : Ok16 D) : val16 D < 65536 ^ D.length := by
  induction D with
  | nil => simp [val16]
  | cons d l ih =>
    have h1 := ih (fun x hx => h x (List.mem_cons_of_mem _ hx))
    have h2 := h d (List.mem_cons_self ..)
    rw [val16, List.length_cons, Nat.pow_succ]
    omega
theorem dg16_lt_pow (m : Nat) : m < 65536 ^ (dg16 m).length := by
  have h := val_lt (dg16_ok m)
  rwa [val_dg16] at h
theorem dg16_len_le {a b : Nat} (h : a ≤ b) : (dg16 a).length ≤ (dg16 b).length := dg16_len _ _ (Nat.lt_of_le_of_lt h (dg16_lt_pow b))
theorem dg16_len_lt {a b : Nat} (h : (dg16 a).length < (dg16 b).length) : a < b := by
  rcases Nat.lt_or_ge a b with h1 | h1
  · exact h1
  · have := dg16_len_le h1; omega
theorem dg16_get {m i : Nat} (h : i < (dg16 m).length) : (dg16 m)[i]? = some (m / 65536 ^ i % 65536) := by
  apply dg16_at
  intro e
  have h1 := congrArg List.length (dg16_all m i e)
  rw [List.length_take] at h1
  omega
theorem mod_step (m i : Nat) : m % 65536 ^ (i + 1) = m % 65536 ^ i + 65536 ^ i * (m / 65536 ^ i % 65536) := by
  rw [Nat.pow_succ]; exact Nat.mod_mul
theorem mod_all {m i : Nat} (h : (dg16 m).length ≤ i) : m % 65536 ^ i = m := Nat.mod_eq_of_lt (Nat.lt_of_lt_of_le (dg16_lt_pow m) (Nat.pow_le_pow_right (by omega) h))
theorem digit_none {m i : Nat} (h : (dg16 m).length ≤ i) : m / 65536 ^ i % 65536 = 0 := by
  rw [Nat.div_eq_of_lt (Nat.lt_of_lt_of_le (dg16_lt_pow m) (Nat.pow_le_pow_right (by omega) h))]
/-- How two numbers compare. -/
def cmpN (a b : Nat) : Int := if a = b then 0 else if a < b then -1 else 1
/-- Two numbers that are equal above a digit compare as it does. -/
theorem cmpN_digit {a b i : Nat} (h : a / 65536 ^ (i + 1) = b / 65536 ^ (i + 1)) (hne : a / 65536 ^ i % 65536 ≠ b / 65536 ^ i % 65536) : cmpN a b = if a / 65536 ^ i % 65536 < b / 65536 ^ i % 65536 then -1 else 1 := by
  have ha := dg16_step a i
  have hb := dg16_step b i
  rw [← h] at hb
  obtain ⟨x, ex⟩ : ∃ x, x = a / 65536 ^ i % 65536 := ⟨_, rfl⟩
  obtain ⟨y, ey⟩ : ∃ y, y = b / 65536 ^ i % 65536 := ⟨_, rfl⟩
  obtain ⟨z, ez⟩ : ∃ z, z = a / 65536 ^ (i + 1) := ⟨_, rfl⟩
  rw [← ex, ← ey] at hne ⊢
  rw [← ex, ← ez] at ha
  rw [← ey, ← ez] at hb
  have hab : a ≠ b := fun e => by subst e; omega
  unfold cmpN
  rw [if_neg hab]
  by_cases hxy : x < y
  · rw [if_pos hxy, if_pos]
    rcases Nat.lt_or_ge a b with h1 | h1
    · exact h1
    · have := Nat.div_le_div_right (c := 65536 ^ i) h1; omega
  · rw [if_neg hxy, if_neg]
    intro h1
    have := Nat.div_le_div_right (c := 65536 ^ i) (Nat.le_of_lt h1); omega
theorem div_same {a b i : Nat} (h : a / 65536 ^ (i + 1) = b / 65536 ^ (i + 1)) (hd : a / 65536 ^ i % 65536 = b / 65536 ^ i % 65536) : a / 65536 ^ i = b / 65536 ^ i := by
  have ha := dg16_step a i
  have hb := dg16_step b i
  omega
theorem cmpN_len {a b : Nat} (h : (dg16 a).length ≠ (dg16 b).length) : cmpN a b = if (dg16 a).length < (dg16 b).length then -1 else 1 := by
  unfold cmpN
  by_cases hl : (dg16 a).length < (dg16 b).length
  · have := dg16_len_lt hl
    rw [if_pos hl, if_neg (by omega), if_pos this]
  · have := dg16_len_lt (a := b) (b := a) (by omega)
    rw [if_neg hl, if_neg (by omega), if_neg (by omega)]
theorem cmpN_top {a : Nat} : a / 65536 ^ (dg16 a).length = 0 := dg16_end a
theorem cmpN_le {a b : Nat} : cmpN a b ≤ 0 ↔ a ≤ b := by
  unfold cmpN
  by_cases h : a = b
  · rw [if_pos h]; omega
  · rw [if_neg h]
    by_cases h2 : a < b
    · rw [if_pos h2]; omega
    · rw [if_neg h2]; omega
theorem cmpN_lt {a b : Nat} : cmpN a b < 0 ↔ a < b := by
  unfold cmpN
  by_cases h : a = b
  · rw [if_pos h]; omega
  · rw [if_neg h]
    by_cases h2 : a < b
    · rw [if_pos h2]; omega
    · rw [if_neg h2]; omega
/-! ### Subtraction, digit by digit -/
/-- The digits found up to k, and what is borrowed. -/
def MinL (a b k : Nat) (L : List Nat) (bo : Nat) : Prop := L.length = k ∧ Ok16 L ∧ bo ≤ 1 ∧ val16 L + b % 65536 ^ k = a % 65536 ^ k + bo * 65536 ^ k
theorem MinL.zero (a b : Nat) : MinL a b 0 [] 0 := ⟨rfl, (fun _ h => by cases h), by omega, by simp [val16, Nat.mod_one]⟩
theorem Ok16.snoc {L : List Nat} {d : Nat} (h : Ok16 L) (hd : d < 65536) : Ok16 (L ++ [d]) := fun x hx => by
  rcases List.mem_append.1 hx with h1 | h1
  · exact h x h1
  · have := List.mem_singleton.1 h1; omega
theorem MinL.step {a b k : Nat} {L : List Nat} {bo : Nat} (h : MinL a b k L bo) {d : Nat} {b2 : Nat} (hd : d < 65536) (hb : b2 ≤ 1) (he : d + b / 65536 ^ k % 65536 + bo = a / 65536 ^ k % 65536 + b2 * 65536) : MinL a b (k + 1) (L ++ [d]) b2 := by
  obtain ⟨h1, h2, h3, h4⟩ := h
  refine ⟨by rw [List.length_append, h1]; rfl, h2.snoc hd, hb, ?_⟩
  rw [val16_append, h1, mod_step, mod_step, show val16 [d] = d by simp [val16], Nat.pow_succ]
  generalize 65536 ^ k = p at h4 he ⊢
  generalize b / p % 65536 = y at he ⊢
  generalize a / p % 65536 = x at he ⊢
  have e2 : p * d + p * y + p * bo = p * x + p * (b2 * 65536) := by
    rw [← Nat.mul_add, ← Nat.mul_add, he, Nat.mul_add]
  have e3 : b2 * (p * 65536) = p * (b2 * 65536) := by rw [Nat.mul_left_comm]
  have e4 : bo * p = p * bo := Nat.mul_comm _ _
  omega
theorem MinL.done {a b k : Nat} {L : List Nat} {bo : Nat} (h : MinL a b k L bo) (hk : k = (dg16 a).length) (hba : b ≤ a) : trimL L = dg16 (a - b) := by
  obtain ⟨h1, h2, h3, h4⟩ := h
  rw [trimL_val h2]
  congr 1
  have ha := dg16_lt_pow a
  rw [← hk] at ha
  rw [Nat.mod_eq_of_lt ha, Nat.mod_eq_of_lt (Nat.lt_of_le_of_lt hba ha)] at h4
  have hv := val_lt h2
  rw [h1] at hv
  rcases (by omega : bo = 0 ∨ bo = 1) with rfl | rfl
  · omega
  · omega
/-! ### A number times a digit -/
/-- The digits found when k digits have been multiplied. -/
def MulL (a d k : Nat) (L : List Nat) : Prop := L.length = k + 1 ∧ Ok16 L ∧ val16 L = a % 65536 ^ k * d
theorem MulL.zero (a d : Nat) : MulL a d 0 [0] := ⟨rfl, fun x h => by have := List.mem_singleton.1 h; omega, by simp [val16, Nat.mod_one]⟩
theorem MulL.step {a d k : Nat} {L : List Nat} {c : Nat} (h : MulL a d k (L ++ [c])) (hd : d < 65536) {s : Nat} (hs : s = c + a / 65536 ^ k % 65536 * d) : MulL a d (k + 1) (L ++ [s % 65536] ++ [s / 65536]) ∧ s / 65536 < 65536 := by
  obtain ⟨h1, h2, h3⟩ := h
  have hc : c < 65536 := h2 c (by simp)
  have hl : Ok16 L := fun x hx => h2 x (List.mem_append_left _ hx)
  have hx : a / 65536 ^ k % 65536 < 65536 := Nat.mod_lt _ (by omega)
  have hm : a / 65536 ^ k % 65536 * d ≤ 65535 * 65535 := Nat.mul_le_mul (by omega) (by omega)
  have hs2 : s / 65536 < 65536 := by omega
  have hlen : L.length = k := by simpa using h1
  refine ⟨⟨by simp [hlen], (hl.snoc (by omega)).snoc hs2, ?_⟩, hs2⟩
  rw [List.append_assoc, List.singleton_append, val16_append, mod_step, Nat.add_mul, ← h3, val16_append, hlen]
  simp only [val16]
  generalize 65536 ^ k = p at hs ⊢
  generalize a / p % 65536 = x at hs ⊢
  have e1 : s % 65536 + 65536 * (s / 65536 + 65536 * 0) = s := by omega
  rw [e1, hs, Nat.mul_zero, Nat.add_zero, Nat.mul_add, Nat.mul_assoc, Nat.add_assoc]
theorem MulL.done {a d k : Nat} {L : List Nat} (h : MulL a d k L) (hk : k = (dg16 a).length) : trimL L = dg16 (a * d) := by
  rw [trimL_val h.2.1, h.2.2, mod_all (by omega)]
/-! ### Long division -/
/-- The quotient's digits from k on; R is the remainder of what has been taken. -/
def OverL (a b k : Nat) (L : List Nat) (R : Nat) : Prop := Ok16 L ∧ val16 L = a / 65536 ^ k / b ∧ R = a / 65536 ^ k % b
theorem OverL.start (a b : Nat) {k : Nat} (hk : k = (dg16 a).length) : OverL a b k [] 0 := by
  subst hk
  exact ⟨(fun _ h => by cases h), by rw [dg16_end]; simp [val16], by rw [dg16_end]; simp⟩
theorem OverL.next {a b k : Nat} {L : List Nat} {R : Nat} (h : OverL a b (k + 1) L R) (hb : 0 < b) {r : Nat} (hr : r = a / 65536 ^ k % 65536 + 65536 * R) : OverL a b k (r / b :: L) (r % b) ∧ r / b < 65536 := by
  obtain ⟨h1, h2, h3⟩ := h
  have hs := dg16_step a k
  generalize a / 65536 ^ (k + 1) = z at hs h2 h3
  have hR : R < b := by rw [h3]; exact Nat.mod_lt _ hb
  have hx : a / 65536 ^ k % 65536 < 65536 := Nat.mod_lt _ (by omega)
  generalize a / 65536 ^ k % 65536 = x at hs hr hx
  have hz := Nat.div_add_mod z b
  rw [← h3] at hz
  have hrb : r < 65536 * b := by omega
  have hq : r / b < 65536 := (Nat.div_lt_iff_lt_mul hb).2 hrb
  have e1 : a / 65536 ^ k = r + b * (65536 * (z / b)) := by
    rw [hs, hr, ← hz, Nat.mul_left_comm b 65536]
    have : (b * (z / b) + R) / b = z / b := by rw [hz]
    rw [this]
    omega
  refine ⟨⟨fun d hd => ?_, ?_, ?_⟩, hq⟩
  · rcases List.mem_cons.1 hd with rfl | h
    · exact hq
    · exact h1 d h
  · rw [val16, h2, e1, Nat.add_mul_div_left _ _ hb]
  · rw [e1, Nat.add_mul_mod_self_left]
theorem OverL.quot {a b : Nat} {L : List Nat} {R : Nat} (h : OverL a b 0 L R) : trimL L = dg16 (a / b) ∧ R = a % b := by
  refine ⟨?_, ?_⟩
  · rw [trimL_val h.1, h.2.1, Nat.pow_zero, Nat.div_one]
  · rw [h.2.2, Nat.pow_zero, Nat.div_one]
theorem trim_join (x r : Nat) (hx : x < 65536) : trimL (x :: dg16 r) = dg16 (x + 65536 * r) := by
  rw [trimL_val (fun d hd => by rcases List.mem_cons.1 hd with rfl | h; exact hx; exact dg16_lt r d h), val16, val_dg16]
theorem sub_div (r b : Nat) : r - b * (r / b) = r % b := by
  have := Nat.div_add_mod r b
  omega
theorem dg16_inj {a b : Nat} (h : dg16 a = dg16 b) : a = b := by
  have := congrArg val16 h
  rwa [val_dg16, val_dg16] at this
end Go.Proofs.YtclpebgjmgfigaaGreatDoor
namespace Go.Proofs.YtclpebgjmgfigaaGreatDoor
open Go.RowKit
theorem Rd.at_ {w : World} {v : Value} {m i : Nat} (h : Rd w v (dg16 m)) (hi : i < (dg16 m).length) : ∃ g c, v = .slice (some ⟨g, 0, none⟩) (dg16 m).length c ∧ w.cell? ⟨g, i, none⟩ = some (.int .i64 ((m / 65536 ^ i % 65536 : Nat) : Int)) := by
  obtain ⟨g, c, e, _, _, _, hc⟩ := h.cells (by intro e; rw [e] at hi; simp at hi)
  exact ⟨g, c, e, hc i _ (dg16_get hi)⟩
set_option maxHeartbeats 400000 in
theorem compare_gen {va vb : Value} {a b : Nat} {w : World} (ha : Rd w va (dg16 a)) (hb : Rd w vb (dg16 b)) (hla : (dg16 a).length ≤ 1000) (_hlb : (dg16 b).length ≤ 1000) :
    Calls Tryz.prog 159 #[va, vb] w fun e w' => e = .returned (.int .i64 (cmpN a b)) ∧ ∃ q, w' = w.drewN q := by
  by_cases hlen : (dg16 a).length = (dg16 b).length
  · obtain ⟨r, er⟩ : ∃ r, r = cmpN a b := ⟨_, rfl⟩
    rw [← er]
    have ER := Lib.hid er
    obtain ⟨ga, ca, ea, hca, hcam⟩ := ha.form
    obtain ⟨gb, cb, eb, hcb, hcbm⟩ := hb.form
    have HA := Lib.hid ha
    have HB := Lib.hid hb
    obtain ⟨L, eL⟩ : ∃ L, L = (dg16 a).length := ⟨_, rfl⟩
    rw [← hlen] at eb hcb
    rw [← eL] at ea eb hca hcb hla
    subst ea eb
    have EL := Lib.hid eL
    have EL2 := Lib.hid hlen
    clear er ha hb eL hlen _hlb
    go_enter Tryz.func159, Tryz.ntmps159
    go_wp2_with fail
    go_loopw [5] (fun v wr => (∃ q, wr = w.drewN q) ∧ ∃ i : Nat, v = .int .i64 ((i : Int) - 1) ∧ i ≤ L ∧ Hid (a / 65536 ^ i = b / 65536 ^ i)) (fun v _ => (intOf v + 1).toNat)
    case atStart => exact ⟨⟨0, rfl⟩, L, rfl, Nat.le_refl _, Lib.hid (by rw [EL.out, dg16_end, EL2.out, dg16_end])⟩
    case round =>
      obtain ⟨⟨q, rfl⟩, i, rfl, hi, HI⟩ := hrel
      rcases Nat.eq_zero_or_pos i with h0 | h0
      · subst h0
        go_wp2_with fail
        go_ret
        exact ⟨ret_int (by rw [ER.out]; have h := HI.out; rw [Nat.pow_zero, Nat.div_one, Nat.div_one] at h; unfold cmpN; rw [if_pos h]), q, rfl⟩
      · obtain ⟨j, rfl⟩ : ∃ j, i = j + 1 := ⟨i - 1, by omega⟩
        obtain ⟨Ga, _, e1, hc1⟩ := HA.out.at_ (i := j) (by rw [← EL.out]; omega)
        obtain ⟨Gb, _, e2, hc2⟩ := HB.out.at_ (i := j) (by rw [← EL2.out, ← EL.out]; omega)
        simp only [Value.slice.injEq] at e1 e2
        obtain ⟨rfl, -, rfl⟩ := e1
        obtain ⟨rfl, -, rfl⟩ := e2
        obtain ⟨x, ex⟩ : ∃ x, x = a / 65536 ^ j % 65536 := ⟨_, rfl⟩
        obtain ⟨y, ey⟩ : ∃ y, y = b / 65536 ^ j % 65536 := ⟨_, rfl⟩
        rw [← ex] at hc1
        rw [← ey] at hc2
        have EX := Lib.hid ex
        have EY := Lib.hid ey
        rw [show ((j + 1 : Nat) : Int) - 1 = (j : Int) by omega]
        have j0 : (0 : Int) ≤ (j : Int) := by omega
        have jl : (j : Int) < (L : Int) := by omega
        clear ex ey
        by_cases hxy : x = y
        · have hd := div_same HI.out (by rw [← EX.out, ← EY.out]; exact hxy)
          have HD := Lib.hid hd
          subst hxy
          clear hd
          go_wp2_with fail
          go_region
          go_wp2_with fail
          go_roundw
          case rel => exact ⟨⟨q + 1, rfl⟩, j, rfl, by omega, HD⟩
          case measure => simp [intOf]
        · have hne : ((x : Int) == (y : Int)) = false := by simp; omega
          have hne2 : ¬ (x : Int) = (y : Int) := by omega
          have hcm := cmpN_digit HI.out (by rw [← EX.out, ← EY.out]; exact hxy)
          rw [← EX.out, ← EY.out, ← ER.out] at hcm
          have HCM := Lib.hid hcm
          clear hcm
          by_cases hlt : x < y
          · have hlt2 : (x : Int) < (y : Int) := by omega
            go_wp2_with fail
            go_region
            go_wp2_with fail
            go_region
            go_wp2_with fail
            go_ret
            exact ⟨ret_int (by rw [HCM.out, if_pos hlt]), q + 2, rfl⟩
          · have hlt2 : ¬ (x : Int) < (y : Int) := by omega
            go_wp2_with fail
            go_region
            go_wp2_with fail
            go_region
            go_wp2_with fail
            go_ret
            exact ⟨ret_int (by rw [HCM.out, if_neg hlt]), q + 2, rfl⟩
  · exact (compare_len ha hb hlen).mono fun _ _ ⟨he, hq⟩ => ⟨by rw [he, cmpN_len hlen], hq⟩
structure RgMin (w : World) (a b L : Nat) (u c v : Value) (k bo : Nat) (D : List Nat) (W : World) : Prop where
  le : k ≤ L
  at_ : v = .int .i64 (k : Int)
  bo_ : c = .int .i64 (bo : Int)
  val : MinL a b k D bo
  own : W.ownsRow w.heap.size 3 1 u k (D.map dv)
  only : Only NoneOf w W
set_option maxRecDepth 100000 in
set_option maxHeartbeats 1000000 in
theorem minus_gen {va vb : Value} {a b : Nat} {w : World} (ha : Rd w va (dg16 a)) (hb : Rd w vb (dg16 b)) (hba : b ≤ a) (hla : (dg16 a).length ≤ 1000) :
    Calls Tryz.prog 161 #[va, vb] w (RetRd (dg16 (a - b)) w) := by
  have HA := Lib.hid ha
  have HB := Lib.hid hb
  obtain ⟨i0, hi0, hz0, hz1, hz2⟩ := info_parts info_i64
  have hlb : (dg16 b).length ≤ (dg16 a).length := dg16_len_le hba
  obtain ⟨ga, ca, ea, hca, hcam⟩ := ha.form
  obtain ⟨gb, cb, eb, hcb, hcbm⟩ := hb.form
  obtain ⟨L, eL⟩ : ∃ L, L = (dg16 a).length := ⟨_, rfl⟩
  obtain ⟨M, eM⟩ : ∃ M, M = (dg16 b).length := ⟨_, rfl⟩
  rw [← eL] at ea hca hla hlb
  rw [← eM] at eb hcb hlb
  subst ea eb
  have EL := Lib.hid eL
  have EM := Lib.hid eM
  have HBA := Lib.hid hba
  clear ha hb hba eL eM
  go_enter Tryz.func161, Tryz.ntmps161
  go_wp2_with fail
  go_loopw [5, 6, 7] (fun u c v wr => ∃ (k bo : Nat) (D : List Nat), RgMin w a b L u c v k bo D wr) (fun _ _ v _ => L - (intOf v).toNat)
  case atStart => exact ⟨0, 0, [], Nat.zero_le _, rfl, rfl, MinL.zero a b, World.ownsRow_nil _ _ _ _, Only.refl _ _⟩
  case round =>
    obtain ⟨k, bo, D, hk, rfl, rfl, hval, hown, ho⟩ := hrel
    have HI := Lib.hid hval
    clear hval
    have HOWN := Lib.hid hown
    have HO := Lib.hid ho
    have hbo : bo ≤ 1 := HI.out.2.2.1
    by_cases hlt : k < L
    · obtain ⟨Ga, _, e1, hc1⟩ := (HA.out.only ho).at_ (i := k) (by rw [← EL.out]; exact hlt)
      simp only [Value.slice.injEq] at e1
      obtain ⟨rfl, -, rfl⟩ := e1
      obtain ⟨x, ex⟩ : ∃ x, x = a / 65536 ^ k % 65536 := ⟨_, rfl⟩
      obtain ⟨y, ey⟩ : ∃ y, y = b / 65536 ^ k % 65536 := ⟨_, rfl⟩
      rw [← ex] at hc1
      have hx : x < 65536 := by rw [ex]; exact Nat.mod_lt _ (by omega)
      have hy : y < 65536 := by rw [ey]; exact Nat.mod_lt _ (by omega)
      have hyz : ¬ k < M → y = 0 := fun h => by rw [ey]; exact digit_none (by rw [← EM.out]; omega)
      have hcb2 : k < M → ∃ g, gb = some ⟨g, 0, none⟩ ∧ wr.cell? ⟨g, k, none⟩ = some (.int .i64 (y : Int)) := fun h => by
        obtain ⟨Gb, _, e2, hc2⟩ := (HB.out.only HO.out).at_ (i := k) (by rw [← EM.out]; exact h)
        simp only [Value.slice.injEq] at e2
        rw [← ey] at hc2
        exact ⟨Gb, e2.1, hc2⟩
      have hstep : ∀ (d b2 : Nat), d < 65536 → b2 ≤ 1 → d + y + bo = x + b2 * 65536 → MinL a b (k + 1) (D ++ [d]) b2 := fun d b2 h1 h2 h3 => HI.out.step h1 h2 (by rw [← ex, ← ey]; exact h3)
      have HST := Lib.hid hstep
      have hsz := ho.size
      have k0 : (0 : Int) ≤ (k : Int) := by omega
      have kl : (k : Int) < (L : Int) := by omega
      have wk : IntKind.i64.wrap ((k : Int) + 1) = (k : Int) + 1 := IntWalk.i64_in _ (by omega)
      obtain ⟨d1, ed1⟩ : ∃ d1 : Int, d1 = (x : Int) - (bo : Int) := ⟨_, rfl⟩
      have w1 : IntKind.i64.wrap ((x : Int) - (bo : Int)) = d1 := by rw [ed1]; exact IntWalk.i64_in _ (by omega)
      obtain ⟨d2, ed2⟩ : ∃ d2 : Int, d2 = d1 - (y : Int) := ⟨_, rfl⟩
      have w2 : IntKind.i64.wrap (d1 - (y : Int)) = d2 := by rw [ed2]; exact IntWalk.i64_in _ (by omega)
      have ED1 := Lib.hid ed1
      have ED2 := Lib.hid ed2
      have HX := Lib.hid hx
      have HY := Lib.hid hy
      have HBO := Lib.hid hbo
      have HSZ := Lib.hid hsz
      by_cases hkm : k < M
      · obtain ⟨Gb, rfl, hc2⟩ := hcb2 hkm
        have km : (k : Int) < (M : Int) := by omega
        clear hcb2 hyz hstep hown ho ed1 ed2 ex ey hx hy hbo
        by_cases hneg : d2 < 0
        · obtain ⟨d, ed⟩ : ∃ d : Nat, (d : Int) = d2 + 65536 := ⟨(d2 + 65536).toNat, by have := ED2.out; have := ED1.out; have := HX.out; have := HY.out; have := HBO.out; omega⟩
          have w3 : IntKind.i64.wrap (d2 + 65536) = (d : Int) := by rw [ed]; exact IntWalk.i64_in _ (by have := ED2.out; have := ED1.out; have := HX.out; have := HY.out; have := HBO.out; omega)
          have HN := Lib.hid (HST.out d 1 (by have := ED2.out; have := ED1.out; omega) (by omega) (by have := ED2.out; have := ED1.out; omega))
          clear ed
          go_wp2_with (at_builtin; refine wpList_append_own _ rfl _ _ 69 rfl w.heap.size 3 i0 _ 1 8 Tryz.underlying69 hi0 hz0 hz1 hz2 rfl (by decide) u5 k _ rfl (by exact (HOWN.out.alloc _)) ⟨wr.heap.size, 0, none⟩ 1 1 [.int .i64 (d : Int)] rfl rfl (World.news_of_block (cs := #[.int .i64 (d : Int)]) (t := 3) (fr := (0, 0)) (by simpa using heap_alloc_new wr _)) (by simp [Value.oneCell']) (by rw [maxLen_val]; omega) (by omega) (by have := HSZ.out; simp; omega) ?_; intro v' w1 hown1 hgrow _)
          go_roundw
          case rel => exact ⟨k + 1, 1, _, by omega, rfl, rfl, HN.out, by rw [List.map_append]; exact hown1, ((HO.out.alloc _).grown hgrow (fun j hj => .inr ((HOWN.out.lt j hj).1)))⟩
          case measure => simp [intOf]; omega
        · obtain ⟨d, ed⟩ : ∃ d : Nat, (d : Int) = d2 := ⟨d2.toNat, by omega⟩
          have HN := Lib.hid (HST.out d 0 (by have := ED2.out; have := ED1.out; have := HX.out; omega) (by omega) (by have := ED2.out; have := ED1.out; omega))
          rw [← ed] at w2 hneg
          clear ed
          go_wp2_with (at_builtin; refine wpList_append_own _ rfl _ _ 69 rfl w.heap.size 3 i0 _ 1 8 Tryz.underlying69 hi0 hz0 hz1 hz2 rfl (by decide) u5 k _ rfl (by exact (HOWN.out.alloc _)) ⟨wr.heap.size, 0, none⟩ 1 1 [.int .i64 (d : Int)] rfl rfl (World.news_of_block (cs := #[.int .i64 (d : Int)]) (t := 3) (fr := (0, 0)) (by simpa using heap_alloc_new wr _)) (by simp [Value.oneCell']) (by rw [maxLen_val]; omega) (by omega) (by have := HSZ.out; simp; omega) ?_; intro v' w1 hown1 hgrow _)
          go_roundw
          case rel => exact ⟨k + 1, 0, _, by omega, rfl, rfl, HN.out, by rw [List.map_append]; exact hown1, ((HO.out.alloc _).grown hgrow (fun j hj => .inr ((HOWN.out.lt j hj).1)))⟩
          case measure => simp [intOf]; omega
      · have hy0 := hyz hkm
        have HY0 := Lib.hid hy0
        have km : ¬ (k : Int) < (M : Int) := by omega
        clear hcb2 hyz hstep hown ho ed1 ed2 ex ey hx hy hbo hy0 w2
        by_cases hneg : d1 < 0
        · obtain ⟨d, ed⟩ : ∃ d : Nat, (d : Int) = d1 + 65536 := ⟨(d1 + 65536).toNat, by have := ED1.out; have := HX.out; have := HBO.out; omega⟩
          have w3 : IntKind.i64.wrap (d1 + 65536) = (d : Int) := by rw [ed]; exact IntWalk.i64_in _ (by have := ED1.out; have := HX.out; have := HBO.out; omega)
          have HN := Lib.hid (HST.out d 1 (by have := ED1.out; omega) (by omega) (by have := ED1.out; have := HY0.out; omega))
          clear ed
          go_wp2_with (at_builtin; refine wpList_append_own _ rfl _ _ 69 rfl w.heap.size 3 i0 _ 1 8 Tryz.underlying69 hi0 hz0 hz1 hz2 rfl (by decide) u5 k _ rfl (by exact (HOWN.out.alloc _)) ⟨wr.heap.size, 0, none⟩ 1 1 [.int .i64 (d : Int)] rfl rfl (World.news_of_block (cs := #[.int .i64 (d : Int)]) (t := 3) (fr := (0, 0)) (by simpa using heap_alloc_new wr _)) (by simp [Value.oneCell']) (by rw [maxLen_val]; omega) (by omega) (by have := HSZ.out; simp; omega) ?_; intro v' w1 hown1 hgrow _)
          go_roundw
          case rel => exact ⟨k + 1, 1, _, by omega, rfl, rfl, HN.out, by rw [List.map_append]; exact hown1, ((HO.out.alloc _).grown hgrow (fun j hj => .inr ((HOWN.out.lt j hj).1)))⟩
          case measure => simp [intOf]; omega
        · obtain ⟨d, ed⟩ : ∃ d : Nat, (d : Int) = d1 := ⟨d1.toNat, by omega⟩
          have HN := Lib.hid (HST.out d 0 (by have := ED1.out; have := HX.out; omega) (by omega) (by have := ED1.out; have := HY0.out; omega))
          rw [← ed] at w1 hneg
          clear ed
          go_wp2_with (at_builtin; refine wpList_append_own _ rfl _ _ 69 rfl w.heap.size 3 i0 _ 1 8 Tryz.underlying69 hi0 hz0 hz1 hz2 rfl (by decide) u5 k _ rfl (by exact (HOWN.out.alloc _)) ⟨wr.heap.size, 0, none⟩ 1 1 [.int .i64 (d : Int)] rfl rfl (World.news_of_block (cs := #[.int .i64 (d : Int)]) (t := 3) (fr := (0, 0)) (by simpa using heap_alloc_new wr _)) (by simp [Value.oneCell']) (by rw [maxLen_val]; omega) (by omega) (by have := HSZ.out; simp; omega) ?_; intro v' w1 hown1 hgrow _)
          go_roundw
          case rel => exact ⟨k + 1, 0, _, by omega, rfl, rfl, HN.out, by rw [List.map_append]; exact hown1, ((HO.out.alloc _).grown hgrow (fun j hj => .inr ((HOWN.out.lt j hj).1)))⟩
          case measure => simp [intOf]; omega
    · obtain rfl : k = L := by omega
      have hr : Rd wr u5 D := Rd.of_own hown
      have HR := Lib.hid hr
      have hfin := HI.out.done EL.out HBA.out
      have HF := Lib.hid hfin
      clear hr hown ho hfin
      go_wp2_with fail
      refine (trim_any HR.out).mono ?_
      rintro e w' ⟨v', rfl, hv, hw⟩
      rw [hw]
      rw [HF.out] at hv
      have HV := Lib.hid hv
      clear hv hw
      go_wp2_with fail
      go_ret
      exact ⟨v', rfl, HV.out, HO.out⟩
theorem rep_succ {n k : Nat} (h : k < n) : List.replicate (n - k) (0 : Nat) = 0 :: List.replicate (n - (k + 1)) 0 := by
  rw [show n - k = (n - (k + 1)) + 1 by omega, List.replicate_succ]
theorem set_two {D : List Nat} {c x y : Nat} {R : List Nat} {k : Nat} (hk : D.length = k) : ((((D ++ [c]) ++ 0 :: R).map dv).toArray.setIfInBounds k (dv x)).setIfInBounds (k + 1) (dv y) = ((((D ++ [x]) ++ [y]) ++ R).map dv).toArray := by
  subst hk
  rw [List.setIfInBounds_toArray, List.setIfInBounds_toArray, ← List.map_set, ← List.map_set]
  congr 2
  simp
structure RgMul (w : World) (a d L O : Nat) (v : Value) (i : Nat) (D : List Nat) (W : World) : Prop where
  le : i ≤ L
  at_ : v = .int .i64 (i : Int)
  val : MulL a d i D
  blk : Blk W O 3 ((D ++ List.replicate (L - i) 0).map dv).toArray
  only : Only NoneOf w W
def RgTim (w : World) (O : Nat) (cs : Array Value) (i s : Nat) (v7 v : Value) (W : World) : Prop := (v7 = .int .i64 0 ∧ v = .int .i64 0 ∧ Blk W O 3 cs ∨ v7 = .int .i64 ((s / 65536 : Nat) : Int) ∧ v = .int .i64 1 ∧ Blk W O 3 (cs.setIfInBounds i (dv (s % 65536)))) ∧ Only NoneOf w W
set_option maxRecDepth 100000 in
set_option maxHeartbeats 1000000 in
theorem times_gen {va vb : Value} {a d : Nat} {w : World} (ha : Rd w va (dg16 a)) (hb : Rd w vb [d]) (hd : d < 65536) (hla : (dg16 a).length ≤ 1000) :
    Calls Tryz.prog 168 #[va, vb] w (RetRd (dg16 (a * d)) w) := by
  obtain ⟨ga, ca, ea, hca, hcam⟩ := ha.form
  obtain ⟨b, cb, rfl, hb1, hb2, hbl, hbc⟩ := hb.cells (by simp)
  have cb0 := hbc 0 d rfl
  simp only [List.length_singleton] at hb1
  obtain ⟨L, eL⟩ : ∃ L, L = (dg16 a).length := ⟨_, rfl⟩
  rw [← eL] at ea hca hla
  subst ea
  obtain ⟨N, eN⟩ : ∃ N, N = L + 1 := ⟨_, rfl⟩
  have wN : IntKind.i64.wrap ((L : Int) + 1) = (N : Int) := by rw [eN]; exact IntWalk.i64_in _ (by omega)
  have hmk := run_make_row' (P := Tryz.prog) 69 3 (.int .i64 0) 8 Tryz.underlying69 info_i64 rfl .i64 .i64 N (by omega) (by omega) w
  rw [madeInts] at hmk
  have HA := Lib.hid ha
  have CB := Lib.hid cb0
  have EL := Lib.hid eL
  have EN := Lib.hid eN
  have HD := Lib.hid hd
  have hbl' : (b : Nat) < w.heap.size := hbl
  clear ha hb hbc cb0 eL eN hd
  go_enter Tryz.func168, Tryz.ntmps168
  go_wp2_with fail
  clear hmk wN
  obtain ⟨O, eO⟩ : ∃ O, O = w.heap.size := ⟨_, rfl⟩
  rw [← eO]
  have EO := Lib.hid eO
  clear eO
  go_loopw [6] (fun v wr => ∃ (i : Nat) (D : List Nat), RgMul w a d L O v i D wr) (fun v _ => L + 1 - (intOf v).toNat)
  case atStart => exact ⟨0, [0], Nat.zero_le _, rfl, MulL.zero a d, by rw [EO.out, EN.out, Nat.sub_zero, List.singleton_append, ← List.replicate_succ]; exact (by simpa using Blk.new w 3 (Array.replicate (L + 1) (dv 0))), (Only.refl _ _).alloc _⟩
  case round =>
    obtain ⟨i, D, hi, rfl, hmul, hB, hO⟩ := hrel
    have HM := Lib.hid hmul
    clear hmul
    have HB := Lib.hid hB
    have HO := Lib.hid hO
    clear hB hO
    by_cases hlt : i < L
    · obtain ⟨D', c, rfl⟩ : ∃ D' c, D = D' ++ [c] := by
        rcases List.eq_nil_or_concat D with e | ⟨l, x, e⟩
        · have := HM.out.1; rw [e] at this; simp at this
        · exact ⟨l, x, by rw [e, List.concat_eq_append]⟩
      have hDl : D'.length = i := by have := HM.out.1; simpa using this
      obtain ⟨Ga, _, e1, hc1⟩ := (HA.out.only HO.out).at_ (i := i) (by rw [← EL.out]; exact hlt)
      simp only [Value.slice.injEq] at e1
      obtain ⟨rfl, -, rfl⟩ := e1
      obtain ⟨x, ex⟩ : ∃ x, x = a / 65536 ^ i % 65536 := ⟨_, rfl⟩
      obtain ⟨s, es⟩ : ∃ s, s = c + a / 65536 ^ i % 65536 * d := ⟨_, rfl⟩
      have hst := HM.out.step HD.out es
      rw [← ex] at hc1 es
      have hx : x < 65536 := by rw [ex]; exact Nat.mod_lt _ (by omega)
      have hcc : c < 65536 := HM.out.2.1 c (by simp)
      obtain ⟨p, ep⟩ : ∃ p, p = x * d := ⟨_, rfl⟩
      have hp : p ≤ 65535 * 65535 := by rw [ep]; exact Nat.mul_le_mul (by omega) (by have := HD.out; omega)
      have wp : IntKind.i64.wrap ((x : Int) * (d : Int)) = (p : Int) := by rw [ep, Int.natCast_mul]; refine IntWalk.i64_in _ ?_; rw [← Int.natCast_mul, ← ep]; omega
      rw [← ep] at es
      have ws : IntKind.i64.wrap ((c : Int) + (p : Int)) = (s : Int) := by rw [es]; exact IntWalk.i64_in _ (by omega)
      have ws2 : IntKind.i64.wrap (s : Int) = (s : Int) := IntWalk.i64_in _ (by omega)
      have s0 : (0 : Int) ≤ (s : Int) := by omega
      have ss : (s : Int) < 4295032832 := by omega
      have hset := set_two (c := c) (x := s % 65536) (y := s / 65536) (R := List.replicate (L - (i + 1)) 0) hDl
      have hb0 := HB.out
      rw [rep_succ hlt] at hb0
      have HB0 := Lib.hid hb0
      have HSET := Lib.hid hset
      have HST := Lib.hid hst
      have HDL := Lib.hid hDl
      have hij : (i : Int) < (L : Int) := by omega
      have hi0 : (0 : Int) ≤ (i : Int) := by omega
      have hiN : (i : Int) < (N : Int) := by have := EN.out; omega
      have hiN2 : (i : Int) + 1 < (N : Int) := by have := EN.out; omega
      have wi : IntKind.i64.wrap ((i : Int) + 1) = (i : Int) + 1 := IntWalk.i64_in _ (by omega)
      have hN : N ≤ 1001 := by have := EN.out; omega
      have co : wr.cell? ⟨O, i, none⟩ = some (.int .i64 (c : Int)) := by
        rw [hb0.cell, List.getElem?_toArray, List.getElem?_map, List.getElem?_append_left (by simp [hDl]), List.getElem?_append_right (by omega), hDl, Nat.sub_self]
        rfl
      have co1 : wr.cell? ⟨O, i + 1, none⟩ = some (.int .i64 0) := by
        rw [hb0.cell, List.getElem?_toArray, List.getElem?_map, List.getElem?_append_right (by simp [hDl])]
        simp [hDl, dv]
      have fo := hb0.frozen i
      have CO := Lib.hid co
      have CO1 := Lib.hid co1
      have EX := Lib.hid ex
      clear hst hset hDl hb0 ex es ep hx hcc hp co co1 hc1 fo
      go_wp2_with fail
      go_loopw [7, 8] (fun v7 v W => RgTim w O (((D' ++ [c]) ++ 0 :: List.replicate (L - (i + 1)) 0).map dv).toArray i s v7 v W) (fun _ v _ => 2 - (intOf v).toNat)
      case atStart => exact ⟨.inl ⟨rfl, rfl, HB0.out⟩, HO.out⟩
      case round =>
        obtain ⟨⟨rfl, rfl, hB2⟩ | ⟨rfl, rfl, hB2⟩, hO2⟩ := hrel
        · have HB2 := Lib.hid hB2
          have HO2 := Lib.hid hO2
          have c1 : wr.cell? ⟨O, i, none⟩ = some (.int .i64 (c : Int)) := by
            rw [hB2.cell, ← HB0.out.cell]; exact CO.out
          have f1 := hB2.frozen i
          have c2 := hO2.cell_some CB.out (fun e => e)
          obtain ⟨Ga2, _, e2, c3⟩ := (HA.out.only hO2).at_ (i := i) (by rw [← EL.out]; exact hlt)
          simp only [Value.slice.injEq] at e2
          obtain ⟨e2, -⟩ := e2
          simp only [Option.some.injEq, Addr.mk.injEq, and_true] at e2
          subst e2
          rw [← EX.out] at c3
          clear hB2 hO2
          go_wp2_with fail
          go_region
          go_wp2_with fail
          go_roundw
          case rel => exact ⟨.inr ⟨by rw [Int.natCast_ediv]; rfl, rfl, by
            have h := (HB2.out.set_ i (dv (s % 65536))).drew
            exact h⟩, (HO2.out.setCell (.inr (by rw [EO.out]; exact Nat.le_refl _)) _).drew⟩
          case measure => simp [intOf]
        · have HB2 := Lib.hid hB2
          have HO2 := Lib.hid hO2
          have c1 : wr.cell? ⟨O, i + 1, none⟩ = some (.int .i64 0) := by
            rw [hB2.cell, Array.getElem?_setIfInBounds_ne (by omega), ← HB0.out.cell]; exact CO1.out
          have f1 := hB2.frozen (i + 1)
          clear hB2 hO2
          go_wp2_with fail
          go_roundw
          case rel =>
            refine ⟨i + 1, _, by omega, rfl, HST.out.1, ?_, HO2.out.setCell (.inr (by rw [EO.out]; exact Nat.le_refl _)) _⟩
            have h := HB2.out.set_ (i + 1) (dv (s / 65536))
            rw [HSET.out] at h
            exact h
          case measure => simp [intOf]; omega
    · obtain rfl : i = L := by omega
      have hr := Rd.of_blk (D := D) HB.out (c := N) (by have := HM.out.1; have := EN.out; omega) (by have := EN.out; unfold maxLen; omega) (fun j d hd => by simp [hd])
      have hl : D.length = N := by have := HM.out.1; have := EN.out; omega
      rw [hl] at hr
      have HR := Lib.hid hr
      have hf := HM.out.done EL.out
      have HF := Lib.hid hf
      clear hr hl hf
      go_wp2_with fail
      refine (trim_any HR.out).mono ?_
      rintro e w' ⟨v', rfl, hv, hw⟩
      rw [hw]
      rw [HF.out] at hv
      have HV := Lib.hid hv
      clear hv hw
      go_wp2_with fail
      go_ret
      exact ⟨v', rfl, HV.out, HO.out⟩
theorem by_gen {va : Value} {a d : Nat} {w : World} (ha : Rd w va (dg16 a)) (hd : d < 65536) (hla : (dg16 a).length ≤ 1000) :
    Calls Tryz.prog 160 #[va, .int .i64 (d : Int)] w (RetRd (dg16 (a * d)) w) := by
  have HA := Lib.hid (ha.only ((Only.refl NoneOf w).alloc (.cells #[dv d] 3)))
  have HB := Lib.hid (Rd.of_blk (D := [d]) (Blk.new w 3 #[dv d]) (c := 1) (by simp) (by unfold maxLen; omega) (fun j x hx => by
        match j, hx with
        | 0, hx => cases hx; rfl))
  obtain ⟨ga, c, rfl, ha1, ha2⟩ := ha.form
  clear ha
  go_enter Tryz.func160, Tryz.ntmps160
  go_wp2_with fail
  refine (times_gen HA.out HB.out hd hla).mono ?_
  rintro e w' ⟨v', rfl, hv, ho⟩
  have HV := Lib.hid hv
  have HO := Lib.hid ho
  clear hv ho
  go_wp2_with fail
  go_ret
  exact ⟨v', rfl, HV.out, ((Only.refl NoneOf w).alloc _).trans HO.out⟩
end Go.Proofs.YtclpebgjmgfigaaGreatDoor
namespace Go.Proofs.YtclpebgjmgfigaaGreatDoor
open Go.RowKit
/-- The quotient's block when the digits from k on have been found. -/
def qCells (k : Nat) (D : List Nat) : Array Value := ((List.replicate k 0 ++ D).map dv).toArray
theorem qCells_set (k : Nat) (D : List Nat) (d : Nat) : (qCells (k + 1) D).setIfInBounds k (dv d) = qCells k (d :: D) := by
  unfold qCells
  rw [List.setIfInBounds_toArray, ← List.map_set]
  congr 2
  rw [List.replicate_succ', List.append_assoc, List.singleton_append, List.set_append_right _ _ (by simp), List.length_replicate, Nat.sub_self, List.set_cons_zero]
theorem qCells_at (k : Nat) (D : List Nat) : (qCells (k + 1) D)[k]? = some (dv 0) := by
  unfold qCells
  rw [List.getElem?_toArray, List.getElem?_map, List.getElem?_append_left (by simp), List.getElem?_replicate, if_pos (by omega)]
  rfl
structure RgOv (w : World) (a b Q len k : Nat) (r : Value) (D : List Nat) (R : Nat) (W : World) : Prop where
  rem : Rd W r (dg16 R)
  blk : Blk W Q 3 (qCells k D)
  only : Only NoneOf w W
  val : OverL a b k D R
  len : D.length + k = len
structure RgBis (w : World) (q low high : Nat) (W : World) : Prop where
  lo : low ≤ q
  hi : q < high
  top : high ≤ 65536
  only : Only NoneOf w W
theorem len_bm {b m : Nat} (hm : m < 65536) {n : Nat} (hn : (dg16 b).length ≤ n) : (dg16 (b * m)).length ≤ n + 1 := by
  refine dg16_len _ _ ?_
  have h := dg16_lt_pow b
  have h2 : b * m ≤ b * 65536 := Nat.mul_le_mul_left _ (by omega)
  have h3 : 65536 ^ (dg16 b).length ≤ 65536 ^ n := Nat.pow_le_pow_right (by omega) hn
  rw [Nat.pow_succ]
  omega
theorem len_b6 {b n : Nat} (hn : (dg16 b).length ≤ n) : (dg16 (b * 65536)).length ≤ n + 1 := by
  refine dg16_len _ _ ?_
  have h := dg16_lt_pow b
  have h3 : 65536 ^ (dg16 b).length ≤ 65536 ^ n := Nat.pow_le_pow_right (by omega) hn
  rw [Nat.pow_succ]
  omega
theorem own_lit (w : World) (base : Nat) (hb : base ≤ w.heap.size) (d : Nat) : (w.alloc (.cells #[.int .i64 (d : Int)] 3)).ownsRow base 3 1 (.slice (some ⟨w.heap.size, 0, none⟩) 1 1) 1 [dv d] :=
  ⟨rfl, .inr ⟨w.heap.size, 1, #[dv d], rfl, hb, by simpa [dv] using heap_alloc_new w (.cells #[.int .i64 (d : Int)] 3), Nat.le_refl _, by rw [maxLen_val]; omega, rfl, rfl⟩⟩
set_option maxRecDepth 100000 in
set_option maxHeartbeats 2000000 in
theorem over_gen {va vb : Value} {a b : Nat} {w : World} (ha : Rd w va (dg16 a)) (hb : Rd w vb (dg16 b)) (hb0 : 0 < b) (hla : (dg16 a).length ≤ 500) (hlb : (dg16 b).length ≤ 500) :
    Calls Tryz.prog 142 #[va, vb] w fun e w' => ∃ q r, e = .returned (.tuple #[q, r]) ∧ Rd w' q (dg16 (a / b)) ∧ Rd w' r (dg16 (a % b)) ∧ Only NoneOf w w' := by
  have HA := Lib.hid ha
  have HB := Lib.hid hb
  obtain ⟨i0, hi0, hz0, hz1, hz2⟩ := info_parts info_i64
  obtain ⟨ga, ca, ea, hca, hcam⟩ := ha.form
  obtain ⟨gb, cb, eb, hcb, hcbm⟩ := hb.form
  obtain ⟨L, eL⟩ : ∃ L, L = (dg16 a).length := ⟨_, rfl⟩
  obtain ⟨M, eM⟩ : ∃ M, M = (dg16 b).length := ⟨_, rfl⟩
  rw [← eL] at ea hca hla
  rw [← eM] at eb hcb hlb
  have hmk := run_make_row' (P := Tryz.prog) 69 3 (.int .i64 0) 8 Tryz.underlying69 info_i64 rfl .i64 .i64 L (by omega) (by omega) w
  rw [madeInts, show ((List.replicate L (0 : Nat)).map dv).toArray = qCells L [] by unfold qCells; rw [List.append_nil]] at hmk
  have EL := Lib.hid eL
  have EM := Lib.hid eM
  have HB0 := Lib.hid hb0
  have HLB := Lib.hid hlb
  subst ea eb
  clear ha hb eL eM hb0
  go_enter Tryz.func142, Tryz.ntmps142
  go_wp2_with fail
  obtain ⟨Q, eQ⟩ : ∃ Q, Q = w.heap.size := ⟨_, rfl⟩
  have H0 : Hid (RgOv w a b Q L L (.slice none 0 0) [] 0 (w.alloc (.cells (qCells L []) 3))) :=
    Lib.hid ⟨by rw [dg16_zero]; exact Rd.nil _, by rw [eQ]; exact Blk.new w _ _, (Only.refl NoneOf w).alloc _, OverL.start a b EL.out, by simp⟩
  rw [← eQ]
  have EQ := Lib.hid eQ
  clear hmk eQ
  go_loopw [7, 8] (fun r v wr => ∃ (k : Nat) (D : List Nat) (R : Nat), k ≤ L ∧ v = .int .i64 ((k : Int) - 1) ∧ RgOv w a b Q L k r D R wr) (fun _ v _ => (intOf v + 1).toNat)
  case atStart => exact ⟨L, [], 0, Nat.le_refl _, rfl, H0.out⟩
  case round =>
    obtain ⟨k, D, R, hk, rfl, hI⟩ := hrel
    have HI := Lib.hid hI
    clear hI
    rcases Nat.eq_zero_or_pos k with h0 | h0
    · subst h0
      obtain ⟨hq1, hq2⟩ := HI.out.val.quot
      have hlen : D.length = L := HI.out.len
      have hQ : Rd wr (.slice (some ⟨Q, 0, none⟩) L L) D := by
        have h := Rd.of_blk (D := D) (c := L) HI.out.blk (by omega) (by unfold maxLen; omega) (fun j d hd => by simp [qCells, hd])
        rwa [hlen] at h
      have HR := Lib.hid HI.out.rem
      rw [hq2] at HR
      have HQ := Lib.hid hQ
      have HQ1 := Lib.hid hq1
      clear hq1 hq2 hQ hlen
      go_wp2_with fail
      refine (trim_any HQ.out).mono ?_
      rintro e w' ⟨v', rfl, hv, hw⟩
      rw [hw]
      rw [HQ1.out] at hv
      have HV := Lib.hid hv
      clear hv hw
      go_wp2_with fail
      go_ret2
      exact ⟨v', u7, rfl, HV.out, HR.out, HI.out.only⟩
    · obtain ⟨i, rfl⟩ : ∃ i, k = i + 1 := ⟨k - 1, by omega⟩
      obtain ⟨x, ex⟩ : ∃ x, x = a / 65536 ^ i % 65536 := ⟨_, rfl⟩
      obtain ⟨r, er⟩ : ∃ r, r = a / 65536 ^ i % 65536 + 65536 * R := ⟨_, rfl⟩
      have hnx := HI.out.val.next HB0.out er
      rw [← ex] at er
      have hx : x < 65536 := by rw [ex]; exact Nat.mod_lt _ (by omega)
      have hRb : R < b := by rw [HI.out.val.2.2]; exact Nat.mod_lt _ HB0.out
      have hlR : (dg16 R).length ≤ 500 := Nat.le_trans (dg16_len_le (Nat.le_of_lt hRb)) (by rw [← EM.out]; exact hlb)
      have hlr : (dg16 r).length ≤ 501 := Nat.le_trans (dg16_len_le (show r ≤ b * 65536 by omega)) (len_b6 (n := 500) (by rw [← EM.out]; exact hlb))
      have htr : trimL (x :: dg16 R) = dg16 r := by rw [trim_join x R hx, er]
      obtain ⟨Ga, _, e1, hAc⟩ := (HA.out.only HI.out.only).at_ (i := i) (by rw [← EL.out]; omega)
      simp only [Value.slice.injEq] at e1
      obtain ⟨rfl, -, rfl⟩ := e1
      rw [← ex] at hAc
      rw [show ((i + 1 : Nat) : Int) - 1 = (i : Int) by omega]
      obtain ⟨n, en⟩ : ∃ n, n = (dg16 R).length := ⟨_, rfl⟩
      obtain ⟨A2, c2, e2, hc2, hc2m⟩ := HI.out.rem.form
      rw [← en] at e2 hc2 hlR
      subst e2
      have i0' : (0 : Int) ≤ (i : Int) := by omega
      have il : (i : Int) < (L : Int) := by omega
      have HX := Lib.hid hx
      have HLR := Lib.hid hlr
      have HTR := Lib.hid htr
      have EN := Lib.hid en
      have HNX := Lib.hid hnx
      obtain ⟨q0, eq0⟩ : ∃ q0, q0 = r / b := ⟨_, rfl⟩
      have hq6 : q0 < 65536 := by rw [eq0]; exact hnx.2
      have hql : ∀ m, b * m ≤ r ↔ m ≤ q0 := fun m => by rw [eq0, Nat.le_div_iff_mul_le HB0.out, Nat.mul_comm]
      have HQL := Lib.hid hql
      have EQ0 := Lib.hid eq0
      have HXR := Lib.hid hRb
      have hsz : Q < wr.heap.size := HI.out.blk.lt
      have HSZ := Lib.hid hsz
      clear hnx ex er hRb htr en eq0 hql hsz hx hlr
      rcases Nat.eq_zero_or_pos n with hn0 | hn0
      · subst hn0
        have hR0 : dg16 R = [] := List.eq_nil_of_length_eq_zero EN.out.symm
        have HR0 := Lib.hid hR0
        clear hR0
        go_wp2_with (at_builtin; refine Lib.wpList_append_run _ rfl _ _ _ _ rfl _ _ rfl rfl _ _ (run_append_zero Tryz.underlying69 hi0 _ 1 1 (Nat.le_refl _) _ _ _) ?_)
        have hR1 : Rd (wr.alloc (.cells #[.int .i64 (x : Int)] 3)) (.slice (some ⟨wr.heap.size, 0, none⟩) 1 1) (x :: dg16 R) := by
          rw [HR0.out]
          exact Rd.of_own (D := [x]) (own_lit wr _ (Nat.le_refl _) x)
        refine (trim_at hR1).mono ?_
        rintro e w1 ⟨v1, rfl, hv1, hw1, hob⟩
        rw [← hw1] at hv1
        have hne : ∀ k, v1.ownBlock = some k → ¬ k = Q := fun k hk e => by
          rw [hob] at hk
          have e2 : wr.heap.size = k := by simpa [Value.ownBlock] using hk
          have := HSZ.out
          omega
        have ho1 : Only NoneOf wr w1 := by rw [hw1]; exact (Only.refl NoneOf wr).alloc _
        rw [HTR.out] at hv1
        have HNE := Lib.hid hne
        have HV1 := Lib.hid hv1
        have HO1 := Lib.hid ho1
        clear hR1 hv1 hw1 ho1 hob hne
        go_wp2_with fail
        refine (compare_gen HV1.out (HB.out.only (HI.out.only.trans HO1.out)) (by have := HLR.out; omega) (by have := EM.out; omega)).mono ?_
        rintro e w2 ⟨rfl, q, hq⟩
        have ho2 : Only NoneOf wr w2 := by rw [hq]; exact HO1.out.drewN _
        have hv2 : Rd w2 v1 (dg16 r) := HV1.out.only (by rw [hq]; exact (Only.refl _ _).drewN _)
        obtain ⟨c, ec⟩ : ∃ c, c = cmpN r b := ⟨_, rfl⟩
        rw [← ec]
        have HO2 := Lib.hid ho2
        have HV2 := Lib.hid hv2
        have EC := Lib.hid ec
        clear hq ho2 hv2 ec
        rcases Nat.lt_or_ge r b with hrb | hrb
        all_goals
          first
            | (have hc' : c < 0 := by rw [EC.out]; exact cmpN_lt.2 hrb)
            | (have hc' : ¬ c < 0 := by rw [EC.out]; exact fun h => by have := cmpN_lt.1 h; omega)
          have HRB := Lib.hid hrb
          clear hrb
          go_wp2_with fail
          go_loopw [9, 10] (fun l h wr' => ∃ low high : Nat, l = .int .i64 low ∧ h = .int .i64 high ∧ RgBis w2 q0 low high wr') (fun l h _ => (intOf h - intOf l).toNat)
          case atStart =>
            first
              | exact ⟨0, 65536, rfl, rfl, Nat.zero_le _, hq6, Nat.le_refl _, Only.refl _ _⟩
              | exact ⟨0, 1, rfl, rfl, Nat.zero_le _, by rw [EQ0.out, Nat.div_eq_of_lt HRB.out]; omega, by omega, Only.refl _ _⟩
          case round =>
            obtain ⟨low, high, rfl, rfl, hbi⟩ := hrel
            have HBI := Lib.hid hbi
            have hl1 := hbi.lo
            have hl2 := hbi.hi
            have hl3 := hbi.top
            clear hbi
            by_cases hlt : low + 1 < high
            · obtain ⟨m, em⟩ : ∃ m, m = (low + high) / 2 := ⟨_, rfl⟩
              have em2 : ((low : Int) + (high : Int)) / 2 = (m : Int) := by omega
              have hm1 : low < m := by omega
              have hm2 : m < high := by omega
              have ht : 1 < (high : Int) - (low : Int) := by omega
              clear em
              go_wp2_with fail
              refine (by_gen (HB.out.only (HI.out.only.trans (HO2.out.trans HBI.out.only))) (show m < 65536 by omega) (by have := EM.out; omega)).mono ?_
              rintro e w3 ⟨v3, rfl, hv3, ho3⟩
              have HV3 := Lib.hid hv3
              have HO3 := Lib.hid ho3
              clear hv3 ho3
              go_wp2_with fail
              refine (compare_gen HV3.out (HV2.out.only (HBI.out.only.trans HO3.out)) (Nat.le_trans (len_bm (show m < 65536 by omega) (show (dg16 b).length ≤ 500 by rw [← EM.out]; exact hlb)) (by omega)) (by have := HLR.out; omega)).mono ?_
              rintro e w4 ⟨rfl, q4, hq4⟩
              obtain ⟨c4, ec4⟩ : ∃ c4, c4 = cmpN (b * m) r := ⟨_, rfl⟩
              rw [← ec4]
              have EC4 := Lib.hid ec4
              have HO4 : Hid (Only NoneOf w2 w4) := Lib.hid (by rw [hq4]; exact (HBI.out.only.trans HO3.out).drewN _)
              clear hq4 ec4
              by_cases hmd : m ≤ q0
              · have hc5 : c4 ≤ 0 := by rw [EC4.out]; exact cmpN_le.2 ((HQL.out m).2 hmd)
                go_wp2_with fail
                go_roundw
                case rel => exact ⟨m, high, rfl, rfl, hmd, hl2, hl3, HO4.out⟩
                case measure => simp [intOf]; omega
              · have hc5 : ¬ c4 ≤ 0 := by rw [EC4.out]; exact fun h => hmd ((HQL.out m).1 (cmpN_le.1 h))
                go_wp2_with fail
                go_roundw
                case rel => exact ⟨low, m, rfl, rfl, hl1, by omega, by omega, HO4.out⟩
                case measure => simp [intOf]; omega
            · obtain rfl : low = q0 := by omega
              have ht : ¬ 1 < (high : Int) - (low : Int) := by omega
              have hw3 := HO2.out.trans HBI.out.only
              have hb2 : Blk _ Q 3 (qCells (i + 1) D) := HI.out.blk.only hw3 (fun e => e)
              obtain ⟨w3, ew3⟩ : ∃ w3, w3 = wr := ⟨_, rfl⟩
              have cq := (hb2.cell i).trans (qCells_at i D)
              have cq2 := cq
              simp only [dv] at cq2
              have fq := hb2.frozen i
              have HB2 := Lib.hid hb2
              have HW3 := Lib.hid hw3
              clear hb2 hw3 cq ew3
              go_wp2_with fail
              have hN := (HI.out.only.trans HW3.out).setCell (p := ⟨Q, i, none⟩) (.inr (by rw [EQ.out]; exact Nat.le_refl _)) (dv low)
              refine (by_gen (HB.out.only hN) hq6 (by have := EM.out; omega)).mono ?_
              rintro e w5 ⟨v5, rfl, hv5, ho5⟩
              have HN := Lib.hid hN
              have HV5 := Lib.hid hv5
              have HO5 := Lib.hid ho5
              clear hN hv5 ho5
              go_wp2_with fail
              have hs : Only (fun k => k = Q) w2 w5 := (((Only.refl (fun k => k = Q) w2).trans' HBI.out.only (fun _ _ h => h.elim)).setCell (p := ⟨Q, i, none⟩) (.inl rfl) (dv low)).trans' HO5.out (fun _ _ h => h.elim)
              refine (minus_gen (HV2.out.onlyS hs HNE.out) HV5.out ((HQL.out low).2 (Nat.le_refl _)) (by have := HLR.out; omega)).mono ?_
              rintro e w6 ⟨v6, rfl, hv6, ho6⟩
              have HV6 := Lib.hid hv6
              have HO6 := Lib.hid ho6
              clear hs hv6 ho6
              go_wp2_with fail
              go_roundw
              case rel =>
                refine ⟨i, low :: D, r % b, by omega, rfl, ?_, ?_, HN.out.trans (HO5.out.trans HO6.out), ?_, ?_⟩
                · have h := HV6.out
                  rw [EQ0.out, sub_div] at h
                  exact h
                · have h := HB2.out.set_ i (dv low)
                  rw [qCells_set] at h
                  exact h.only (HO5.out.trans HO6.out) (fun e => e)
                · rw [EQ0.out]; exact HNX.out.1
                · have := HI.out.len; simp only [List.length_cons]; omega
              case measure => simp [intOf]
      · obtain ⟨g2, _, e3, _, _, hg2, hcell⟩ := HI.out.rem.cells (by intro e; have := EN.out; rw [e] at this; simp at this; omega)
        simp only [Value.slice.injEq] at e3
        obtain ⟨rfl, -, -⟩ := e3
        have hcell2 : ∀ j u, ((dg16 R).map dv)[j]? = some u → (wr.alloc (.cells #[.int .i64 (x : Int)] 3)).cell? ((⟨g2, 0, none⟩ : Addr).add j) = some u := fun j u hj => by
          rw [List.getElem?_map] at hj
          obtain ⟨d, hd, rfl⟩ := Option.map_eq_some_iff.1 hj
          have h := ((Only.refl NoneOf wr).alloc (.cells #[.int .i64 (x : Int)] 3)).cell_some (hcell j d hd) (fun e => e)
          rw [show (⟨g2, 0, none⟩ : Addr).add j = ⟨g2, j, none⟩ by by_cases h0 : j = 0 <;> simp [Addr.add, h0]]
          exact h
        have HC2 := Lib.hid hcell2
        clear hcell hcell2
        go_wp2_with (at_builtin; refine wpList_append_lies _ rfl _ _ 69 rfl wr.heap.size 3 i0 _ 1 8 Tryz.underlying69 hi0 hz0 hz1 hz2 rfl (by decide) (.slice (some ⟨wr.heap.size, 0, none⟩) 1 1) 1 [dv x] rfl (by exact own_lit wr _ (Nat.le_refl _) x) ⟨g2, 0, none⟩ n c2 ((dg16 R).map dv) rfl (by rw [List.length_map, ← EN.out, Nat.mul_one]) HC2.out (dv_one _) hn0 (by rw [maxLen_val]; omega) (by omega) (by rw [World.size_alloc]; omega) _ rfl ?_; intro g9 cap9 w9 hown9 hgrow9 hb9 hlt9)
        have hR1 : Rd w9 (.slice (some ⟨g9, 0, none⟩) (1 + n) cap9) (x :: dg16 R) := Rd.of_own (D := x :: dg16 R) (by rw [List.map_cons]; exact hown9)
        refine (trim_at hR1).mono ?_
        rintro e w1 ⟨v1, rfl, hv1, hw1, hob⟩
        rw [← hw1] at hv1
        have hne : ∀ k, v1.ownBlock = some k → ¬ k = Q := fun k hk e => by
          rw [hob] at hk
          have e2 : g9 = k := by simpa [Value.ownBlock] using hk
          have h9 := (own_ge hown9 (g := g9) rfl).1
          have := HSZ.out
          omega
        have hgb : ∀ j, (Value.slice (some ⟨wr.heap.size, 0, none⟩) 1 1).ownBlock = some j → wr.heap.size ≤ j := fun j hj => by
          have e2 : wr.heap.size = j := by simpa [Value.ownBlock] using hj
          omega
        have ho1 : Only NoneOf wr w1 := by rw [hw1]; exact ((Only.refl NoneOf wr).alloc _).grown hgrow9 (fun j hj => .inr (hgb j hj))
        rw [HTR.out] at hv1
        have HNE := Lib.hid hne
        have HV1 := Lib.hid hv1
        have HO1 := Lib.hid ho1
        clear hR1 hv1 hw1 ho1 hob hne hown9 hgrow9 hb9 hlt9 hgb
        go_wp2_with fail
        refine (compare_gen HV1.out (HB.out.only (HI.out.only.trans HO1.out)) (by have := HLR.out; omega) (by have := EM.out; omega)).mono ?_
        rintro e w2 ⟨rfl, q, hq⟩
        have ho2 : Only NoneOf wr w2 := by rw [hq]; exact HO1.out.drewN _
        have hv2 : Rd w2 v1 (dg16 r) := HV1.out.only (by rw [hq]; exact (Only.refl _ _).drewN _)
        obtain ⟨c, ec⟩ : ∃ c, c = cmpN r b := ⟨_, rfl⟩
        rw [← ec]
        have HO2 := Lib.hid ho2
        have HV2 := Lib.hid hv2
        have EC := Lib.hid ec
        clear hq ho2 hv2 ec
        rcases Nat.lt_or_ge r b with hrb | hrb
        all_goals
          first
            | (have hc' : c < 0 := by rw [EC.out]; exact cmpN_lt.2 hrb)
            | (have hc' : ¬ c < 0 := by rw [EC.out]; exact fun h => by have := cmpN_lt.1 h; omega)
          have HRB := Lib.hid hrb
          clear hrb
          go_wp2_with fail
          go_loopw [9, 10] (fun l h wr' => ∃ low high : Nat, l = .int .i64 low ∧ h = .int .i64 high ∧ RgBis w2 q0 low high wr') (fun l h _ => (intOf h - intOf l).toNat)
          case atStart =>
            first
              | exact ⟨0, 65536, rfl, rfl, Nat.zero_le _, hq6, Nat.le_refl _, Only.refl _ _⟩
              | exact ⟨0, 1, rfl, rfl, Nat.zero_le _, by rw [EQ0.out, Nat.div_eq_of_lt HRB.out]; omega, by omega, Only.refl _ _⟩
          case round =>
            obtain ⟨low, high, rfl, rfl, hbi⟩ := hrel
            have HBI := Lib.hid hbi
            have hl1 := hbi.lo
            have hl2 := hbi.hi
            have hl3 := hbi.top
            clear hbi
            by_cases hlt : low + 1 < high
            · obtain ⟨m, em⟩ : ∃ m, m = (low + high) / 2 := ⟨_, rfl⟩
              have em2 : ((low : Int) + (high : Int)) / 2 = (m : Int) := by omega
              have hm1 : low < m := by omega
              have hm2 : m < high := by omega
              have ht : 1 < (high : Int) - (low : Int) := by omega
              clear em
              go_wp2_with fail
              refine (by_gen (HB.out.only (HI.out.only.trans (HO2.out.trans HBI.out.only))) (show m < 65536 by omega) (by have := EM.out; omega)).mono ?_
              rintro e w3 ⟨v3, rfl, hv3, ho3⟩
              have HV3 := Lib.hid hv3
              have HO3 := Lib.hid ho3
              clear hv3 ho3
              go_wp2_with fail
              refine (compare_gen HV3.out (HV2.out.only (HBI.out.only.trans HO3.out)) (Nat.le_trans (len_bm (show m < 65536 by omega) (show (dg16 b).length ≤ 500 by rw [← EM.out]; exact hlb)) (by omega)) (by have := HLR.out; omega)).mono ?_
              rintro e w4 ⟨rfl, q4, hq4⟩
              obtain ⟨c4, ec4⟩ : ∃ c4, c4 = cmpN (b * m) r := ⟨_, rfl⟩
              rw [← ec4]
              have EC4 := Lib.hid ec4
              have HO4 : Hid (Only NoneOf w2 w4) := Lib.hid (by rw [hq4]; exact (HBI.out.only.trans HO3.out).drewN _)
              clear hq4 ec4
              by_cases hmd : m ≤ q0
              · have hc5 : c4 ≤ 0 := by rw [EC4.out]; exact cmpN_le.2 ((HQL.out m).2 hmd)
                go_wp2_with fail
                go_roundw
                case rel => exact ⟨m, high, rfl, rfl, hmd, hl2, hl3, HO4.out⟩
                case measure => simp [intOf]; omega
              · have hc5 : ¬ c4 ≤ 0 := by rw [EC4.out]; exact fun h => hmd ((HQL.out m).1 (cmpN_le.1 h))
                go_wp2_with fail
                go_roundw
                case rel => exact ⟨low, m, rfl, rfl, hl1, by omega, by omega, HO4.out⟩
                case measure => simp [intOf]; omega
            · obtain rfl : low = q0 := by omega
              have ht : ¬ 1 < (high : Int) - (low : Int) := by omega
              have hw3 := HO2.out.trans HBI.out.only
              have hb2 : Blk _ Q 3 (qCells (i + 1) D) := HI.out.blk.only hw3 (fun e => e)
              obtain ⟨w3, ew3⟩ : ∃ w3, w3 = wr := ⟨_, rfl⟩
              have cq := (hb2.cell i).trans (qCells_at i D)
              have cq2 := cq
              simp only [dv] at cq2
              have fq := hb2.frozen i
              have HB2 := Lib.hid hb2
              have HW3 := Lib.hid hw3
              clear hb2 hw3 cq ew3
              go_wp2_with fail
              have hN := (HI.out.only.trans HW3.out).setCell (p := ⟨Q, i, none⟩) (.inr (by rw [EQ.out]; exact Nat.le_refl _)) (dv low)
              refine (by_gen (HB.out.only hN) hq6 (by have := EM.out; omega)).mono ?_
              rintro e w5 ⟨v5, rfl, hv5, ho5⟩
              have HN := Lib.hid hN
              have HV5 := Lib.hid hv5
              have HO5 := Lib.hid ho5
              clear hN hv5 ho5
              go_wp2_with fail
              have hs : Only (fun k => k = Q) w2 w5 := (((Only.refl (fun k => k = Q) w2).trans' HBI.out.only (fun _ _ h => h.elim)).setCell (p := ⟨Q, i, none⟩) (.inl rfl) (dv low)).trans' HO5.out (fun _ _ h => h.elim)
              refine (minus_gen (HV2.out.onlyS hs HNE.out) HV5.out ((HQL.out low).2 (Nat.le_refl _)) (by have := HLR.out; omega)).mono ?_
              rintro e w6 ⟨v6, rfl, hv6, ho6⟩
              have HV6 := Lib.hid hv6
              have HO6 := Lib.hid ho6
              clear hs hv6 ho6
              go_wp2_with fail
              go_roundw
              case rel =>
                refine ⟨i, low :: D, r % b, by omega, rfl, ?_, ?_, HN.out.trans (HO5.out.trans HO6.out), ?_, ?_⟩
                · have h := HV6.out
                  rw [EQ0.out, sub_div] at h
                  exact h
                · have h := HB2.out.set_ i (dv low)
                  rw [qCells_set] at h
                  exact h.only (HO5.out.trans HO6.out) (fun e => e)
                · rw [EQ0.out]; exact HNX.out.1
                · have := HI.out.len; simp only [List.length_cons]; omega
              case measure => simp [intOf]
end Go.Proofs.YtclpebgjmgfigaaGreatDoor
namespace Go.Proofs.YtclpebgjmgfigaaGreatDoor
open Go.RowKit
theorem Rd.same {w : World} {v : Value} {D E : List Nat} (h : Rd w v D) (k : Rd w v E) : D = E := by
  rcases h with ⟨rfl, rfl⟩ | ⟨g, c, rfl, h1, h2, h3, h4⟩
  · rcases k with ⟨_, rfl⟩ | ⟨g2, c2, e2, _⟩
    · rfl
    · cases e2
  · rcases k with ⟨e2, _⟩ | ⟨g2, c2, e2, _, _, _, k4⟩
    · cases e2
    · simp only [Value.slice.injEq, Option.some.injEq, Addr.mk.injEq, and_true] at e2
      obtain ⟨rfl, hl, _⟩ := e2
      have hl' : D.length = E.length := by omega
      refine List.ext_getElem? fun j => ?_
      by_cases hj : j < D.length
      · have a := h4 j _ (List.getElem?_eq_getElem hj)
        have b := k4 j _ (List.getElem?_eq_getElem (by omega))
        rw [a] at b
        simp only [Option.some.injEq, dv, Value.int.injEq, true_and] at b
        rw [List.getElem?_eq_getElem hj, List.getElem?_eq_getElem (by omega)]
        congr 1
        omega
      · rw [List.getElem?_eq_none (by omega), List.getElem?_eq_none (by omega)]
open Classical in
/-- The number that a slice reads as. -/
noncomputable def rdVal (w : World) (v : Value) : Nat := if h : ∃ y, Rd w v (dg16 y) then h.choose else 0
theorem rdVal_eq {w : World} {v : Value} {y : Nat} (h : Rd w v (dg16 y)) : rdVal w v = y := by
  have hx : ∃ y, Rd w v (dg16 y) := ⟨y, h⟩
  unfold rdVal
  rw [dif_pos hx]
  exact dg16_inj (hx.choose_spec.same h)
structure RgCom (w : World) (x y : Nat) (a b : Value) (W : World) : Prop where
  one : Rd W a (dg16 x)
  two : Rd W b (dg16 y)
  pos : 0 < x + y
  len : (dg16 x).length ≤ 500
  len2 : (dg16 y).length ≤ 500
  only : Only NoneOf w W
set_option maxRecDepth 100000 in
set_option maxHeartbeats 400000 in
theorem common_gen {va vb : Value} {x y : Nat} {w : World} (ha : Rd w va (dg16 x)) (hb : Rd w vb (dg16 y)) (hp : 0 < x + y) (hx : (dg16 x).length ≤ 500) (hy : (dg16 y).length ≤ 500) :
    Calls Tryz.prog 141 #[va, vb] w fun e w' => ∃ (g : Nat) (v : Value), e = .returned v ∧ Rd w' v (dg16 g) ∧ 0 < g ∧ (dg16 g).length ≤ 500 ∧ Only NoneOf w w' := by
  have HI0 : Hid (RgCom w x y va vb w) := Lib.hid ⟨ha, hb, hp, hx, hy, Only.refl _ _⟩
  clear ha hb hp hx hy
  go_enter Tryz.func141, Tryz.ntmps141
  go_wp2_with fail
  go_loopw [0, 1] (fun a b wr => ∃ x y, RgCom w x y a b wr) (fun _ b W => rdVal W b)
  case atStart => exact ⟨x, y, HI0.out⟩
  case round =>
    clear HI0
    obtain ⟨x, y, hI⟩ := hrel
    have HI := Lib.hid hI
    obtain ⟨b1, c1, e1, hc1, hc1m⟩ := hI.two.form
    have hme := rdVal_eq hI.two
    have HME := Lib.hid hme
    have hle := hI.len2
    obtain ⟨n, en⟩ : ∃ n, n = (dg16 y).length := ⟨_, rfl⟩
    rw [← en] at e1 hc1 hle
    have EN := Lib.hid en
    subst e1
    clear hI hme en
    go_wp2_with fail
    refine (trim_any HI.out.two).mono ?_
    rintro e w1 ⟨v1, rfl, hv1, hw1⟩
    rw [hw1]
    rw [dg16_trim] at hv1
    obtain ⟨b2, c2, e2, hc2, hc2m⟩ := hv1.form
    rw [← EN.out] at e2 hc2
    subst e2
    clear hv1 hw1
    rcases Nat.eq_zero_or_pos n with hn | hn
    · subst hn
      go_wp2_with fail
      refine (trim_any HI.out.one).mono ?_
      rintro e w1 ⟨v1, rfl, hv1, hw1⟩
      rw [hw1]
      rw [dg16_trim] at hv1
      have HV1 := Lib.hid hv1
      clear hv1 hw1
      have hy0 : y = 0 := by
        rcases Nat.eq_zero_or_pos y with h | h
        · exact h
        · have := dg16_pos_len (m := y) (by omega); have := EN.out; omega
      have HY := Lib.hid hy0
      clear hy0
      go_wp2_with fail
      go_ret
      exact ⟨x, _, rfl, HV1.out, by have := HI.out.pos; have := HY.out; omega, HI.out.len, HI.out.only⟩
    · have hn' : (0 : Int) < (n : Int) := by omega
      have hy0 : 0 < y := by
        rcases Nat.eq_zero_or_pos y with h | h
        · have := EN.out; rw [h, dg16_zero] at this; simp at this; omega
        · exact h
      have HY := Lib.hid hy0
      clear hy0
      go_wp2_with fail
      refine (trim_any HI.out.one).mono ?_
      rintro e w1 ⟨v1, rfl, hv1, hw1⟩
      rw [hw1]
      rw [dg16_trim] at hv1
      have HV1 := Lib.hid hv1
      clear hv1 hw1
      go_wp2_with fail
      refine (trim_any HI.out.two).mono ?_
      rintro e w1 ⟨v2, rfl, hv2, hw1⟩
      rw [hw1]
      rw [dg16_trim] at hv2
      have HV2 := Lib.hid hv2
      clear hv2 hw1
      go_wp2_with fail
      refine (over_gen HV1.out HV2.out HY.out HI.out.len HI.out.len2).mono ?_
      rintro e w2 ⟨q, r, rfl, hq, hr, ho2⟩
      have HR := Lib.hid hr
      have HO2 := Lib.hid ho2
      have hmod : x % y < y := Nat.mod_lt _ HY.out
      have HMOD := Lib.hid hmod
      clear hq hr ho2 hmod
      go_wp2_with fail
      go_roundw
      case rel => exact ⟨y, x % y, HI.out.two.only HO2.out, HR.out, by have := HY.out; omega, HI.out.len2, Nat.le_trans (dg16_len_le (Nat.le_of_lt HMOD.out)) HI.out.len2, HI.out.only.trans HO2.out⟩
      case measure => rw [rdVal_eq HR.out, HME.out]; exact HMOD.out
set_option maxRecDepth 100000 in
set_option maxHeartbeats 1000000 in
theorem lowest_gen (neg : Bool) (m d : Nat) {va vb : Value} (hm : m ≤ 9223372036854775808) (hd0 : 0 < d) (hd : d < 9223372036854775808) (hn : neg = false → m < 9223372036854775808) {w : World} (ha : Rd w va (dg16 m)) (hb : Rd w vb (dg16 d)) :
    Calls Tryz.prog 121 #[bigV neg va, bigV false vb] w fun e w' => ∃ x y : Int, e = .returned (.tuple #[ratV x y, .bool true]) ∧ Only NoneOf w w' := by
  obtain ⟨ga, ca, ea, hca, hcam⟩ := ha.form
  obtain ⟨gb, cb, eb, hcb, hcbm⟩ := hb.form
  have hla := dg16_len4 hm
  have hlb := dg16_len4 (Nat.le_of_lt hd)
  obtain ⟨L, eL⟩ : ∃ L, L = (dg16 m).length := ⟨_, rfl⟩
  obtain ⟨M, eM⟩ : ∃ M, M = (dg16 d).length := ⟨_, rfl⟩
  rw [← eL] at ea hca hla
  rw [← eM] at eb hcb hlb
  have HA := Lib.hid ha
  have HB := Lib.hid hb
  have HM := Lib.hid hm
  have HD := Lib.hid hd
  have HD0 := Lib.hid hd0
  have HN := Lib.hid hn
  have EL := Lib.hid eL
  have EM := Lib.hid eM
  clear ha hb hm hd hd0 hn eL eM
  subst ea eb
  unfold bigV
  go_enter Tryz.func121, Tryz.ntmps121
  go_wp2_with fail
  obtain ⟨B, eB⟩ : ∃ B, B = w.heap.size := ⟨_, rfl⟩
  rw [← eB]
  refine calls_gen (fun X => Only NoneOf w X ∧ Blk X B 159 #[.bool neg, .slice ga L ca] ∧ Blk X (B + 1) 159 #[.bool false, .slice gb M cb] ∧ Blk X (B + 2) 106 #[.int .i64 0, .int .i64 0])
    ⟨((Only.refl NoneOf w).alloc _).alloc _ |>.alloc _, by rw [eB]; exact ((Blk.new w _ _).alloc _).alloc _, by rw [eB]; exact (by simpa using Blk.new (w.alloc (.cells #[.bool neg, .slice ga L ca] 159)) 159 #[.bool false, .slice gb M cb] : Blk _ (w.heap.size + 1) _ _).alloc _, by rw [eB]; simpa using Blk.new ((w.alloc (.cells #[.bool neg, .slice ga L ca] 159)).alloc (.cells #[.bool false, .slice gb M cb] 159)) 106 #[.int .i64 0, .int .i64 0]⟩ ?_
  rintro X ⟨ho, hb1, hb2, hb3⟩
  have HO := Lib.hid ho
  have HB1 := Lib.hid hb1
  have HB2 := Lib.hid hb2
  have HB3 := Lib.hid hb3
  have EB := Lib.hid eB
  clear eB ho hb1 hb2 hb3
  refine (common_gen (HA.out.only HO.out) (HB.out.only HO.out) (by have := HD0.out; omega) (by have := EL.out; omega) (by have := EM.out; omega)).mono ?_
  rintro e w1 ⟨g, vg, rfl, hg, hg0, hgl, ho1⟩
  have HG := Lib.hid hg
  have HG0 := Lib.hid hg0
  have HGL := Lib.hid hgl
  have HO1 := Lib.hid ho1
  have c1 : w1.cell? ⟨B, 1, none⟩ = some (.slice ga L ca) := (HB1.out.only ho1 (fun e => e)).cell 1
  clear hg hg0 hgl ho1
  go_wp2_with fail
  refine (trim_any (HA.out.only (HO.out.trans HO1.out))).mono ?_
  rintro e w2 ⟨v2, rfl, hv2, hw2⟩
  rw [hw2]
  rw [dg16_trim] at hv2
  have HV2 := Lib.hid hv2
  clear hv2 hw2 c1
  go_wp2_with fail
  refine (over_gen HV2.out HG.out HG0.out (by have := EL.out; omega) HGL.out).mono ?_
  rintro e w3 ⟨q, r, rfl, hq, _, ho3⟩
  have HO3 := Lib.hid (HO1.out.trans ho3)
  have HG3 := Lib.hid (HG.out.only ho3)
  have HQ := Lib.hid hq
  obtain ⟨gq, cq, eq, hcq, hcqm⟩ := hq.form
  obtain ⟨u, eu⟩ : ∃ u, u = m / g := ⟨_, rfl⟩
  rw [← eu] at HQ eq hcq
  have hum : u ≤ m := by rw [eu]; exact Nat.div_le_self _ _
  obtain ⟨K, eK⟩ : ∃ K, K = (dg16 u).length := ⟨_, rfl⟩
  rw [← eK] at eq hcq
  subst eq
  have HUM := Lib.hid hum
  have EK := Lib.hid eK
  have c1 : w3.cell? ⟨B + 1, 1, none⟩ = some (.slice gb M cb) := (HB2.out.only HO3.out (fun e => e)).cell 1
  clear hq ho3 eu hum eK
  go_wp2_with fail
  refine (trim_any (HB.out.only (HO.out.trans HO3.out))).mono ?_
  rintro e w4 ⟨v4, rfl, hv4, hw4⟩
  rw [hw4]
  rw [dg16_trim] at hv4
  have HV4 := Lib.hid hv4
  clear hv4 hw4 c1
  go_wp2_with fail
  refine (over_gen HV4.out HG3.out HG0.out (by have := EM.out; omega) HGL.out).mono ?_
  rintro e w5 ⟨q5, r5, rfl, hq5, _, ho5⟩
  have HO5 := Lib.hid (HO3.out.trans ho5)
  have HQ5 := Lib.hid hq5
  have HQB := Lib.hid (HQ.out.only ho5)
  have c0 : w5.cell? ⟨B, 0, none⟩ = some (.bool neg) := (HB1.out.only HO5.out (fun e => e)).cell 0
  have c2 : w5.cell? ⟨B + 1, 0, none⟩ = some (.bool false) := (HB2.out.only HO5.out (fun e => e)).cell 0
  obtain ⟨t, et⟩ : ∃ t, t = d / g := ⟨_, rfl⟩
  have htd : t ≤ d := by rw [et]; exact Nat.div_le_self _ _
  obtain ⟨g5, c5, e5, hc5, hc5m⟩ := hq5.form
  rw [← et] at HQ5 e5 hc5
  subst e5
  have HTD := Lib.hid htd
  have hfit2 : ∀ W, Only NoneOf w5 W → Calls Tryz.prog 144 #[bigV false (.slice g5 (dg16 t).length c5)] W fun e w' => e = .returned (.tuple #[.int .i64 (t : Int), .bool true]) ∧ Only NoneOf W w' := fun W hW => by
    have h := fit_any false _ t W (HQ5.out.only hW) (by have := HTD.out; have := HD.out; omega) (.inr ⟨rfl, by have := HTD.out; have := HD.out; omega⟩)
    simpa using h
  have HF2 := Lib.hid hfit2
  have hcase : (neg = true ∧ 0 < K) ∨ (neg = true ∧ K = 0) ∨ neg = false := by
    cases neg
    · exact .inr (.inr rfl)
    · rcases Nat.eq_zero_or_pos K with h | h
      · exact .inr (.inl ⟨rfl, h⟩)
      · exact .inl ⟨rfl, h⟩
  clear hq5 ho5 et htd hfit2
  rcases hcase with ⟨rfl, hK⟩ | ⟨rfl, hK⟩ | rfl
  · have hu0 : 0 < u := by
      rcases Nat.eq_zero_or_pos u with h | h
      · have := EK.out; rw [h, dg16_zero] at this; simp at this; omega
      · exact h
    obtain ⟨z, HF0⟩ : ∃ z : Int, Hid (Calls Tryz.prog 144 #[bigV true (.slice gq K cq)] w5 fun e w' => e = .returned (.tuple #[.int .i64 z, .bool true]) ∧ Only NoneOf w5 w') := ⟨_, Lib.hid (fit_any true _ u w5 HQB.out (by have := HUM.out; have := HM.out; omega) (.inl ⟨rfl, hu0⟩))⟩
    have hK2 : (0 : Int) < (K : Int) := by omega
    clear hu0
    go_wp2_with fail
    refine HF0.out.mono ?_
    rintro e w6 ⟨rfl, ho6⟩
    have HO6 := Lib.hid (HO5.out.trans ho6)
    have HO56 := Lib.hid ho6
    clear ho6 c0 c2
    go_wp2_with fail
    refine (HF2.out w6 HO56.out).mono ?_
    rintro e w7 ⟨rfl, ho7⟩
    have HO7 := Lib.hid (HO6.out.trans ho7)
    have c0 : w7.cell? ⟨B + 2, 0, none⟩ = some (.int .i64 0) := (HB3.out.only HO7.out (fun e => e)).cell 0
    have c2 : w7.cell? ⟨B + 2, 1, none⟩ = some (.int .i64 0) := (HB3.out.only HO7.out (fun e => e)).cell 1
    have f0 := (HB3.out.only HO7.out (fun e => e)).frozen 0
    have f1 := (HB3.out.only HO7.out (fun e => e)).frozen 1
    clear ho7
    go_wp2_with fail
    have hb9 := ((HB3.out.only HO7.out (fun e => e)).set_ 0 (.int .i64 z)).set_ 1 (.int .i64 (t : Int))
    have d0 := hb9.cell 0
    have d1 := hb9.cell 1
    simp only [List.setIfInBounds_toArray, List.set_cons_zero, List.set_cons_succ, List.getElem?_toArray, List.getElem?_cons_zero, List.getElem?_cons_succ] at d0 d1
    exact bodyPost_ret (v := .tuple #[.agg #[.int .i64 z, .int .i64 (t : Int)], .bool true]) (by simp [results, Tryz.results121, go_sem, d0, d1]) rfl ⟨z, t, rfl, ((HO.out.trans HO7.out).setCell (.inr (by rw [EB.out]; show _ ≤ w.heap.size + 1 + 1; omega)) _).setCell (.inr (by rw [EB.out]; show _ ≤ w.heap.size + 1 + 1; omega)) _⟩
  · have hu0 : u = 0 := by
      rcases Nat.eq_zero_or_pos u with h | h
      · exact h
      · have := dg16_pos_len (m := u) (by omega); have := EK.out; omega
    obtain ⟨z, HF0⟩ : ∃ z : Int, Hid (Calls Tryz.prog 144 #[bigV false (.slice gq K cq)] w5 fun e w' => e = .returned (.tuple #[.int .i64 z, .bool true]) ∧ Only NoneOf w5 w') := ⟨_, Lib.hid (fit_any false _ u w5 HQB.out (by have := HUM.out; have := HM.out; omega) (.inr ⟨rfl, by omega⟩))⟩
    have hK2 : ¬ (0 : Int) < (K : Int) := by omega
    have hK3 : decide (0 < K) = false := decide_eq_false (by omega)
    clear hu0 hK
    go_wp2_with fail
    refine HF0.out.mono ?_
    rintro e w6 ⟨rfl, ho6⟩
    have HO6 := Lib.hid (HO5.out.trans ho6)
    have HO56 := Lib.hid ho6
    clear ho6 c0 c2
    go_wp2_with fail
    refine (HF2.out w6 HO56.out).mono ?_
    rintro e w7 ⟨rfl, ho7⟩
    have HO7 := Lib.hid (HO6.out.trans ho7)
    have c0 : w7.cell? ⟨B + 2, 0, none⟩ = some (.int .i64 0) := (HB3.out.only HO7.out (fun e => e)).cell 0
    have c2 : w7.cell? ⟨B + 2, 1, none⟩ = some (.int .i64 0) := (HB3.out.only HO7.out (fun e => e)).cell 1
    have f0 := (HB3.out.only HO7.out (fun e => e)).frozen 0
    have f1 := (HB3.out.only HO7.out (fun e => e)).frozen 1
    clear ho7
    go_wp2_with fail
    have hb9 := ((HB3.out.only HO7.out (fun e => e)).set_ 0 (.int .i64 z)).set_ 1 (.int .i64 (t : Int))
    have d0 := hb9.cell 0
    have d1 := hb9.cell 1
    simp only [List.setIfInBounds_toArray, List.set_cons_zero, List.set_cons_succ, List.getElem?_toArray, List.getElem?_cons_zero, List.getElem?_cons_succ] at d0 d1
    exact bodyPost_ret (v := .tuple #[.agg #[.int .i64 z, .int .i64 (t : Int)], .bool true]) (by simp [results, Tryz.results121, go_sem, d0, d1]) rfl ⟨z, t, rfl, ((HO.out.trans HO7.out).setCell (.inr (by rw [EB.out]; show _ ≤ w.heap.size + 1 + 1; omega)) _).setCell (.inr (by rw [EB.out]; show _ ≤ w.heap.size + 1 + 1; omega)) _⟩
  · obtain ⟨z, HF0⟩ : ∃ z : Int, Hid (Calls Tryz.prog 144 #[bigV false (.slice gq K cq)] w5 fun e w' => e = .returned (.tuple #[.int .i64 z, .bool true]) ∧ Only NoneOf w5 w') := ⟨_, Lib.hid (fit_any false _ u w5 HQB.out (by have := HUM.out; have := HM.out; omega) (.inr ⟨rfl, by have := HUM.out; have := HN.out rfl; omega⟩))⟩
    go_wp2_with fail
    refine HF0.out.mono ?_
    rintro e w6 ⟨rfl, ho6⟩
    have HO6 := Lib.hid (HO5.out.trans ho6)
    have HO56 := Lib.hid ho6
    clear ho6 c0 c2
    go_wp2_with fail
    refine (HF2.out w6 HO56.out).mono ?_
    rintro e w7 ⟨rfl, ho7⟩
    have HO7 := Lib.hid (HO6.out.trans ho7)
    have c0 : w7.cell? ⟨B + 2, 0, none⟩ = some (.int .i64 0) := (HB3.out.only HO7.out (fun e => e)).cell 0
    have c2 : w7.cell? ⟨B + 2, 1, none⟩ = some (.int .i64 0) := (HB3.out.only HO7.out (fun e => e)).cell 1
    have f0 := (HB3.out.only HO7.out (fun e => e)).frozen 0
    have f1 := (HB3.out.only HO7.out (fun e => e)).frozen 1
    clear ho7
    go_wp2_with fail
    have hb9 := ((HB3.out.only HO7.out (fun e => e)).set_ 0 (.int .i64 z)).set_ 1 (.int .i64 (t : Int))
    have d0 := hb9.cell 0
    have d1 := hb9.cell 1
    simp only [List.setIfInBounds_toArray, List.set_cons_zero, List.set_cons_succ, List.getElem?_toArray, List.getElem?_cons_zero, List.getElem?_cons_succ] at d0 d1
    exact bodyPost_ret (v := .tuple #[.agg #[.int .i64 z, .int .i64 (t : Int)], .bool true]) (by simp [results, Tryz.results121, go_sem, d0, d1]) rfl ⟨z, t, rfl, ((HO.out.trans HO7.out).setCell (.inr (by rw [EB.out]; show _ ≤ w.heap.size + 1 + 1; omega)) _).setCell (.inr (by rw [EB.out]; show _ ≤ w.heap.size + 1 + 1; omega)) _⟩
end Go.Proofs.YtclpebgjmgfigaaGreatDoor
namespace Go.Proofs.YtclpebgjmgfigaaGreatDoor
open Go.RowKit
structure RgQk (a b : Value) (A c : Nat) : Prop where
  one : a = .int .i64 (A : Int)
  two : b = .int .i64 (c : Int)
  pos : 0 < A + c
  hi : A < 1000000000 ∧ c < 1000000000
set_option maxRecDepth 100000 in
set_option maxHeartbeats 1000000 in
theorem quick_gen (n d : Int) (h0 : -1000000000 < n) (h1 : n < 1000000000) (hd0 : 0 < d) (hd : d < 1000000000) (w : World) :
    Calls Tryz.prog 120 #[.int .i64 n, .int .i64 d] w fun e w' => ∃ x y : Int, e = .returned (ratV x y) ∧ Only NoneOf w w' := by
  have wn : IntKind.i64.wrap (-n) = -n := IntWalk.i64_in _ (by omega)
  have dn : ¬ d < 0 := by omega
  have HD := Lib.hid hd
  have HD0 := Lib.hid hd0
  clear hd hd0
  go_enter Tryz.func120, Tryz.ntmps120
  go_wp2_with fail
  all_goals
    go_loop [5, 6] (fun a b => ∃ A c, RgQk a b A c) (fun _ b => (intOf b).toNat)
    case atStart => exact ⟨n.natAbs, d.toNat, by congr 1; omega, by have := HD0.out; congr 1; omega, by have := HD0.out; omega, by omega, by have := HD.out; omega⟩
    case round =>
      obtain ⟨A, c, rfl, rfl, hp, hi1, hi2⟩ := hrel
      rcases Nat.eq_zero_or_pos c with hc | hc
      · subst hc
        have hA : 0 < A := by omega
        have ha0 : ¬ (A : Int) = 0 := by omega
        have ha1 : ((A : Int) == 0) = false := by simp; omega
        obtain ⟨B, eB⟩ : ∃ B, B = w.heap.size := ⟨_, rfl⟩
        have hb := Blk.new w 106 #[.int .i64 0, .int .i64 0]
        obtain ⟨X, eX⟩ : ∃ X, X = w.alloc (.cells #[.int .i64 0, .int .i64 0] 106) := ⟨_, rfl⟩
        rw [← eX] at hb ⊢
        rw [← eB] at hb ⊢
        have c0 : X.cell? ⟨B, 0, none⟩ = some (.int .i64 0) := hb.cell 0
        have c1 : X.cell? ⟨B, 1, none⟩ = some (.int .i64 0) := hb.cell 1
        have f0 := hb.frozen 0
        have f1 := hb.frozen 1
        have HB := Lib.hid hb
        have EB := Lib.hid eB
        have HO : Hid (Only NoneOf w X) := Lib.hid (by rw [eX]; exact (Only.refl _ _).alloc _)
        clear hb eB eX hp hi1 hi2
        go_wp2_with fail
        go_region
        go_wp2_with fail
        have hb9 := fun (u v : Value) => ((HB.out.set_ 0 u).set_ 1 v).drew
        exact bodyPost_ret (results_blk rfl rfl (hb9 _ _) Tryz.underlying106 rfl (by kernel_rfl)) rfl ⟨_, _, rfl, ((HO.out.setCell (.inr (by rw [EB.out]; exact Nat.le_refl _)) _).setCell (.inr (by rw [EB.out]; exact Nat.le_refl _)) _).drew⟩
      · obtain ⟨r, er⟩ : ∃ r, r = A % c := ⟨_, rfl⟩
        have hr : r < c := by rw [er]; exact Nat.mod_lt _ hc
        have E1 : Hid ((A : Int) % (c : Int) = (r : Int)) := Lib.hid (by rw [er]; rfl)
        have c0 : ¬ (c : Int) = 0 := by omega
        have c1 : ((c : Int) == 0) = false := by simp; omega
        have c2 : (0 : Int) < (c : Int) := by omega
        have a0 : (0 : Int) ≤ (A : Int) := by omega
        clear er
        go_wp2_with fail
        go_round
        case rel => exact ⟨c, r, rfl, by rw [E1.out], by omega, by omega, by omega⟩
        case measure => have := E1.out; simp [intOf]; omega
theorem eq_rat (x y n d : Int) (W : World) : (binOp .eql 106 (ratV x y) (ratV n d)).run Tryz.prog W = .ok (.bool (decide (x = n ∧ y = d))) W := by
  by_cases h1 : x = n
  · by_cases h2 : y = d
    · subst h1 h2
      simp [go_sem]
    · simp [go_sem, h1, h2]
  · simp [go_sem, h1]
set_option maxRecDepth 100000 in
set_option maxHeartbeats 1000000 in
theorem right_gen (n d : Int) (h0 : -9223372036854775808 ≤ n) (h1 : n ≤ 9223372036854775807) (h2 : -9223372036854775808 ≤ d) (h3 : d ≤ 9223372036854775807) (w : World) :
    Calls Tryz.prog 93 #[ratV n d] w fun e w' => ∃ b : Bool, e = .returned (.bool b) ∧ Only NoneOf w w' := by
  have hb := Blk.new w 106 #[.int .i64 n, .int .i64 d]
  have HB := Lib.hid hb
  have c0 : (w.alloc (.cells #[.int .i64 n, .int .i64 d] 106)).cell? ⟨w.heap.size, 0, none⟩ = some (.int .i64 n) := hb.cell 0
  have c1 : (w.alloc (.cells #[.int .i64 n, .int .i64 d] 106)).cell? ⟨w.heap.size, 1, none⟩ = some (.int .i64 d) := hb.cell 1
  clear hb
  by_cases hd : d < 1
  · go_enter Tryz.func93, Tryz.ntmps93
    go_wp2_with fail
    go_ret
    exact ⟨_, rfl, (Only.refl NoneOf w).alloc _⟩
  · have hd0 : 0 < d := by omega
    have hdn : decide (d < 1) = false := decide_eq_false hd
    by_cases hs : (-1000000000 < n ∧ n < 1000000000) ∧ d < 1000000000
    · obtain ⟨⟨s0, s1⟩, s2⟩ := hs
      have hsn := small_yes n s0 s1
      have hsd := small_yes d (by omega) s2
      have hqk := quick_gen n d s0 s1 hd0 s2
      have hq := fun x y W => eq_rat x y n d W
      have HSN := Lib.hid hsn
      have HSD := Lib.hid hsd
      have HQK := Lib.hid hqk
      clear hsn hsd hqk s0 s1 s2 hd0 hd
      go_enter Tryz.func93, Tryz.ntmps93
      go_wp2_with (go_at_call 119; first | ((with_reducible refine (HSN.out _).mono ?_); rintro e w' ⟨rfl, rfl⟩) | ((with_reducible refine (HSD.out _).mono ?_); rintro e w' ⟨rfl, rfl⟩))
      go_region_held3 (fun w' => w'.cell? ⟨w.heap.size, 0, none⟩ = some (.int .i64 n) ∧ w'.cell? ⟨w.heap.size, 1, none⟩ = some (.int .i64 d)) (first | assumption | exact ⟨c0, c1⟩ | (refine ⟨?_, ?_⟩ <;> assumption) | go_keep)
        (first | (go_at_call 120; (with_reducible refine (HQK.out _).mono ?_); rintro e w9 ⟨x, y, rfl, ho9⟩; have s0' := ho9.cell_some c0 (fun e => e); have s1' := ho9.cell_some c1 (fun e => e); have HO9 := Lib.hid ho9; clear ho9))
      all_goals
        go_wp2_with fail
        go_ret
        exact ⟨_, rfl, ((Only.refl NoneOf w).alloc _).trans (only_of_drew' HO9.out)⟩
    · have HNN := Lib.hid (of_any n h0 h1)
      have hdd : ∀ W, Calls Tryz.prog 122 #[.int .i64 d] W fun e w' => ∃ v, e = .returned (bigV false v) ∧ Rd w' v (dg16 d.natAbs) ∧ Only NoneOf W w' := fun W =>
        (of_any d h2 h3 W).mono fun _ _ ⟨v, he, hv, ho⟩ => ⟨v, by rw [he, decide_eq_false (by omega : ¬ d < 0)], hv, ho⟩
      have HDD := Lib.hid hdd
      have HM1 := Lib.hid (show n.natAbs ≤ 9223372036854775808 by omega)
      have HM2 := Lib.hid (show 0 < d.natAbs by omega)
      have HM3 := Lib.hid (show d.natAbs < 9223372036854775808 by omega)
      have HM4 := Lib.hid (show decide (n < 0) = false → n.natAbs < 9223372036854775808 from fun h => by have := of_decide_eq_false h; omega)
      have hq := fun x y W => eq_rat n d x y W
      have hs' : ((-1000000000 < n ∧ n < 1000000000) ∧ ¬ (-1000000000 < d ∧ d < 1000000000)) ∨ ¬ (-1000000000 < n ∧ n < 1000000000) := by omega
      rcases hs' with ⟨sn, sd⟩ | sn
      · have HSN := Lib.hid (small_yes n sn.1 sn.2)
        have HSD := Lib.hid (small_no d sd)
        clear sn sd hs hd0 hd hdd h0 h1 h2 h3
        go_enter Tryz.func93, Tryz.ntmps93
        go_wp2_with (go_at_call 119; first | ((with_reducible refine (HSN.out _).mono ?_); rintro e w' ⟨rfl, rfl⟩) | ((with_reducible refine (HSD.out _).mono ?_); rintro e w' ⟨rfl, rfl⟩))
        obtain ⟨B, eB⟩ : ∃ B, B = w.heap.size := ⟨_, rfl⟩
        obtain ⟨X, eX⟩ : ∃ X, X = w.alloc (.cells #[.int .i64 n, .int .i64 d] 106) := ⟨_, rfl⟩
        rw [← eX, ← eB] at c0 c1
        rw [← eX, ← eB]
        have HXX : Hid (Only NoneOf w X) := Lib.hid (by rw [eX]; exact (Only.refl _ _).alloc _)
        have n0 := World.new_ne X _ c0
        have n1 := World.new_ne X _ c1
        clear eX eB HB
        go_region_held3 (fun w' => w'.cell? ⟨B, 0, none⟩ = some (.int .i64 n) ∧ w'.cell? ⟨B, 1, none⟩ = some (.int .i64 d)) (first | assumption | exact ⟨c0, c1⟩ | (refine ⟨?_, ?_⟩ <;> assumption) | go_keep)
          (first
            | (go_at_call 122; (with_reducible refine (HNN.out _).mono ?_); rintro e w2 ⟨v2, rfl, hv2, ho2⟩; have HO2 : Hid (Only NoneOf X w2) := Lib.hid (by first | exact (Only.refl NoneOf X).drew.trans ho2 | exact ((Only.refl NoneOf X).alloc _).drew.trans ho2); have s0 := HO2.out.cell_some c0 (fun e => e); have s1 := HO2.out.cell_some c1 (fun e => e); have n2 := World.new_ne w2 _ s0; have n3 := World.new_ne w2 _ s1; have HV2 := Lib.hid hv2; (try (have k2 := new_rat (only_of_drew' ho2); have r0 := k2.cell 0; have r1 := k2.cell 1; have f0 := k2.frozen 0; have f1 := k2.frozen 1; have K2 := Lib.hid k2; clear k2)); clear hv2 ho2)
            | (go_at_call 122; (with_reducible refine (HDD.out _).mono ?_); rintro e w3 ⟨v3, rfl, hv3, ho3⟩; have HO3 : Hid (Only NoneOf X w3) := Lib.hid (by first | exact HO2.out.trans ho3 | exact (HO2.out.alloc _).trans ho3); have s2 := HO3.out.cell_some c0 (fun e => e); have s3 := HO3.out.cell_some c1 (fun e => e); have n4 := World.new_ne w3 _ s2; have n5 := World.new_ne w3 _ s3; have HV3 := Lib.hid hv3; have HV23 := Lib.hid (HV2.out.only (by first | exact ho3 | exact ((Only.refl NoneOf w2).alloc _).trans ho3)); (first | (have K3 := Lib.hid (K2.out.only ho3 (fun e => e)); have r2 := K3.out.cell 0; have r3 := K3.out.cell 1; have f2 := K3.out.frozen 0; have f3 := K3.out.frozen 1) | (have K3 := Lib.hid (new_rat ho3); have r2 := K3.out.cell 0; have r3 := K3.out.cell 1; have f2 := K3.out.frozen 0; have f3 := K3.out.frozen 1) | skip); clear hv3 ho3)
            | (go_at_call 121; (with_reducible refine (lowest_gen (decide (n < 0)) n.natAbs d.natAbs HM1.out HM2.out HM3.out HM4.out (by first | exact HV23.out | exact HV23.out.only ((Only.refl NoneOf w3).alloc _)) (by first | exact HV3.out | exact HV3.out.only ((Only.refl NoneOf w3).alloc _))).mono ?_); rintro e w4 ⟨x4, y4, rfl, ho4⟩; have HO4 : Hid (Only NoneOf X w4) := Lib.hid (by first | exact HO3.out.trans ho4 | exact (HO3.out.alloc _).trans ho4); have s4 := HO4.out.cell_some c0 (fun e => e); have s5 := HO4.out.cell_some c1 (fun e => e); have n6 := World.new_ne w4 _ s4; have n7 := World.new_ne w4 _ s5; (first | (have K4 := Lib.hid (K3.out.only ho4 (fun e => e)); have r4 := K4.out.cell 0; have r5 := K4.out.cell 1; have f4 := K4.out.frozen 0; have f5 := K4.out.frozen 1) | (have K4 := Lib.hid (new_rat ho4); have r4 := K4.out.cell 0; have r5 := K4.out.cell 1; have f4 := K4.out.frozen 0; have f5 := K4.out.frozen 1) | skip); clear ho4))
        all_goals
          go_wp2_with fail
          have z1 := HXX.out.size
          have z2 := HO2.out.size
          have z3 := HO3.out.size
          have z4 := HO4.out.size
          go_ret
          first
            | exact ⟨_, rfl, (HXX.out.trans HO4.out).alloc _⟩
            | exact ⟨_, rfl, only_set2 (HXX.out.trans HO4.out) (by omega) _ _⟩
      · have HSN := Lib.hid (small_no n sn)
        clear sn hs hd0 hd hdd h0 h1 h2 h3
        go_enter Tryz.func93, Tryz.ntmps93
        go_wp2_with (go_at_call 119; first | ((with_reducible refine (HSN.out _).mono ?_); rintro e w' ⟨rfl, rfl⟩))
        obtain ⟨B, eB⟩ : ∃ B, B = w.heap.size := ⟨_, rfl⟩
        obtain ⟨X, eX⟩ : ∃ X, X = w.alloc (.cells #[.int .i64 n, .int .i64 d] 106) := ⟨_, rfl⟩
        rw [← eX, ← eB] at c0 c1
        rw [← eX, ← eB]
        have HXX : Hid (Only NoneOf w X) := Lib.hid (by rw [eX]; exact (Only.refl _ _).alloc _)
        have n0 := World.new_ne X _ c0
        have n1 := World.new_ne X _ c1
        clear eX eB HB
        go_region_held3 (fun w' => w'.cell? ⟨B, 0, none⟩ = some (.int .i64 n) ∧ w'.cell? ⟨B, 1, none⟩ = some (.int .i64 d)) (first | assumption | exact ⟨c0, c1⟩ | (refine ⟨?_, ?_⟩ <;> assumption) | go_keep)
          (first
            | (go_at_call 122; (with_reducible refine (HNN.out _).mono ?_); rintro e w2 ⟨v2, rfl, hv2, ho2⟩; have HO2 : Hid (Only NoneOf X w2) := Lib.hid (by first | exact (Only.refl NoneOf X).drew.trans ho2 | exact ((Only.refl NoneOf X).alloc _).drew.trans ho2); have s0 := HO2.out.cell_some c0 (fun e => e); have s1 := HO2.out.cell_some c1 (fun e => e); have n2 := World.new_ne w2 _ s0; have n3 := World.new_ne w2 _ s1; have HV2 := Lib.hid hv2; (try (have k2 := new_rat (only_of_drew' ho2); have r0 := k2.cell 0; have r1 := k2.cell 1; have f0 := k2.frozen 0; have f1 := k2.frozen 1; have K2 := Lib.hid k2; clear k2)); clear hv2 ho2)
            | (go_at_call 122; (with_reducible refine (HDD.out _).mono ?_); rintro e w3 ⟨v3, rfl, hv3, ho3⟩; have HO3 : Hid (Only NoneOf X w3) := Lib.hid (by first | exact HO2.out.trans ho3 | exact (HO2.out.alloc _).trans ho3); have s2 := HO3.out.cell_some c0 (fun e => e); have s3 := HO3.out.cell_some c1 (fun e => e); have n4 := World.new_ne w3 _ s2; have n5 := World.new_ne w3 _ s3; have HV3 := Lib.hid hv3; have HV23 := Lib.hid (HV2.out.only (by first | exact ho3 | exact ((Only.refl NoneOf w2).alloc _).trans ho3)); (first | (have K3 := Lib.hid (K2.out.only ho3 (fun e => e)); have r2 := K3.out.cell 0; have r3 := K3.out.cell 1; have f2 := K3.out.frozen 0; have f3 := K3.out.frozen 1) | (have K3 := Lib.hid (new_rat ho3); have r2 := K3.out.cell 0; have r3 := K3.out.cell 1; have f2 := K3.out.frozen 0; have f3 := K3.out.frozen 1) | skip); clear hv3 ho3)
            | (go_at_call 121; (with_reducible refine (lowest_gen (decide (n < 0)) n.natAbs d.natAbs HM1.out HM2.out HM3.out HM4.out (by first | exact HV23.out | exact HV23.out.only ((Only.refl NoneOf w3).alloc _)) (by first | exact HV3.out | exact HV3.out.only ((Only.refl NoneOf w3).alloc _))).mono ?_); rintro e w4 ⟨x4, y4, rfl, ho4⟩; have HO4 : Hid (Only NoneOf X w4) := Lib.hid (by first | exact HO3.out.trans ho4 | exact (HO3.out.alloc _).trans ho4); have s4 := HO4.out.cell_some c0 (fun e => e); have s5 := HO4.out.cell_some c1 (fun e => e); have n6 := World.new_ne w4 _ s4; have n7 := World.new_ne w4 _ s5; (first | (have K4 := Lib.hid (K3.out.only ho4 (fun e => e)); have r4 := K4.out.cell 0; have r5 := K4.out.cell 1; have f4 := K4.out.frozen 0; have f5 := K4.out.frozen 1) | (have K4 := Lib.hid (new_rat ho4); have r4 := K4.out.cell 0; have r5 := K4.out.cell 1; have f4 := K4.out.frozen 0; have f5 := K4.out.frozen 1) | skip); clear ho4))
        all_goals
          go_wp2_with fail
          have z1 := HXX.out.size
          have z2 := HO2.out.size
          have z3 := HO3.out.size
          have z4 := HO4.out.size
          go_ret
          first
            | exact ⟨_, rfl, (HXX.out.trans HO4.out).alloc _⟩
            | exact ⟨_, rfl, only_set2 (HXX.out.trans HO4.out) (by omega) _ _⟩
end Go.Proofs.YtclpebgjmgfigaaGreatDoor
namespace Go.Proofs.YtclpebgjmgfigaaGreatDoor
open Go.RowKit
theorem short_one {t : ByteArray} (h : t.size ≤ 21) : ¬ 9223372036854775807 < t.size + 1 := by omega
theorem short_two {t u : ByteArray} (h : t.size ≤ 21) (k : u.size ≤ 21) : ¬ 9223372036854775807 < t.size + 1 + u.size := by omega
theorem decimal_short (n : Int) (h0 : -9223372036854775808 ≤ n) (h1 : n ≤ 9223372036854775807) (w : World) : Calls Tryz.prog 94 #[.int .i64 n] w fun e w' => ∃ t : ByteArray, e = .returned (.string t) ∧ t.size ≤ 21 ∧ Only NoneOf w w' :=
  (decimal_any n h0 h1 w).mono fun _ _ ⟨t, he, ht, ho⟩ => ⟨t, he, by have := itoa_len h0 h1; rw [← ht, ← size_list] at this; omega, ho⟩
set_option maxRecDepth 100000 in
set_option maxHeartbeats 400000 in
theorem text_gen (n d : Int) (h0 : -9223372036854775808 ≤ n) (h1 : n ≤ 9223372036854775807) (h2 : -9223372036854775808 ≤ d) (h3 : d ≤ 9223372036854775807) (w : World) :
    Calls Tryz.prog 58 #[ratV n d] w fun e w' => ∃ t : ByteArray, e = .returned (.string t) ∧ Only NoneOf w w' := by
  obtain ⟨X, eX⟩ : ∃ X, X = w.alloc (.cells #[.int .i64 n, .int .i64 d] 106) := ⟨_, rfl⟩
  obtain ⟨B, eB⟩ : ∃ B, B = w.heap.size := ⟨_, rfl⟩
  have hb := Blk.new w 106 #[.int .i64 n, .int .i64 d]
  rw [← eX, ← eB] at hb
  have HXX : Hid (Only NoneOf w X) := Lib.hid (by rw [eX]; exact (Only.refl _ _).alloc _)
  have HR := Lib.hid (right_gen n d h0 h1 h2 h3 X)
  have HD := Lib.hid (decimal_short n h0 h1)
  have HD2 := Lib.hid (decimal_short d h2 h3)
  have HB := Lib.hid hb
  have c0 : X.cell? ⟨B, 0, none⟩ = some (.int .i64 n) := hb.cell 0
  have c1 : X.cell? ⟨B, 1, none⟩ = some (.int .i64 d) := hb.cell 1
  rw [eX, eB] at c0 c1
  clear hb h0 h1 h2 h3
  go_enter Tryz.func58, Tryz.ntmps58
  go_wp2_with fail
  rw [← eX, ← eB]
  clear c0 c1 eX eB
  refine HR.out.mono ?_
  rintro e w1 ⟨b, rfl, ho1⟩
  have c0 : w1.cell? ⟨B, 0, none⟩ = some (.int .i64 n) := (HB.out.only ho1 (fun e => e)).cell 0
  have c1 : w1.cell? ⟨B, 1, none⟩ = some (.int .i64 d) := (HB.out.only ho1 (fun e => e)).cell 1
  have HO1 := Lib.hid (HXX.out.trans ho1)
  clear ho1
  cases b with
  | false =>
    go_wp2_with fail
    go_ret
    exact ⟨_, rfl, HO1.out⟩
  | true =>
    by_cases hd : d = 1
    · subst hd
      go_wp2_with fail
      refine (HD.out _).mono ?_
      rintro e w2 ⟨t, rfl, ht, ho2⟩
      have HO2 := Lib.hid (HO1.out.trans ho2)
      clear ht ho2 c0 c1
      go_wp2_with fail
      go_ret
      exact ⟨_, rfl, HO2.out⟩
    · have hdb : (d == 1) = false := by simpa using hd
      clear hd
      go_wp2_with fail
      go_region_held3 (fun w' => w'.cell? ⟨B, 0, none⟩ = some (.int .i64 n) ∧ w'.cell? ⟨B, 1, none⟩ = some (.int .i64 d)) (first | assumption | exact ⟨c0, c1⟩ | (refine ⟨?_, ?_⟩ <;> assumption) | go_keep)
        (first
          | (go_at_call 94; (with_reducible refine (HD.out _).mono ?_); rintro e w2 ⟨t, rfl, ht, ho2⟩; have HO2 : Hid (Only NoneOf w1 w2) := Lib.hid (by exact (Only.refl NoneOf w1).drew.trans ho2); have s0 := HO2.out.cell_some c0 (fun e => e); have s1 := HO2.out.cell_some c1 (fun e => e); have z1 : ¬ 9223372036854775807 < t.size + 1 := short_one ht; clear ho2)
          | (go_at_call 94; (with_reducible refine (HD2.out _).mono ?_); rintro e w3 ⟨u, rfl, hu, ho3⟩; have HO3 : Hid (Only NoneOf w1 w3) := Lib.hid (by exact HO2.out.trans ho3); have s2 := HO3.out.cell_some c0 (fun e => e); have s3 := HO3.out.cell_some c1 (fun e => e); have z2 : ¬ 9223372036854775807 < t.size + 1 + u.size := short_two ht hu; clear ho3))
      all_goals
        go_wp2_with fail
        go_ret
        exact ⟨_, rfl, HO1.out.trans HO3.out⟩
end Go.Proofs.YtclpebgjmgfigaaGreatDoor
