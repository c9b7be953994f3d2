/- What is proved here: coefficients by the reference are those of the program; lists of integers are compared; the laws of coefficients return true. Conditions: the table of powers of ten reads as its initialiser lays it; the seed is short. -/
import Derived.Test.YtdgapomeenigbaaDoorRefJ
import Derived.Test.YtdgapomeenigbaaDoorSanity
import Derived.Deep.AppendLies
namespace Go.Proofs.YtdgapomeenigbaaDoor
open Go.RowKit Go.Shelf
/-- A slice of k integers that reads as these. -/
def RdI (w : World) (A : Option Addr) (k : Nat) (f : Nat → Int) : Prop := ∀ i, i < k → ∃ g, A = some ⟨g, 0, none⟩ ∧ w.cell? ⟨g, i, none⟩ = some (.int .i64 (f i))
theorem RdI.only {w w' : World} {A : Option Addr} {k : Nat} {f : Nat → Int} (h : RdI w A k f) (ho : Only NoneOf w w') : RdI w' A k f := fun i hi => by
  obtain ⟨g, h1, h2⟩ := h i hi
  exact ⟨g, h1, ho.cell_some h2 (fun e => e)⟩
/-- What a call for coefficients gives, for any number below fourteen. -/
def RetC (l : List UInt8) (k : Nat) (w : World) (e : Ending) (w' : World) : Prop :=
  ∃ A c, e = .returned (.slice A k c) ∧ k ≤ c ∧ Only NoneOf w w' ∧ RdI w' A k (coefN l)
theorem coefs_all (s : ByteArray) (hs : s.size ≤ 17592186044416) (k : Nat) (hk : k ≤ 13) (w : World) (ht : Tab w) :
    Calls Tryd.prog 19 #[.string s, .int .i64 (k : Int)] w (RetC s.data.toList k w) := by
  rcases Nat.eq_zero_or_pos k with h0 | h0
  · subst h0
    exact (coefs_none s 0 (.inl (by omega)) w).mono fun e w' ⟨he, hw⟩ => ⟨none, 0, he, Nat.le_refl _, by rw [hw]; exact Only.refl _ _, fun i hi => absurd hi (by omega)⟩
  · refine (coefs_any s hs k h0 hk w ht).mono fun e w' ⟨g, c, he, _, hc, hb, ho⟩ => ⟨some ⟨g, 0, none⟩, c, he, hc, ho, fun i hi => ⟨g, rfl, ?_⟩⟩
    rw [hb.cell, List.getElem?_toArray, List.getElem?_map, coefL, List.getElem?_map, List.getElem?_range hi]
    rfl
theorem rcoefs_none (s : ByteArray) (k : Int) (hk : k < 1 ∨ 13 < k) (w : World) :
    Calls Tryd.prog 20 #[.string s, .int .i64 k] w fun e w' => e = .returned (.slice none 0 0) ∧ w' = w := by
  by_cases h : k < 1
  · have h2 : ¬ 0 < k := by omega
    clear hk
    go_enter Tryd.func20, Tryd.ntmps20
    go_wp2_with fail
    go_loop [5, 6] (fun a b => a = .slice none 0 0 ∧ b = .int .i64 0) (fun _ _ => 0)
    case atStart => exact ⟨rfl, rfl⟩
    case round =>
      obtain ⟨rfl, rfl⟩ := hrel
      go_wp2_with fail
      go_ret
      exact ⟨rfl, rfl⟩
  · have h2 : 0 < k := by omega
    have h3 : ¬ k ≤ 13 := by omega
    have h4 : decide (k ≤ 13) = false := decide_eq_false h3
    clear hk
    go_enter Tryd.func20, Tryd.ntmps20
    go_wp2_with fail
    go_loop [5, 6] (fun a b => a = .slice none 0 0 ∧ b = .int .i64 0) (fun _ _ => 0)
    case atStart => exact ⟨rfl, rfl⟩
    case round =>
      obtain ⟨rfl, rfl⟩ := hrel
      go_wp2_with fail
      go_ret
      exact ⟨rfl, rfl⟩
theorem coefL_snoc (l : List UInt8) (i : Nat) : (coefL l (i + 1)).map iv = (coefL l i).map iv ++ [iv (coefN l i)] := by
  rw [coefL, coefL, List.range_succ, List.map_append, List.map_append]
  rfl
set_option maxRecDepth 100000 in
set_option maxHeartbeats 400000 in
theorem rcoefs_any (s : ByteArray) (hs : s.size ≤ 17592186044416) (k : Nat) (hk : k ≤ 13) (w : World) :
    Calls Tryd.prog 20 #[.string s, .int .i64 (k : Int)] w (RetC s.data.toList k w) := by
  obtain ⟨i0, hi0, hz0, hz1, hz2⟩ := info_parts info_i64
  have hk13 : (k : Int) ≤ 13 := by omega
  go_enter Tryd.func20, Tryd.ntmps20
  go_wp2_with fail
  go_loopw [5, 6] (fun a v wr => ∃ i : Nat, v = .int .i64 i ∧ i ≤ k ∧ wr.ownsRow w.heap.size 3 1 a i ((coefL s.data.toList i).map iv) ∧ Only NoneOf w wr) (fun _ v _ => k - (intOf v).toNat)
  case atStart => exact ⟨0, rfl, by omega, World.ownsRow_nil _ _ _ _, Only.refl _ _⟩
  case round =>
    obtain ⟨i, rfl, hi, hown, ho⟩ := hrel
    obtain ⟨A3, c3, e3, hc3, hc3m⟩ := own_form' hown
    unfold maxLen at hc3m
    subst e3
    by_cases hlt : i < k
    · have HOWN := Lib.hid hown
      have HO := Lib.hid ho
      have ik : (i : Int) < (k : Int) := by omega
      have i0' : 0 ≤ (i : Int) := by omega
      have HLEN := Lib.hid (itoa_len (n := (i : Int)) (by omega) (by omega))
      clear hown ho
      go_wp2_with fail
      refine (number14_any (i : Int) (by omega) (by omega) _).mono ?_
      rintro e w1 ⟨t, rfl, htl, ho1⟩
      have hts : t.size ≤ 21 := by rw [size_list, htl]; exact HLEN.out
      have HTL := Lib.hid htl
      have HO1 := Lib.hid ho1
      clear htl ho1
      go_wp2_with fail
      refine (rhash_any _ 1152921504606845789 (coefS_fits s t hs hts) (by omega) (by omega) _).mono ?_
      rintro e w2 ⟨rfl, ho2⟩
      rw [coefS_list s t i HTL.out]
      obtain ⟨c, ec⟩ : ∃ c, c = hashF 1152921504606845789 (coefS s.data.toList i) := ⟨_, rfl⟩
      rw [← ec]
      have EC := Lib.hid ec
      have hN := HO.out.trans (HO1.out.trans ho2)
      have hown2 := own_only HOWN.out (HO1.out.trans ho2) (fun _ _ e => e)
      have hsz := hN.size
      have HN := Lib.hid hN
      have HOW2 := Lib.hid hown2
      clear ec ho2 hN hown2
      go_wp2_with (at_builtin; refine wpList_append_own _ rfl _ _ 36 rfl w.heap.size 3 i0 _ 1 8 Tryd.underlying36 hi0 hz0 hz1 hz2 rfl (by decide) (.slice A3 i c3) i _ rfl (by exact (HOW2.out.alloc _)) ⟨w2.heap.size, 0, none⟩ 1 1 [.int .i64 c] rfl rfl (World.news_of_block (cs := #[.int .i64 c]) (t := 3) (fr := (0, 0)) (by simpa using heap_alloc_new w2 _)) (by simp [Value.oneCell']) (by rw [maxLen_val]; omega) (by omega) (by simp; omega) ?_; intro v' w3 hown3 hgrow _)
      go_roundw
      case rel =>
        refine ⟨i + 1, by go_num, by omega, ?_, (HN.out.alloc _).grown hgrow (fun j e => .inr (own_ge HOW2.out e).1)⟩
        rw [coefL_snoc]
        unfold coefN q0
        rw [← EC.out]
        exact hown3
      case measure => simp [intOf]; omega
    · obtain rfl : i = k := by omega
      have HOWN := Lib.hid hown
      have HO := Lib.hid ho
      clear hown ho
      go_wp2_with fail
      go_ret
      refine ⟨A3, c3, rfl, hc3, HO.out, fun j hj => ?_⟩
      obtain ⟨g, cap, hv, _, _, _⟩ := own_form HOWN.out (by omega)
      simp only [Value.slice.injEq] at hv
      obtain ⟨rfl, _, rfl⟩ := hv
      refine ⟨g, rfl, ?_⟩
      have := HOWN.out.cells (g := g) rfl j (iv (coefN s.data.toList j)) (by rw [List.getElem?_map, coefL, List.getElem?_map, List.getElem?_range hj]; rfl)
      rw [Addr.add_mid, Nat.zero_add] at this
      exact this
set_option maxHeartbeats 400000 in
theorem ints_yes {A B : Option Addr} {k ca cb : Nat} {f : Nat → Int} {w : World} (hk : k ≤ 1000000) (ha : RdI w A k f) (hb : RdI w B k f) :
    Calls Tryd.prog 18 #[.slice A k ca, .slice B k cb] w fun e w' => e = .returned (.bool true) ∧ ∃ q, w' = w.drewN q := by
  have HA := Lib.hid ha
  have HB := Lib.hid hb
  clear ha hb
  go_enter Tryd.func18, Tryd.ntmps18
  go_wp2_with fail
  go_loopw [5] (fun v wr => ∃ i : Nat, v = .int .i64 i ∧ i ≤ k ∧ ∃ q, wr = w.drewN q) (fun v _ => k - (intOf v).toNat)
  case atStart => exact ⟨0, rfl, by omega, 0, rfl⟩
  case round =>
    obtain ⟨i, rfl, hi, q, rfl⟩ := hrel
    by_cases hlt : i < k
    · obtain ⟨g, rfl, hc⟩ := HA.out i hlt
      obtain ⟨g', rfl, hc'⟩ := HB.out i hlt
      have ik : (i : Int) < (k : Int) := by omega
      have i0 : 0 ≤ (i : Int) := by omega
      go_wp2_with fail
      go_region
      go_wp2_with fail
      go_roundw
      case rel => exact ⟨i + 1, by go_num, by omega, q + 1, rfl⟩
      case measure => simp [intOf]; omega
    · have ik : ¬ (i : Int) < (k : Int) := by omega
      go_wp2_with fail
      go_ret
      exact ⟨rfl, q, rfl⟩
def cN (need : Int) : Nat := if 1 ≤ need ∧ need ≤ 13 then need.toNat else 0
theorem cN_le (need : Int) : cN need ≤ 13 := by unfold cN; split <;> omega
theorem coefs_every (s : ByteArray) (hs : s.size ≤ 17592186044416) (need : Int) (w : World) (ht : Tab w) :
    Calls Tryd.prog 19 #[.string s, .int .i64 need] w (RetC s.data.toList (cN need) w) := by
  by_cases h : 1 ≤ need ∧ need ≤ 13
  · have e : cN need = need.toNat := by unfold cN; rw [if_pos h]
    rw [e]
    have h2 := coefs_all s hs need.toNat (by omega) w ht
    rwa [show ((need.toNat : Nat) : Int) = need by omega] at h2
  · have e : cN need = 0 := by unfold cN; rw [if_neg h]
    rw [e]
    exact (coefs_none s need (by omega) w).mono fun e w' ⟨he, hw⟩ => ⟨none, 0, he, Nat.le_refl _, by rw [hw]; exact Only.refl _ _, fun i hi => absurd hi (by omega)⟩
theorem rcoefs_every (s : ByteArray) (hs : s.size ≤ 17592186044416) (need : Int) (w : World) :
    Calls Tryd.prog 20 #[.string s, .int .i64 need] w (RetC s.data.toList (cN need) w) := by
  by_cases h : 1 ≤ need ∧ need ≤ 13
  · have e : cN need = need.toNat := by unfold cN; rw [if_pos h]
    rw [e]
    have h2 := rcoefs_any s hs need.toNat (by omega) w
    rwa [show ((need.toNat : Nat) : Int) = need by omega] at h2
  · have e : cN need = 0 := by unfold cN; rw [if_neg h]
    rw [e]
    exact (rcoefs_none s need (by omega) w).mono fun e w' ⟨he, hw⟩ => ⟨none, 0, he, Nat.le_refl _, by rw [hw]; exact Only.refl _ _, fun i hi => absurd hi (by omega)⟩
set_option maxRecDepth 100000 in
set_option maxHeartbeats 400000 in
theorem scoefs_any (s : ByteArray) (need : Int) (_h0 : -9223372036854775808 ≤ need) (_h1 : need ≤ 9223372036854775807) (hs : s.size ≤ 17592186044416) (w : World) (ht : Tab w) :
    Calls Tryd.prog 9 #[.string s, .int .i64 need] w fun e w' => e = .returned (.bool true) ∧ Only NoneOf w w' := by
  have HT := Lib.hid ht
  clear ht
  go_enter Tryd.func9, Tryd.ntmps9
  go_wp2_with fail
  refine (sanity_any w HT.out).mono ?_
  rintro e w1 ⟨rfl, ho1⟩
  have HO1 := Lib.hid ho1
  clear ho1
  go_wp2_with fail
  refine (coefs_every s hs need w1 (HT.out.none HO1.out)).mono ?_
  rintro e w2 ⟨A, ca, rfl, hca, ho2, hrA⟩
  have HO2 := Lib.hid (HO1.out.trans ho2)
  have HRA := Lib.hid hrA
  clear ho2 hrA
  go_wp2_with fail
  refine (rcoefs_every s hs need w2).mono ?_
  rintro e w3 ⟨B, cb, rfl, hcb, ho3, hrB⟩
  have HO3 := Lib.hid (HO2.out.trans ho3)
  have HRA3 := Lib.hid (HRA.out.only ho3)
  have HRB := Lib.hid hrB
  clear ho3 hrB
  go_wp2_with fail
  refine (ints_yes (Nat.le_trans (cN_le need) (by omega)) HRA3.out HRB.out).mono ?_
  rintro e w4 ⟨rfl, q, hq⟩
  have HO4 : Hid (Only NoneOf w w4) := Lib.hid (by rw [hq]; exact HO3.out.drewN q)
  clear hq HRA HRA3 HRB hca hcb
  go_wp2_with fail
  refine (coefs_every s hs _ w4 (HT.out.none HO4.out)).mono ?_
  rintro e w5 ⟨A, ca, rfl, hca, ho5, hrA⟩
  have HO5 := Lib.hid (HO4.out.trans ho5)
  have HRA := Lib.hid hrA
  clear ho5 hrA
  go_wp2_with fail
  refine (rcoefs_every s hs _ w5).mono ?_
  rintro e w6 ⟨B, cb, rfl, hcb, ho6, hrB⟩
  have HO6 := Lib.hid (HO5.out.trans ho6)
  have HRA3 := Lib.hid (HRA.out.only ho6)
  have HRB := Lib.hid hrB
  clear ho6 hrB
  go_wp2_with fail
  refine (ints_yes (Nat.le_trans (cN_le _) (by omega)) HRA3.out HRB.out).mono ?_
  rintro e w7 ⟨rfl, q7, hq7⟩
  have HO7 : Hid (Only NoneOf w w7) := Lib.hid (by rw [hq7]; exact HO6.out.drewN q7)
  clear hq7
  go_wp2_with fail
  go_ret
  exact ⟨rfl, HO7.out⟩
set_option maxRecDepth 100000 in
set_option maxHeartbeats 400000 in
theorem prefix_any (s : ByteArray) (n m : Nat) (hs : s.size ≤ 17592186044416) (hn : n < 256) (hm : m < 256) (w : World) (ht : Tab w) :
    Calls Tryd.prog 10 #[.string s, .int .u8 (n : Int), .int .u8 (m : Int)] w fun e w' => e = .returned (.bool true) ∧ Only NoneOf w w' := by
  have HT := Lib.hid ht
  obtain ⟨a, ea⟩ : ∃ a, a = n % 14 := ⟨_, rfl⟩
  obtain ⟨b, eb⟩ : ∃ b, b = m % 14 := ⟨_, rfl⟩
  have ha : a < 14 := by omega
  have hb : b < 14 := by omega
  have e1 : (n : Int) % 14 = (a : Int) := by omega
  have e2 : (m : Int) % 14 = (b : Int) := by omega
  have wa : IntKind.i64.wrap (a : Int) = (a : Int) := IntWalk.i64_in _ (by omega)
  have wb : IntKind.i64.wrap (b : Int) = (b : Int) := IntWalk.i64_in _ (by omega)
  have na : IntKind.i64.wrap (-(a : Int)) = -(a : Int) := IntWalk.i64_in _ (by omega)
  have wc : IntKind.i64.wrap (14 + (a : Int)) = 14 + (a : Int) := IntWalk.i64_in _ (by omega)
  clear ht ea eb
  go_enter Tryd.func10, Tryd.ntmps10
  go_wp2_with fail
  refine (sanity_any w HT.out).mono ?_
  rintro e w1 ⟨rfl, ho1⟩
  have HO1 := Lib.hid ho1
  clear ho1
  go_wp2_with fail
  refine (coefs_all s hs a (by omega) w1 (HT.out.none HO1.out)).mono ?_
  rintro e w2 ⟨A, ca, rfl, hca, ho2, hrA⟩
  have HO2 := Lib.hid (HO1.out.trans ho2)
  have HRA := Lib.hid hrA
  clear ho2 hrA
  go_wp2_with fail
  refine (coefs_all s hs b (by omega) w2 (HT.out.none HO2.out)).mono ?_
  rintro e w3 ⟨B, cb, rfl, hcb, ho3, hrB⟩
  have HO3 := Lib.hid (HO2.out.trans ho3)
  have HRA3 := Lib.hid (HRA.out.only ho3)
  have HRB := Lib.hid hrB
  clear ho3 hrB
  go_wp2_with fail
  refine (coefs_none s (14 + (a : Int)) (.inr (by omega)) w3).mono ?_
  rintro e w4 ⟨rfl, hw4⟩
  rw [hw4]
  clear hw4
  go_wp2_with fail
  refine (coefs_none s (-(a : Int)) (.inl (by omega)) w3).mono ?_
  rintro e w4 ⟨rfl, hw4⟩
  rw [hw4]
  clear hw4
  go_wp2_with fail
  go_loopw [12] (fun v wr => ∃ i : Nat, v = .int .i64 i ∧ i ≤ min a b ∧ ∃ q, wr = w3.drewN q) (fun v _ => min a b - (intOf v).toNat)
  case atStart => exact ⟨0, rfl, by omega, 0, rfl⟩
  case round =>
    obtain ⟨i, rfl, hi, q, rfl⟩ := hrel
    by_cases hlt : i < min a b
    · obtain ⟨g, rfl, hc⟩ := HRA3.out i (by omega)
      obtain ⟨g', rfl, hc'⟩ := HRB.out i (by omega)
      have hin : 0 ≤ coefN s.data.toList i ∧ coefN s.data.toList i < 1152921504606845789 := accF_in _ (by decide) _
      obtain ⟨c, ec⟩ : ∃ c, c = coefN s.data.toList i := ⟨_, rfl⟩
      rw [← ec] at hc hc' hin
      obtain ⟨c0, c1⟩ := hin
      have ik : (i : Int) < min (a : Int) (b : Int) := by omega
      have i0 : 0 ≤ (i : Int) := by omega
      have ia : (i : Int) < (a : Int) := by omega
      have ib : (i : Int) < (b : Int) := by omega
      have t1 : decide (c < 0) = false := decide_eq_false (by omega)
      have t2 : decide (1152921504606845789 ≤ c) = false := decide_eq_false (by omega)
      clear ec c0 c1
      go_wp2_with fail
      go_region
      go_wp2_with fail
      go_roundw
      case rel => exact ⟨i + 1, by go_num, by omega, q + 1, rfl⟩
      case measure => simp [intOf]; omega
    · have ik : ¬ (i : Int) < min (a : Int) (b : Int) := by omega
      go_wp2_with fail
      go_ret
      exact ⟨rfl, HO3.out.drewN q⟩
end Go.Proofs.YtdgapomeenigbaaDoor
