/- What is proved here: several parts. members and accepted signatures, by the program. Condition: the texts are short. · a signature is accepted as the group says, by the program. Condition: the texts are short. · members and accepted signatures, by the reference. Condition: the texts are short. · a signature's text by the program. Condition: the library's table reads as its initialiser lays it. · decimal texts by the reference. Condition: the numbers are ints. · a signature's text by the reference. Condition: the numbers are ints. -/
import Derived.Test.YtgalfohobgjelaaGreatDoorGr02
import Derived.Test.YtgalfohobgjelaaGreatDoorGr07
import Derived.Test.YtgalfohobgjelaaGreatDoorGr08
import Derived.Deep.RegionHeld3
import Derived.WalkSmall
import Derived.ChangeAgain
namespace Go.Proofs.YtgalfohobgjelaaGreatDoor
open Go.RowKit Go.Shelf
open Classical in
noncomputable def memB (a : Int) : Bool := decide (memI a)
open Classical in
noncomputable def goodB (key : Int) (text : List UInt8) (r s : Int) : Bool := decide (Good key text r s)
theorem memB_true {a : Int} : memB a = true ↔ memI a := by unfold memB; simp
theorem goodB_true {key : Int} {text : List UInt8} {r s : Int} : goodB key text r s = true ↔ Good key text r s := by unfold goodB; simp
theorem memB_of {a : Int} (h0 : 0 < a) (h1 : a < 2305843009213691579) : memB a = decide (powI a Q0 2305843009213691579 = 1) := by
  obtain ⟨k, rfl⟩ : ∃ k : Nat, a = (k : Int) := ⟨a.toNat, by omega⟩
  rw [powI_pw, Bool.eq_iff_iff, memB_true, decide_eq_true_iff]
  constructor
  · rintro ⟨k', e, h⟩
    obtain rfl : k = k' := by omega
    exact h.2.2
  · intro h
    exact ⟨k, rfl, by omega, by rw [P0_val]; omega, h⟩
theorem memB_low {a : Int} (h : ¬ 0 < a) : memB a = false := by
  rw [Bool.eq_false_iff, Ne, memB_true]
  rintro ⟨k, rfl, hk, _⟩
  omega
theorem memB_high {a : Int} (h : ¬ a < 2305843009213691579) : memB a = false := by
  rw [Bool.eq_false_iff, Ne, memB_true]
  rintro ⟨k, rfl, _, hk, _⟩
  rw [P0_val] at hk
  omega
theorem memB_in {a : Int} (h : memB a = true) : 0 < a ∧ a < 2305843009213691579 := by
  obtain ⟨k, rfl, hk0, hk, _⟩ := memB_true.1 h
  rw [P0_val] at hk
  omega
set_option maxRecDepth 100000 in
set_option maxHeartbeats 400000 in
theorem fmember_any (a : Int) (h0 : -9223372036854775808 ≤ a) (h1 : a ≤ 9223372036854775807) (w : World) : Calls Tryz.prog 146 #[.int .i64 a] w fun e w' => e = .returned (.bool (memB a)) ∧ Only NoneOf w w' := by
  by_cases p0 : 0 < a
  · by_cases p1 : a < 2305843009213691579
    · have hp := fpow_any a Q0 2305843009213691579 h0 h1 (by rw [Q0_val]; omega) (by omega) (by omega) w
      have hm := memB_of p0 p1
      rw [Q0_int] at hp
      obtain ⟨v, ev⟩ : ∃ v, v = powI a Q0 2305843009213691579 := ⟨_, rfl⟩
      rw [← ev] at hp hm
      rw [hm]
      have hv : (decide ((v : Int) = 1)) = decide (v = 1) := by rw [decide_eq_decide]; omega
      have HP := Lib.hid hp
      have HV := Lib.hid hv
      clear hp hm ev hv h0 h1
      go_enter Tryz.func146, Tryz.ntmps146
      go_wp2_with fail
      refine HP.out.mono ?_
      rintro e w1 ⟨rfl, ho⟩
      have HO := Lib.hid ho
      clear ho
      by_cases hv1 : v = 1
      · subst hv1
        go_wp2_with fail
        go_ret
        exact ⟨rfl, HO.out⟩
      · have hv2 : ¬ (v : Int) = 1 := by omega
        go_wp2_with fail
        go_ret
        exact ⟨by simp [hv1]; omega, HO.out⟩
    · rw [memB_high p1]
      go_enter Tryz.func146, Tryz.ntmps146
      go_wp2_with fail
      go_ret
      exact ⟨rfl, Only.refl _ _⟩
  · rw [memB_low p0]
    go_enter Tryz.func146, Tryz.ntmps146
    go_wp2_with fail
    go_ret
    exact ⟨rfl, Only.refl _ _⟩
theorem good_no_key {key r s : Int} {text : List UInt8} (h : memB key = false) : goodB key text r s = false := by
  rw [Bool.eq_false_iff, Ne, goodB_true]
  rintro ⟨h1, _⟩
  rw [memB_true.2 h1] at h; cases h
theorem good_no_r {key r s : Int} {text : List UInt8} (h : memB r = false) : goodB key text r s = false := by
  rw [Bool.eq_false_iff, Ne, goodB_true]
  rintro ⟨_, h1, _⟩
  rw [memB_true.2 h1] at h; cases h
theorem good_no_s {key r s : Int} {text : List UInt8} (h : s < 0 ∨ ¬ s < 1152921504606845789) : goodB key text r s = false := by
  rw [Bool.eq_false_iff, Ne, goodB_true]
  rintro ⟨_, _, h1, h2, _⟩
  rw [Q0_int] at h2
  omega
theorem good_of {key r s : Int} {text : List UInt8} (hk : memB key = true) (hr : memB r = true) (h0 : 0 ≤ s) (h1 : s < 1152921504606845789) : goodB key text r s = decide ((gp s.toNat : Int) = r * (powI key (chal r key text) 2305843009213691579 : Int) % 2305843009213691579) := by
  obtain ⟨k, rfl, hkm⟩ := memB_true.1 hk
  obtain ⟨ρ, rfl, hrm⟩ := memB_true.1 hr
  rw [powI_pw, Bool.eq_iff_iff, goodB_true, decide_eq_true_iff]
  have e : ((ρ * pw k (chal ρ k text) % P0 : Nat) : Int) = (ρ : Int) * (pw k (chal ρ k text) : Int) % 2305843009213691579 := by
    have h : ((ρ * pw k (chal ρ k text) : Nat) : Int) = (ρ : Int) * (pw k (chal ρ k text) : Int) := by simp
    rw [← h, P0_val]
    omega
  rw [← e]
  constructor
  · rintro ⟨_, _, _, _, h⟩
    rw [h]
    rfl
  · intro h
    refine ⟨⟨k, rfl, hkm⟩, ⟨ρ, rfl, hrm⟩, h0, by rw [Q0_int]; exact h1, ?_⟩
    exact Int.ofNat_inj.1 h
end Go.Proofs.YtgalfohobgjelaaGreatDoor
namespace Go.Proofs.YtgalfohobgjelaaGreatDoor
open Go.RowKit Go.Shelf
set_option maxRecDepth 100000 in
set_option maxHeartbeats 1000000 in
theorem sverify_any (key r sg : Int) (s : ByteArray) (w : World) (hs : s.size ≤ 17592186044416) (k0 : -9223372036854775808 ≤ key) (k1 : key ≤ 9223372036854775807) (r0 : -9223372036854775808 ≤ r) (r1 : r ≤ 9223372036854775807) :
    Calls Tryz.prog 103 #[.int .i64 key, .string s, sgv r sg] w fun e w' => e = .returned (.bool (goodB key s.data.toList r sg)) ∧ Only NoneOf w w' := by
  have hmk := fun W => fmember_any key k0 k1 W
  have hmr := fun W => fmember_any r r0 r1 W
  unfold sgv
  by_cases hk : memB key = true
  · rw [hk] at hmk
    by_cases hr : memB r = true
    · rw [hr] at hmr
      by_cases hs0 : sg < 0
      · rw [good_no_s (.inl hs0)]
        have HMK := Lib.hid hmk
        have HMR := Lib.hid hmr
        clear hmk hmr
        go_enter Tryz.func103, Tryz.ntmps103
        go_wp2_with fail
        refine (HMK.out _).mono ?_
        rintro e w1 ⟨rfl, ho1⟩
        have hb1 : Blk w1 w.heap.size tSig #[.int .i64 r, .int .i64 sg] := (Blk.new w _ _).only ho1 (fun e => e)
        have c0 := hb1.cell 0
        have HB1 := Lib.hid hb1
        have HO1 := Lib.hid (((Only.refl NoneOf w).alloc _).trans ho1)
        clear hb1 ho1
        go_wp2_with fail
        refine (HMR.out _).mono ?_
        rintro e w2 ⟨rfl, ho2⟩
        have c1 := (HB1.out.only ho2 (fun e => e)).cell 1
        have HO2 := Lib.hid (HO1.out.trans ho2)
        clear ho2
        go_wp2_with fail
        go_ret
        exact ⟨rfl, HO2.out⟩
      · by_cases hs1 : sg < 1152921504606845789
        · have hg := good_of (text := s.data.toList) hk hr (by omega) hs1
          have hri := memB_in hr
          rw [hg]
          have hc := fun W => schal_any r key s W hs
          have hcl := chal_lt r key s.data.toList
          rw [Q0_val] at hcl
          obtain ⟨c, ec⟩ : ∃ c, c = chal r key s.data.toList := ⟨_, rfl⟩
          rw [← ec] at hc hcl ⊢
          obtain ⟨σ, eσ⟩ : ∃ σ : Nat, σ = sg.toNat := ⟨_, rfl⟩
          rw [← eσ]
          have eσ2 : (σ : Int) = sg := by omega
          have hp1 := fun W => fpow_any 4 σ 2305843009213691579 (by omega) (by omega) (by omega) (by omega) (by omega) W
          rw [powI_gp, eσ2] at hp1
          obtain ⟨g, eg⟩ : ∃ g, g = gp σ := ⟨_, rfl⟩
          rw [← eg] at hp1 ⊢
          have hp2 := fun W => fpow_any key c 2305843009213691579 k0 k1 (by omega) (by omega) (by omega) W
          have hpl : powI key c 2305843009213691579 < 2305843009213691579 := Nat.mod_lt _ (by decide)
          obtain ⟨q, eq⟩ : ∃ q, q = powI key c 2305843009213691579 := ⟨_, rfl⟩
          rw [← eq] at hp2 hpl ⊢
          have hmul := fun W => fMul_any r q 2305843009213691579 (by omega) (by omega) (by omega) (by omega) (by omega) (by omega) W
          obtain ⟨m, em⟩ : ∃ m, m = r * (q : Int) % 2305843009213691579 := ⟨_, rfl⟩
          rw [← em] at hmul ⊢
          have HMK := Lib.hid hmk
          have HMR := Lib.hid hmr
          have HC := Lib.hid hc
          have HP1 := Lib.hid hp1
          have HP2 := Lib.hid hp2
          have HMUL := Lib.hid hmul
          clear hmk hmr hg ec hc hp1 hp2 hmul eg eq em eσ eσ2 k0 k1 r0 r1 hk hr
          go_enter Tryz.func103, Tryz.ntmps103
          go_wp2_with fail
          refine (HMK.out _).mono ?_
          rintro e w1 ⟨rfl, ho1⟩
          have hb1 : Blk w1 w.heap.size tSig #[.int .i64 r, .int .i64 sg] := (Blk.new w _ _).only ho1 (fun e => e)
          have c0 := hb1.cell 0
          have HB1 := Lib.hid hb1
          have HO1 := Lib.hid (((Only.refl NoneOf w).alloc _).trans ho1)
          clear hb1 ho1
          go_wp2_with fail
          refine (HMR.out _).mono ?_
          rintro e w2 ⟨rfl, ho2⟩
          have hb2 := HB1.out.only ho2 (fun e => e)
          have c1 := hb2.cell 1
          have d0 := hb2.cell 0
          have HB2 := Lib.hid hb2
          have HO2 := Lib.hid (HO1.out.trans ho2)
          clear ho2 hb2
          go_wp2_with fail
          refine (HC.out _).mono ?_
          rintro e w3 ⟨rfl, ho3⟩
          obtain ⟨B, eB⟩ : ∃ B, B = w.heap.size := ⟨_, rfl⟩
          rw [← eB] at HB2 ⊢
          have hb3 := HB2.out.only ho3 (fun e => e)
          have e0 : w3.cell? ⟨B, 0, none⟩ = some (.int .i64 r) := hb3.cell 0
          have e1 : w3.cell? ⟨B, 1, none⟩ = some (.int .i64 sg) := hb3.cell 1
          have HB3 := Lib.hid hb3
          have HO3 := Lib.hid (HO2.out.trans ho3)
          clear ho3 hb3 c0 c1 d0 eB HB1 HB2 hs0
          go_wp2_with fail
          go_region_held3 (fun w' => w'.cell? ⟨B, 0, none⟩ = some (.int .i64 r) ∧ w'.cell? ⟨B, 1, none⟩ = some (.int .i64 sg)) (first | assumption | exact ⟨e0, e1⟩ | (refine ⟨?_, ?_⟩ <;> assumption) | go_keep)
            (first
              | (go_at_call 148; (with_reducible refine (HP1.out _).mono ?_); rintro e w4 ⟨rfl, ho4⟩; have HO4 : Hid (Only NoneOf w w4) := Lib.hid (HO3.out.trans (only_of_drew ho4)); have s0 := (only_of_drew ho4).cell_some e0 (fun e => e); have s1 := (only_of_drew ho4).cell_some e1 (fun e => e); clear ho4)
              | (go_at_call 148; (with_reducible refine (HP2.out _).mono ?_); rintro e w5 ⟨rfl, ho5⟩; have HO5 : Hid (Only NoneOf w w5) := Lib.hid (HO4.out.trans ho5); have s2 := ho5.cell_some s0 (fun e => e); have s3 := ho5.cell_some s1 (fun e => e); clear ho5)
              | (go_at_call 149; (with_reducible refine (HMUL.out _).mono ?_); rintro e w6 ⟨rfl, k6, rfl⟩))
          all_goals
            go_wp2_with fail
            go_ret
            first
              | exact ⟨rfl, only_drewN HO5.out _⟩
              | exact ⟨rfl, HO5.out⟩
        · rw [good_no_s (.inr hs1)]
          have HMK := Lib.hid hmk
          have HMR := Lib.hid hmr
          clear hmk hmr
          go_enter Tryz.func103, Tryz.ntmps103
          go_wp2_with fail
          refine (HMK.out _).mono ?_
          rintro e w1 ⟨rfl, ho1⟩
          have hb1 : Blk w1 w.heap.size tSig #[.int .i64 r, .int .i64 sg] := (Blk.new w _ _).only ho1 (fun e => e)
          have c0 := hb1.cell 0
          have HB1 := Lib.hid hb1
          have HO1 := Lib.hid (((Only.refl NoneOf w).alloc _).trans ho1)
          clear hb1 ho1
          go_wp2_with fail
          refine (HMR.out _).mono ?_
          rintro e w2 ⟨rfl, ho2⟩
          have c1 := (HB1.out.only ho2 (fun e => e)).cell 1
          have HO2 := Lib.hid (HO1.out.trans ho2)
          clear ho2
          go_wp2_with fail
          go_ret
          exact ⟨rfl, HO2.out⟩
    · have hr' : memB r = false := by simpa using hr
      rw [good_no_r hr']
      rw [hr'] at hmr
      have HMK := Lib.hid hmk
      have HMR := Lib.hid hmr
      clear hmk hmr
      go_enter Tryz.func103, Tryz.ntmps103
      go_wp2_with fail
      refine (HMK.out _).mono ?_
      rintro e w1 ⟨rfl, ho1⟩
      have hb1 : Blk w1 w.heap.size tSig #[.int .i64 r, .int .i64 sg] := (Blk.new w _ _).only ho1 (fun e => e)
      have c0 := hb1.cell 0
      have HO1 := Lib.hid (((Only.refl NoneOf w).alloc _).trans ho1)
      clear hb1 ho1
      go_wp2_with fail
      refine (HMR.out _).mono ?_
      rintro e w2 ⟨rfl, ho2⟩
      have HO2 := Lib.hid (HO1.out.trans ho2)
      clear ho2
      go_wp2_with fail
      go_ret
      exact ⟨rfl, HO2.out⟩
  · have hk' : memB key = false := by simpa using hk
    rw [good_no_key hk']
    rw [hk'] at hmk
    have HMK := Lib.hid hmk
    clear hmk hmr
    go_enter Tryz.func103, Tryz.ntmps103
    go_wp2_with fail
    refine (HMK.out _).mono ?_
    rintro e w1 ⟨rfl, ho1⟩
    have HO1 := Lib.hid (((Only.refl NoneOf w).alloc _).trans ho1)
    clear ho1
    go_wp2_with fail
    go_ret
    exact ⟨rfl, HO1.out⟩
end Go.Proofs.YtgalfohobgjelaaGreatDoor
namespace Go.Proofs.YtgalfohobgjelaaGreatDoor
open Go.RowKit Go.Shelf
end Go.Proofs.YtgalfohobgjelaaGreatDoor
namespace Go.Proofs.YtgalfohobgjelaaGreatDoor
open Go.RowKit Go.Shelf
set_option maxRecDepth 100000 in
set_option maxHeartbeats 1000000 in
theorem stext_any (r s : Int) (hr : In r) (hs : In s) (w : World) (ht : Tab w) : Calls Tryz.prog 137 #[sgv r s] w (RetStr (textOf r s) w) := by
  unfold sgv
  obtain ⟨r0, r1⟩ := hr
  obtain ⟨s0, s1⟩ := hs
  have hb := Blk.new w tSig #[.int .i64 r, .int .i64 s]
  have c0 : (w.alloc (.cells #[.int .i64 r, .int .i64 s] tSig)).cell? ⟨w.heap.size, 0, none⟩ = some (.int .i64 r) := hb.cell 0
  have c1 : (w.alloc (.cells #[.int .i64 r, .int .i64 s] tSig)).cell? ⟨w.heap.size, 1, none⟩ = some (.int .i64 s) := hb.cell 1
  have hx : Only NoneOf w (w.alloc (.cells #[.int .i64 r, .int .i64 s] tSig)) := (Only.refl _ _).alloc _
  have htx := ht.none hx
  obtain ⟨B, eB⟩ : ∃ B, B = w.heap.size := ⟨_, rfl⟩
  obtain ⟨X, eX⟩ : ∃ X, X = w.alloc (.cells #[.int .i64 r, .int .i64 s] tSig) := ⟨_, rfl⟩
  rw [← eX, ← eB] at c0 c1
  rw [← eX] at hx htx
  have HX := Lib.hid hx
  have HT := Lib.hid htx
  have HTD := Lib.hid (show Tab X.drew from htx)
  have HR := Lib.hid (fun W hW => itoa_any r r0 r1 W hW)
  have HS := Lib.hid (fun W hW => itoa_any s s0 s1 W hW)
  have hlr := itoa_len r0 r1
  have hls := itoa_len s0 s1
  go_enter Tryz.func137, Tryz.ntmps137
  go_wp2_with fail
  rw [← eX, ← eB]
  clear eX eB hb hx htx ht r0 r1 s0 s1
  go_region_held3 (fun w' => w'.cell? ⟨B, 0, none⟩ = some (.int .i64 r) ∧ w'.cell? ⟨B, 1, none⟩ = some (.int .i64 s)) (first | assumption | exact ⟨c0, c1⟩ | (refine ⟨?_, ?_⟩ <;> assumption) | go_keep)
    (first
      | (go_at_call 154; (with_reducible refine (HR.out _ (by first | exact HT.out | exact HTD.out)).mono ?_); rintro e w4 ⟨t4, rfl, ht4, ho4⟩; have HO4 : Hid (Only NoneOf X w4) := Lib.hid (only_of_drew ho4); have hz4 : t4.size ≤ 21 := (by rw [size_list, ht4]; exact hlr); have hq4 : ¬ 9223372036854775807 < t4.size + 1 := (by omega); have HT4 := Lib.hid ht4; have HTB := Lib.hid (HT.out.none HO4.out); have d0 := HO4.out.cell_some c0 (fun e => e); have d1 := HO4.out.cell_some c1 (fun e => e); clear ho4 ht4)
      | (go_at_call 154; (with_reducible refine (HS.out _ HTB.out).mono ?_); rintro e w5 ⟨t5, rfl, ht5, ho5⟩; have HO5 : Hid (Only NoneOf X w5) := Lib.hid (HO4.out.trans ho5); have hz5 : t5.size ≤ 21 := (by rw [size_list, ht5]; exact hls); have hq5 : ¬ 9223372036854775807 < t4.size + 1 + t5.size := (by omega); have HT5 := Lib.hid ht5; have f0 := HO5.out.cell_some c0 (fun e => e); have f1 := HO5.out.cell_some c1 (fun e => e); clear ho5 ht5))
  all_goals
    go_wp2_with fail
    go_ret
    first
      | exact RetStr.mk (by rw [ByteArray.data_append, ByteArray.data_append, Array.toList_append, Array.toList_append, HT4.out, HT5.out]; simp [textOf]) (HX.out.trans HO5.out)
end Go.Proofs.YtgalfohobgjelaaGreatDoor
namespace Go.Proofs.YtgalfohobgjelaaGreatDoor
open Go.RowKit Go.Shelf
/-- What holds when the digits out have been written and u is left. -/
def DecI (m u : Nat) (out : List UInt8) : Prop := (u ≠ 0 → Lib.decDigits m = Lib.decDigits u ++ out) ∧ (u = 0 → Lib.decDigits m = out)
theorem DecI.len {m u : Nat} {out : List UInt8} (h : DecI m u out) (hm : m < 18446744073709551616) : out.length ≤ 20 := by
  have := dec_len20 hm
  by_cases h0 : u = 0
  · rw [h.2 h0] at this; exact this
  · rw [h.1 h0, List.length_append] at this; omega
theorem DecI.step {m u : Nat} {out : List UInt8} (h : DecI m u out) (hu : u ≠ 0) : DecI m (u / 10) (UInt8.ofNat (48 + u % 10) :: out) := by
  have h1 := h.1 hu
  by_cases h10 : u < 10
  · rw [dec_small h10] at h1
    refine ⟨fun h => by omega, fun _ => ?_⟩
    rw [h1, Nat.mod_eq_of_lt h10]; rfl
  · rw [dec_big h10] at h1
    refine ⟨fun _ => ?_, fun h => by omega⟩
    rw [h1]; simp
theorem tm10 (v : Int) (u : Nat) (h : v = (u : Int) ∨ v = -(u : Int)) : ∃ e : Int, v.tmod 10 = e ∧ (e = ((u % 10 : Nat) : Int) ∨ e = -((u % 10 : Nat) : Int)) := by
  refine ⟨_, rfl, ?_⟩
  rw [Int.tmod_eq_emod]
  split <;> omega
theorem td10 (v : Int) (u : Nat) (s : Bool) (h : v = if s then -(u : Int) else (u : Int)) : v.tdiv 10 = if s then -((u / 10 : Nat) : Int) else ((u / 10 : Nat) : Int) := by
  rw [Int.tdiv_eq_ediv]
  have hs : Int.sign 10 = 1 := rfl
  cases s
  · simp at h; simp; subst h; split <;> omega
  · simp at h; simp; subst h; split <;> omega
theorem u8_48 (d : Nat) (h : d < 10) : IntKind.u8.wrap (48 + (d : Int)) = ((UInt8.ofNat (48 + d)).toNat : Int) := by
  rw [of_digit h]
  simp [IntKind.wrap, IntKind.bits, IntKind.signed]
  omega
/-- What holds between two digits. -/
def DecR (m : Nat) (sg : Bool) (w : World) (o v : Value) (wr : World) : Prop :=
  ∃ (t : ByteArray) (u : Nat), o = .string t ∧ v = .int .i64 (if sg then -(u : Int) else (u : Int)) ∧ u ≤ 9223372036854775808 ∧ (sg = false → u ≤ 9223372036854775807) ∧ DecI m u t.data.toList ∧ Only NoneOf w wr
end Go.Proofs.YtgalfohobgjelaaGreatDoor
namespace Go.Proofs.YtgalfohobgjelaaGreatDoor
open Go.RowKit Go.Shelf
end Go.Proofs.YtgalfohobgjelaaGreatDoor
