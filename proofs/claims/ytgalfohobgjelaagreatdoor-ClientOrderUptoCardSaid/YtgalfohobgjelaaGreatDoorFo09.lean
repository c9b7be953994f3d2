/- What is proved here: several parts. several parts. members and accepted signatures, by the program. Condition: the texts are short. · a signature is accepted as the group says, by the program. Condition: the texts are short. · members and accepted signatures, by the reference. Condition: the texts are short. · a signature's text by the program. Condition: the library's table reads as its initialiser lays it. · decimal texts by the reference. Condition: the numbers are ints. · a signature's text by the reference. Condition: the numbers are ints. · several parts. persons in memory, those that come in and those that a call makes. No conditions. · heads and votes as plain data, officers, which votes count; plain laws. No conditions. · heads and votes in memory: loads, stores, slices. Conditions: roots have 32 bytes. · slices of votes that the call made: one put in another's place, read, cleared. Conditions: roots have 32 bytes. -/
import Derived.Test.YtgalfohobgjelaaGreatDoorFo01
import Derived.Test.YtgalfohobgjelaaGreatDoorFo02
import Derived.Test.YtgalfohobgjelaaGreatDoorFo07
import Derived.Test.YtgalfohobgjelaaGreatDoorFo08
import Derived.Deep.RegionHeld3
import Derived.WalkSmall
import Derived.ChangeAgain
import Derived.Deep.MidRow
import Derived.Deep.RegionLaw
import Derived.Deep.AppendLies
import Derived.Deep.DeepCutAuto
import Derived.Laws.CopyRow
namespace Go.Proofs.YtgalfohobgjelaaGreatDoor
open Go.RowKit Go.Shelf
open Classical in
noncomputable def memB (a : Int) : Bool := decide (memI a)
open Classical in
noncomputable def goodB (key : Int) (text : List UInt8) (r s : Int) : Bool := decide (Good key text r s)
theorem memB_true {a : Int} : memB a = true ↔ memI a := by unfold memB; simp
theorem goodB_true {key : Int} {text : List UInt8} {r s : Int} : goodB key text r s = true ↔ Good key text r s := by unfold goodB; simp
theorem memB_of {a : Int} (h0 : 0 < a) (h1 : a < 2305843009213691579) : memB a = decide (powI a Q0 2305843009213691579 = 1) := by
  obtain ⟨k, rfl⟩ : ∃ k : Nat, a = (k : Int) := ⟨a.toNat, by omega⟩
  rw [powI_pw, Bool.eq_iff_iff, memB_true, decide_eq_true_iff]
  constructor
  · rintro ⟨k', e, h⟩
    obtain rfl : k = k' := by omega
    exact h.2.2
  · intro h
    exact ⟨k, rfl, by omega, by rw [P0_val]; omega, h⟩
theorem memB_low {a : Int} (h : ¬ 0 < a) : memB a = false := by
  rw [Bool.eq_false_iff, Ne, memB_true]
  rintro ⟨k, rfl, hk, _⟩
  omega
theorem memB_high {a : Int} (h : ¬ a < 2305843009213691579) : memB a = false := by
  rw [Bool.eq_false_iff, Ne, memB_true]
  rintro ⟨k, rfl, _, hk, _⟩
  rw [P0_val] at hk
  omega
theorem memB_in {a : Int} (h : memB a = true) : 0 < a ∧ a < 2305843009213691579 := by
  obtain ⟨k, rfl, hk0, hk, _⟩ := memB_true.1 h
  rw [P0_val] at hk
  omega
set_option maxRecDepth 100000 in
set_option maxHeartbeats 400000 in
theorem fmember_any (a : Int) (h0 : -9223372036854775808 ≤ a) (h1 : a ≤ 9223372036854775807) (w : World) : Calls Tryz.prog 146 #[.int .i64 a] w fun e w' => e = .returned (.bool (memB a)) ∧ Only NoneOf w w' := by
  by_cases p0 : 0 < a
  · by_cases p1 : a < 2305843009213691579
    · have hp := fpow_any a Q0 2305843009213691579 h0 h1 (by rw [Q0_val]; omega) (by omega) (by omega) w
      have hm := memB_of p0 p1
      rw [Q0_int] at hp
      obtain ⟨v, ev⟩ : ∃ v, v = powI a Q0 2305843009213691579 := ⟨_, rfl⟩
      rw [← ev] at hp hm
      rw [hm]
      have hv : (decide ((v : Int) = 1)) = decide (v = 1) := by rw [decide_eq_decide]; omega
      have HP := Lib.hid hp
      have HV := Lib.hid hv
      clear hp hm ev hv h0 h1
      go_enter Tryz.func146, Tryz.ntmps146
      go_wp2_with fail
      refine HP.out.mono ?_
      rintro e w1 ⟨rfl, ho⟩
      have HO := Lib.hid ho
      clear ho
      by_cases hv1 : v = 1
      · subst hv1
        go_wp2_with fail
        go_ret
        exact ⟨rfl, HO.out⟩
      · have hv2 : ¬ (v : Int) = 1 := by omega
        go_wp2_with fail
        go_ret
        exact ⟨by simp [hv1]; omega, HO.out⟩
    · rw [memB_high p1]
      go_enter Tryz.func146, Tryz.ntmps146
      go_wp2_with fail
      go_ret
      exact ⟨rfl, Only.refl _ _⟩
  · rw [memB_low p0]
    go_enter Tryz.func146, Tryz.ntmps146
    go_wp2_with fail
    go_ret
    exact ⟨rfl, Only.refl _ _⟩
theorem good_no_key {key r s : Int} {text : List UInt8} (h : memB key = false) : goodB key text r s = false := by
  rw [Bool.eq_false_iff, Ne, goodB_true]
  rintro ⟨h1, _⟩
  rw [memB_true.2 h1] at h; cases h
theorem good_no_r {key r s : Int} {text : List UInt8} (h : memB r = false) : goodB key text r s = false := by
  rw [Bool.eq_false_iff, Ne, goodB_true]
  rintro ⟨_, h1, _⟩
  rw [memB_true.2 h1] at h; cases h
theorem good_no_s {key r s : Int} {text : List UInt8} (h : s < 0 ∨ ¬ s < 1152921504606845789) : goodB key text r s = false := by
  rw [Bool.eq_false_iff, Ne, goodB_true]
  rintro ⟨_, _, h1, h2, _⟩
  rw [Q0_int] at h2
  omega
theorem good_of {key r s : Int} {text : List UInt8} (hk : memB key = true) (hr : memB r = true) (h0 : 0 ≤ s) (h1 : s < 1152921504606845789) : goodB key text r s = decide ((gp s.toNat : Int) = r * (powI key (chal r key text) 2305843009213691579 : Int) % 2305843009213691579) := by
  obtain ⟨k, rfl, hkm⟩ := memB_true.1 hk
  obtain ⟨ρ, rfl, hrm⟩ := memB_true.1 hr
  rw [powI_pw, Bool.eq_iff_iff, goodB_true, decide_eq_true_iff]
  have e : ((ρ * pw k (chal ρ k text) % P0 : Nat) : Int) = (ρ : Int) * (pw k (chal ρ k text) : Int) % 2305843009213691579 := by
    have h : ((ρ * pw k (chal ρ k text) : Nat) : Int) = (ρ : Int) * (pw k (chal ρ k text) : Int) := by simp
    rw [← h, P0_val]
    omega
  rw [← e]
  constructor
  · rintro ⟨_, _, _, _, h⟩
    rw [h]
    rfl
  · intro h
    refine ⟨⟨k, rfl, hkm⟩, ⟨ρ, rfl, hrm⟩, h0, by rw [Q0_int]; exact h1, ?_⟩
    exact Int.ofNat_inj.1 h
end Go.Proofs.YtgalfohobgjelaaGreatDoor
namespace Go.Proofs.YtgalfohobgjelaaGreatDoor
open Go.RowKit Go.Shelf
set_option maxRecDepth 100000 in
set_option maxHeartbeats 1000000 in
theorem sverify_any (key r sg : Int) (s : ByteArray) (w : World) (hs : s.size ≤ 17592186044416) (k0 : -9223372036854775808 ≤ key) (k1 : key ≤ 9223372036854775807) (r0 : -9223372036854775808 ≤ r) (r1 : r ≤ 9223372036854775807) :
    Calls Tryz.prog 103 #[.int .i64 key, .string s, sgv r sg] w fun e w' => e = .returned (.bool (goodB key s.data.toList r sg)) ∧ Only NoneOf w w' := by
  have hmk := fun W => fmember_any key k0 k1 W
  have hmr := fun W => fmember_any r r0 r1 W
  unfold sgv
  by_cases hk : memB key = true
  · rw [hk] at hmk
    by_cases hr : memB r = true
    · rw [hr] at hmr
      by_cases hs0 : sg < 0
      · rw [good_no_s (.inl hs0)]
        have HMK := Lib.hid hmk
        have HMR := Lib.hid hmr
        clear hmk hmr
        go_enter Tryz.func103, Tryz.ntmps103
        go_wp2_with fail
        refine (HMK.out _).mono ?_
        rintro e w1 ⟨rfl, ho1⟩
        have hb1 : Blk w1 w.heap.size tSig #[.int .i64 r, .int .i64 sg] := (Blk.new w _ _).only ho1 (fun e => e)
        have c0 := hb1.cell 0
        have HB1 := Lib.hid hb1
        have HO1 := Lib.hid (((Only.refl NoneOf w).alloc _).trans ho1)
        clear hb1 ho1
        go_wp2_with fail
        refine (HMR.out _).mono ?_
        rintro e w2 ⟨rfl, ho2⟩
        have c1 := (HB1.out.only ho2 (fun e => e)).cell 1
        have HO2 := Lib.hid (HO1.out.trans ho2)
        clear ho2
        go_wp2_with fail
        go_ret
        exact ⟨rfl, HO2.out⟩
      · by_cases hs1 : sg < 1152921504606845789
        · have hg := good_of (text := s.data.toList) hk hr (by omega) hs1
          have hri := memB_in hr
          rw [hg]
          have hc := fun W => schal_any r key s W hs
          have hcl := chal_lt r key s.data.toList
          rw [Q0_val] at hcl
          obtain ⟨c, ec⟩ : ∃ c, c = chal r key s.data.toList := ⟨_, rfl⟩
          rw [← ec] at hc hcl ⊢
          obtain ⟨σ, eσ⟩ : ∃ σ : Nat, σ = sg.toNat := ⟨_, rfl⟩
          rw [← eσ]
          have eσ2 : (σ : Int) = sg := by omega
          have hp1 := fun W => fpow_any 4 σ 2305843009213691579 (by omega) (by omega) (by omega) (by omega) (by omega) W
          rw [powI_gp, eσ2] at hp1
          obtain ⟨g, eg⟩ : ∃ g, g = gp σ := ⟨_, rfl⟩
          rw [← eg] at hp1 ⊢
          have hp2 := fun W => fpow_any key c 2305843009213691579 k0 k1 (by omega) (by omega) (by omega) W
          have hpl : powI key c 2305843009213691579 < 2305843009213691579 := Nat.mod_lt _ (by decide)
          obtain ⟨q, eq⟩ : ∃ q, q = powI key c 2305843009213691579 := ⟨_, rfl⟩
          rw [← eq] at hp2 hpl ⊢
          have hmul := fun W => fMul_any r q 2305843009213691579 (by omega) (by omega) (by omega) (by omega) (by omega) (by omega) W
          obtain ⟨m, em⟩ : ∃ m, m = r * (q : Int) % 2305843009213691579 := ⟨_, rfl⟩
          rw [← em] at hmul ⊢
          have HMK := Lib.hid hmk
          have HMR := Lib.hid hmr
          have HC := Lib.hid hc
          have HP1 := Lib.hid hp1
          have HP2 := Lib.hid hp2
          have HMUL := Lib.hid hmul
          clear hmk hmr hg ec hc hp1 hp2 hmul eg eq em eσ eσ2 k0 k1 r0 r1 hk hr
          go_enter Tryz.func103, Tryz.ntmps103
          go_wp2_with fail
          refine (HMK.out _).mono ?_
          rintro e w1 ⟨rfl, ho1⟩
          have hb1 : Blk w1 w.heap.size tSig #[.int .i64 r, .int .i64 sg] := (Blk.new w _ _).only ho1 (fun e => e)
          have c0 := hb1.cell 0
          have HB1 := Lib.hid hb1
          have HO1 := Lib.hid (((Only.refl NoneOf w).alloc _).trans ho1)
          clear hb1 ho1
          go_wp2_with fail
          refine (HMR.out _).mono ?_
          rintro e w2 ⟨rfl, ho2⟩
          have hb2 := HB1.out.only ho2 (fun e => e)
          have c1 := hb2.cell 1
          have d0 := hb2.cell 0
          have HB2 := Lib.hid hb2
          have HO2 := Lib.hid (HO1.out.trans ho2)
          clear ho2 hb2
          go_wp2_with fail
          refine (HC.out _).mono ?_
          rintro e w3 ⟨rfl, ho3⟩
          obtain ⟨B, eB⟩ : ∃ B, B = w.heap.size := ⟨_, rfl⟩
          rw [← eB] at HB2 ⊢
          have hb3 := HB2.out.only ho3 (fun e => e)
          have e0 : w3.cell? ⟨B, 0, none⟩ = some (.int .i64 r) := hb3.cell 0
          have e1 : w3.cell? ⟨B, 1, none⟩ = some (.int .i64 sg) := hb3.cell 1
          have HB3 := Lib.hid hb3
          have HO3 := Lib.hid (HO2.out.trans ho3)
          clear ho3 hb3 c0 c1 d0 eB HB1 HB2 hs0
          go_wp2_with fail
          go_region_held3 (fun w' => w'.cell? ⟨B, 0, none⟩ = some (.int .i64 r) ∧ w'.cell? ⟨B, 1, none⟩ = some (.int .i64 sg)) (first | assumption | exact ⟨e0, e1⟩ | (refine ⟨?_, ?_⟩ <;> assumption) | go_keep)
            (first
              | (go_at_call 148; (with_reducible refine (HP1.out _).mono ?_); rintro e w4 ⟨rfl, ho4⟩; have HO4 : Hid (Only NoneOf w w4) := Lib.hid (HO3.out.trans (only_of_drew ho4)); have s0 := (only_of_drew ho4).cell_some e0 (fun e => e); have s1 := (only_of_drew ho4).cell_some e1 (fun e => e); clear ho4)
              | (go_at_call 148; (with_reducible refine (HP2.out _).mono ?_); rintro e w5 ⟨rfl, ho5⟩; have HO5 : Hid (Only NoneOf w w5) := Lib.hid (HO4.out.trans ho5); have s2 := ho5.cell_some s0 (fun e => e); have s3 := ho5.cell_some s1 (fun e => e); clear ho5)
              | (go_at_call 149; (with_reducible refine (HMUL.out _).mono ?_); rintro e w6 ⟨rfl, k6, rfl⟩))
          all_goals
            go_wp2_with fail
            go_ret
            first
              | exact ⟨rfl, only_drewN HO5.out _⟩
              | exact ⟨rfl, HO5.out⟩
        · rw [good_no_s (.inr hs1)]
          have HMK := Lib.hid hmk
          have HMR := Lib.hid hmr
          clear hmk hmr
          go_enter Tryz.func103, Tryz.ntmps103
          go_wp2_with fail
          refine (HMK.out _).mono ?_
          rintro e w1 ⟨rfl, ho1⟩
          have hb1 : Blk w1 w.heap.size tSig #[.int .i64 r, .int .i64 sg] := (Blk.new w _ _).only ho1 (fun e => e)
          have c0 := hb1.cell 0
          have HB1 := Lib.hid hb1
          have HO1 := Lib.hid (((Only.refl NoneOf w).alloc _).trans ho1)
          clear hb1 ho1
          go_wp2_with fail
          refine (HMR.out _).mono ?_
          rintro e w2 ⟨rfl, ho2⟩
          have c1 := (HB1.out.only ho2 (fun e => e)).cell 1
          have HO2 := Lib.hid (HO1.out.trans ho2)
          clear ho2
          go_wp2_with fail
          go_ret
          exact ⟨rfl, HO2.out⟩
    · have hr' : memB r = false := by simpa using hr
      rw [good_no_r hr']
      rw [hr'] at hmr
      have HMK := Lib.hid hmk
      have HMR := Lib.hid hmr
      clear hmk hmr
      go_enter Tryz.func103, Tryz.ntmps103
      go_wp2_with fail
      refine (HMK.out _).mono ?_
      rintro e w1 ⟨rfl, ho1⟩
      have hb1 : Blk w1 w.heap.size tSig #[.int .i64 r, .int .i64 sg] := (Blk.new w _ _).only ho1 (fun e => e)
      have c0 := hb1.cell 0
      have HO1 := Lib.hid (((Only.refl NoneOf w).alloc _).trans ho1)
      clear hb1 ho1
      go_wp2_with fail
      refine (HMR.out _).mono ?_
      rintro e w2 ⟨rfl, ho2⟩
      have HO2 := Lib.hid (HO1.out.trans ho2)
      clear ho2
      go_wp2_with fail
      go_ret
      exact ⟨rfl, HO2.out⟩
  · have hk' : memB key = false := by simpa using hk
    rw [good_no_key hk']
    rw [hk'] at hmk
    have HMK := Lib.hid hmk
    clear hmk hmr
    go_enter Tryz.func103, Tryz.ntmps103
    go_wp2_with fail
    refine (HMK.out _).mono ?_
    rintro e w1 ⟨rfl, ho1⟩
    have HO1 := Lib.hid (((Only.refl NoneOf w).alloc _).trans ho1)
    clear ho1
    go_wp2_with fail
    go_ret
    exact ⟨rfl, HO1.out⟩
end Go.Proofs.YtgalfohobgjelaaGreatDoor
namespace Go.Proofs.YtgalfohobgjelaaGreatDoor
open Go.RowKit Go.Shelf
end Go.Proofs.YtgalfohobgjelaaGreatDoor
namespace Go.Proofs.YtgalfohobgjelaaGreatDoor
open Go.RowKit Go.Shelf
set_option maxRecDepth 100000 in
set_option maxHeartbeats 1000000 in
theorem stext_any (r s : Int) (hr : In r) (hs : In s) (w : World) (ht : Tab w) : Calls Tryz.prog 137 #[sgv r s] w (RetStr (textOf r s) w) := by
  unfold sgv
  obtain ⟨r0, r1⟩ := hr
  obtain ⟨s0, s1⟩ := hs
  have hb := Blk.new w tSig #[.int .i64 r, .int .i64 s]
  have c0 : (w.alloc (.cells #[.int .i64 r, .int .i64 s] tSig)).cell? ⟨w.heap.size, 0, none⟩ = some (.int .i64 r) := hb.cell 0
  have c1 : (w.alloc (.cells #[.int .i64 r, .int .i64 s] tSig)).cell? ⟨w.heap.size, 1, none⟩ = some (.int .i64 s) := hb.cell 1
  have hx : Only NoneOf w (w.alloc (.cells #[.int .i64 r, .int .i64 s] tSig)) := (Only.refl _ _).alloc _
  have htx := ht.none hx
  obtain ⟨B, eB⟩ : ∃ B, B = w.heap.size := ⟨_, rfl⟩
  obtain ⟨X, eX⟩ : ∃ X, X = w.alloc (.cells #[.int .i64 r, .int .i64 s] tSig) := ⟨_, rfl⟩
  rw [← eX, ← eB] at c0 c1
  rw [← eX] at hx htx
  have HX := Lib.hid hx
  have HT := Lib.hid htx
  have HTD := Lib.hid (show Tab X.drew from htx)
  have HR := Lib.hid (fun W hW => itoa_any r r0 r1 W hW)
  have HS := Lib.hid (fun W hW => itoa_any s s0 s1 W hW)
  have hlr := itoa_len r0 r1
  have hls := itoa_len s0 s1
  go_enter Tryz.func137, Tryz.ntmps137
  go_wp2_with fail
  rw [← eX, ← eB]
  clear eX eB hb hx htx ht r0 r1 s0 s1
  go_region_held3 (fun w' => w'.cell? ⟨B, 0, none⟩ = some (.int .i64 r) ∧ w'.cell? ⟨B, 1, none⟩ = some (.int .i64 s)) (first | assumption | exact ⟨c0, c1⟩ | (refine ⟨?_, ?_⟩ <;> assumption) | go_keep)
    (first
      | (go_at_call 154; (with_reducible refine (HR.out _ (by first | exact HT.out | exact HTD.out)).mono ?_); rintro e w4 ⟨t4, rfl, ht4, ho4⟩; have HO4 : Hid (Only NoneOf X w4) := Lib.hid (only_of_drew ho4); have hz4 : t4.size ≤ 21 := (by rw [size_list, ht4]; exact hlr); have hq4 : ¬ 9223372036854775807 < t4.size + 1 := (by omega); have HT4 := Lib.hid ht4; have HTB := Lib.hid (HT.out.none HO4.out); have d0 := HO4.out.cell_some c0 (fun e => e); have d1 := HO4.out.cell_some c1 (fun e => e); clear ho4 ht4)
      | (go_at_call 154; (with_reducible refine (HS.out _ HTB.out).mono ?_); rintro e w5 ⟨t5, rfl, ht5, ho5⟩; have HO5 : Hid (Only NoneOf X w5) := Lib.hid (HO4.out.trans ho5); have hz5 : t5.size ≤ 21 := (by rw [size_list, ht5]; exact hls); have hq5 : ¬ 9223372036854775807 < t4.size + 1 + t5.size := (by omega); have HT5 := Lib.hid ht5; have f0 := HO5.out.cell_some c0 (fun e => e); have f1 := HO5.out.cell_some c1 (fun e => e); clear ho5 ht5))
  all_goals
    go_wp2_with fail
    go_ret
    first
      | exact RetStr.mk (by rw [ByteArray.data_append, ByteArray.data_append, Array.toList_append, Array.toList_append, HT4.out, HT5.out]; simp [textOf]) (HX.out.trans HO5.out)
end Go.Proofs.YtgalfohobgjelaaGreatDoor
namespace Go.Proofs.YtgalfohobgjelaaGreatDoor
open Go.RowKit Go.Shelf
/-- What holds when the digits out have been written and u is left. -/
def DecI (m u : Nat) (out : List UInt8) : Prop := (u ≠ 0 → Lib.decDigits m = Lib.decDigits u ++ out) ∧ (u = 0 → Lib.decDigits m = out)
theorem DecI.len {m u : Nat} {out : List UInt8} (h : DecI m u out) (hm : m < 18446744073709551616) : out.length ≤ 20 := by
  have := dec_len20 hm
  by_cases h0 : u = 0
  · rw [h.2 h0] at this; exact this
  · rw [h.1 h0, List.length_append] at this; omega
theorem DecI.step {m u : Nat} {out : List UInt8} (h : DecI m u out) (hu : u ≠ 0) : DecI m (u / 10) (UInt8.ofNat (48 + u % 10) :: out) := by
  have h1 := h.1 hu
  by_cases h10 : u < 10
  · rw [dec_small h10] at h1
    refine ⟨fun h => by omega, fun _ => ?_⟩
    rw [h1, Nat.mod_eq_of_lt h10]; rfl
  · rw [dec_big h10] at h1
    refine ⟨fun _ => ?_, fun h => by omega⟩
    rw [h1]; simp
theorem tm10 (v : Int) (u : Nat) (h : v = (u : Int) ∨ v = -(u : Int)) : ∃ e : Int, v.tmod 10 = e ∧ (e = ((u % 10 : Nat) : Int) ∨ e = -((u % 10 : Nat) : Int)) := by
  refine ⟨_, rfl, ?_⟩
  rw [Int.tmod_eq_emod]
  split <;> omega
theorem td10 (v : Int) (u : Nat) (s : Bool) (h : v = if s then -(u : Int) else (u : Int)) : v.tdiv 10 = if s then -((u / 10 : Nat) : Int) else ((u / 10 : Nat) : Int) := by
  rw [Int.tdiv_eq_ediv]
  have hs : Int.sign 10 = 1 := rfl
  cases s
  · simp at h; simp; subst h; split <;> omega
  · simp at h; simp; subst h; split <;> omega
theorem u8_48 (d : Nat) (h : d < 10) : IntKind.u8.wrap (48 + (d : Int)) = ((UInt8.ofNat (48 + d)).toNat : Int) := by
  rw [of_digit h]
  simp [IntKind.wrap, IntKind.bits, IntKind.signed]
  omega
/-- What holds between two digits. -/
def DecR (m : Nat) (sg : Bool) (w : World) (o v : Value) (wr : World) : Prop :=
  ∃ (t : ByteArray) (u : Nat), o = .string t ∧ v = .int .i64 (if sg then -(u : Int) else (u : Int)) ∧ u ≤ 9223372036854775808 ∧ (sg = false → u ≤ 9223372036854775807) ∧ DecI m u t.data.toList ∧ Only NoneOf w wr
end Go.Proofs.YtgalfohobgjelaaGreatDoor
namespace Go.Proofs.YtgalfohobgjelaaGreatDoor
open Go.RowKit Go.Shelf
end Go.Proofs.YtgalfohobgjelaaGreatDoor
namespace Go.Proofs.YtgalfohobgjelaaGreatDoor
open Go.RowKit
theorem rng_only {w w' : World} {g o : Nat} {cs : List Value} (h : w.rangeAt g o cs) (ho : Only NoneOf w w') : w'.rangeAt g o cs := fun j v hj => ho.cell_some (h j v hj) (fun e => e)
/-- A person. -/
structure Pers where
  id : Int
  role : Int
  pub : Int
def persC (p : Pers) : List Value := [.int .i64 p.id, .int .i64 p.role, .int .i64 p.pub]
/-- A slice that reads as these persons. -/
def PerSl (w : World) (v : Value) (P : List Pers) : Prop :=
  ∃ A cap, v = .slice A P.length cap ∧ P.length ≤ cap ∧ cap ≤ 9223372036854775807 ∧ ∀ (i : Nat) (p : Pers), P[i]? = some p → ∃ g o, A = some ⟨g, o, none⟩ ∧ g < w.heap.size ∧ w.rangeAt g (o + i * 3) (persC p)
theorem PerSl.only {w w' : World} {v : Value} {P : List Pers} (h : PerSl w v P) (ho : Only NoneOf w w') : PerSl w' v P := by
  obtain ⟨A, cap, hv, h1, h2, h3⟩ := h
  refine ⟨A, cap, hv, h1, h2, fun i p hp => ?_⟩
  obtain ⟨g, o, hA, hg, hr⟩ := h3 i p hp
  exact ⟨g, o, hA, Nat.lt_of_lt_of_le hg ho.size, rng_only hr ho⟩
theorem persC_len (p : Pers) : (persC p).length = 3 := rfl
/-- Persons that the call made. -/
def PerOwn (w : World) (base : Nat) (v : Value) (n : Nat) (P : List Pers) : Prop := w.ownsRow base 67 3 v n (P.flatMap persC)
theorem PerOwn.sl {w : World} {base : Nat} {v : Value} {P : List Pers} (h : PerOwn w base v P.length P) : PerSl w v P := by
  rcases h.2 with ⟨rfl, h0⟩ | ⟨g, cap, cur, rfl, hb, hh, hc, hm, hs, ht⟩
  · have hP0 : P = [] := List.eq_nil_of_length_eq_zero h0
    subst hP0
    exact ⟨none, 0, rfl, Nat.le_refl _, by omega, fun i e he => by simp at he⟩
  · rw [maxLen_val] at hm
    refine ⟨some ⟨g, 0, none⟩, cap, rfl, hc, hm, fun i p hp => ⟨g, 0, rfl, Blk.lt (t := 67) hh, fun j x hj => ?_⟩⟩
    have hj2 : j < 3 := (List.getElem?_eq_some_iff.1 hj).1
    have h1 := flat_get persC_len P i j hj2 p hp
    have h2 := World.ownsRow.cells h rfl (i * 3 + j) x (h1.trans hj)
    rw [Addr.add_mid, Nat.zero_add] at h2
    rw [Nat.zero_add]
    exact h2
theorem pers_info3 : ∃ ie z, Tryz.prog.info? 67 = some ie ∧ ie.size = 3 ∧ ie.zero = some z ∧ z.cells.size = 3 ∧ ie.bytes = 24 := by
  have h1 : (Tryz.prog.info? 67).map (·.size) = some 3 := by kernel_rfl
  have h2 : ((Tryz.prog.info? 67).bind (·.zero)).isSome = true := by kernel_rfl
  have h3 : (Tryz.prog.info? 67).map (·.bytes) = some 24 := by kernel_rfl
  have h4 : ((Tryz.prog.info? 67).bind (·.zero)).map (fun z => z.cells.size) = some 3 := by kernel_rfl
  cases hie : Tryz.prog.info? 67 with
  | none => simp [hie] at h1
  | some ie =>
    simp only [hie, Option.map_some, Option.some.injEq, Option.bind_some] at h1 h2 h3 h4
    obtain ⟨z, hz⟩ := Option.isSome_iff_exists.1 h2
    simp only [hz, Option.map_some, Option.some.injEq] at h4
    exact ⟨ie, z, rfl, h1, hz, h4, h3⟩
end Go.Proofs.YtgalfohobgjelaaGreatDoor
namespace Go.Proofs.YtgalfohobgjelaaGreatDoor
/-- A head. -/
structure Hd where
  size : Int
  root : List UInt8
structure Hd.Ok (h : Hd) : Prop where
  size : In h.size
  root : h.root.length = 32
def hdC (h : Hd) : List Value := .int .i64 h.size :: h.root.map bv
theorem hdC_len {h : Hd} (hl : h.root.length = 32) : (hdC h).length = 33 := by simp [hdC, hl]
/-- A vote. -/
structure Vt where
  who : Int
  head : Hd
  r : Int
  s : Int
structure Vt.Ok (v : Vt) : Prop where
  who : In v.who
  head : v.head.Ok
  r : In v.r
  s : In v.s
def vtC (v : Vt) : List Value := .int .i64 v.who :: (hdC v.head ++ [.int .i64 v.r, .int .i64 v.s])
theorem vtC_len {v : Vt} (hl : v.head.root.length = 32) : (vtC v).length = 36 := by simp [vtC, hdC_len hl]
/-- What is signed of a head. -/
def hdText (h : Hd) : List UInt8 := [104, 101, 97, 100, 32] ++ Lib.itoa h.size ++ [32] ++ hexL h.root
/-- A vote counts for an officer. -/
noncomputable def cnts (p : Pers) (v : Vt) : Bool := v.who == p.id && goodB p.pub (hdText v.head) v.r v.s
/-- The officers among persons, where some Ids were seen. -/
def offGo (seen : List Int) : List Pers → List Pers
  | [] => []
  | p :: l => if p.id ∉ seen ∧ p.role = 2 then p :: offGo (p.id :: seen) l else offGo (p.id :: seen) l
def offs (P : List Pers) : List Pers := offGo [] P
theorem offGo_seen : ∀ (P : List Pers) (seen : List Int), ∀ p ∈ offGo seen P, p.id ∉ seen
  | [], _, _, h => by cases h
  | q :: l, seen, p, h => by
    unfold offGo at h
    split at h
    · rename_i hq
      rcases List.mem_cons.1 h with rfl | h
      · exact hq.1
      · exact fun hm => offGo_seen l _ p h (List.mem_cons_of_mem _ hm)
    · exact fun hm => offGo_seen l _ p h (List.mem_cons_of_mem _ hm)
theorem offGo_apart : ∀ (P : List Pers) (seen : List Int), (offGo seen P).Pairwise (fun p q => p.id ≠ q.id)
  | [], _ => List.Pairwise.nil
  | q :: l, seen => by
    unfold offGo
    split
    · refine List.pairwise_cons.2 ⟨fun p hp h => ?_, offGo_apart l _⟩
      exact offGo_seen l _ p hp (by rw [← h]; exact List.mem_cons_self ..)
    · exact offGo_apart l _
theorem offs_apart (P : List Pers) : (offs P).Pairwise (fun p q => p.id ≠ q.id) := offGo_apart P []
theorem offGo_sub : ∀ (P : List Pers) (seen : List Int), ∀ p ∈ offGo seen P, p ∈ P
  | [], _, _, h => by cases h
  | q :: l, seen, p, h => by
    unfold offGo at h
    split at h
    · rcases List.mem_cons.1 h with rfl | h
      · exact List.mem_cons_self ..
      · exact List.mem_cons_of_mem _ (offGo_sub l _ p h)
    · exact List.mem_cons_of_mem _ (offGo_sub l _ p h)
theorem offs_sub (P : List Pers) : ∀ p ∈ offs P, p ∈ P := offGo_sub P []
theorem offGo_len : ∀ (P : List Pers) (seen : List Int), (offGo seen P).length ≤ P.length
  | [], _ => Nat.le_refl _
  | q :: l, seen => by
    unfold offGo
    have := offGo_len l (q.id :: seen)
    split <;> simp only [List.length_cons] <;> omega
theorem offs_len (P : List Pers) : (offs P).length ≤ P.length := offGo_len P []
/-- The officers among the first persons, and what is left. -/
theorem offGo_take : ∀ (P : List Pers) (seen : List Int) (k : Nat) (p : Pers), P[k]? = some p →
    offGo seen (P.take (k + 1)) = offGo seen (P.take k) ++ (if (p.id ∉ (P.take k).map (·.id) ∧ p.id ∉ seen) ∧ p.role = 2 then [p] else [])
  | [], _, _, _, h => by simp at h
  | q :: l, seen, 0, p, h => by
    simp at h; subst h
    simp only [List.take_succ_cons, List.take_zero, offGo, List.map_nil, List.not_mem_nil, not_false_eq_true, true_and, List.nil_append]
  | q :: l, seen, k + 1, p, h => by
    have ih := offGo_take l (q.id :: seen) k p (by simpa using h)
    simp only [List.take_succ_cons, List.map_cons, List.mem_cons, not_or]
    rw [offGo, ih]
    have e : (if (p.id ∉ (l.take k).map (·.id) ∧ p.id ∉ q.id :: seen) ∧ p.role = 2 then [p] else []) = (if ((¬p.id = q.id ∧ p.id ∉ (l.take k).map (·.id)) ∧ p.id ∉ seen) ∧ p.role = 2 then [p] else []) := by
      congr 1
      simp only [List.mem_cons, not_or, eq_iff_iff]
      constructor <;> (rintro ⟨⟨h1, h2⟩, h3⟩; exact ⟨by first | exact ⟨⟨h2.1, h1⟩, h2.2⟩ | exact ⟨h1.2, h1.1, h2⟩, h3⟩)
    rw [e]
    rw [show offGo seen (q :: l.take k) = if q.id ∉ seen ∧ q.role = 2 then q :: offGo (q.id :: seen) (l.take k) else offGo (q.id :: seen) (l.take k) from rfl]
    by_cases hq : q.id ∉ seen ∧ q.role = 2
    · rw [if_pos hq, if_pos hq]; rfl
    · rw [if_neg hq, if_neg hq]
theorem offs_take {P : List Pers} {k : Nat} {p : Pers} (h : P[k]? = some p) :
    offs (P.take (k + 1)) = offs (P.take k) ++ (if p.id ∉ (P.take k).map (·.id) ∧ p.role = 2 then [p] else []) := by
  unfold offs
  rw [offGo_take P [] k p h]
  simp
/-- What is needed of officers. -/
def need (n : Nat) : Nat := 2 * (n / 3) + n % 3 * 2 / 3 + 1
noncomputable def eqHd (a b : Hd) : Bool := @decide (a = b) (Classical.propDecidable _)
theorem eqHd_true {a b : Hd} : eqHd a b = true ↔ a = b := by unfold eqHd; simp
theorem eqHd_false {a b : Hd} : eqHd a b = false ↔ a ≠ b := by unfold eqHd; simp
/-- How many officers have voted for a head. -/
noncomputable def votesFor (O : List Pers) (l : List Vt) (h : Hd) : Nat := O.countP (fun p => l.any (fun v => eqHd v.head h && cnts p v))
noncomputable def certB (P : List Pers) (h : Hd) (l : List Vt) : Bool := decide (need (offs P).length ≤ votesFor (offs P) l h)
end Go.Proofs.YtgalfohobgjelaaGreatDoor
namespace Go.Proofs.YtgalfohobgjelaaGreatDoor
open Go.RowKit
abbrev tHd : TypeId := 37
abbrev tVt : TypeId := 43
def hdLoad (v : Value) : Sem Value := Instr.loadAt 37 v
theorem hdLoad_eq (v : Value) : Instr.loadAt 37 v = hdLoad v := rfl
def hdStore (p v : Value) : Sem Unit := Instr.storeAt 37 p v
theorem hdStore_eq (p v : Value) : Instr.storeAt 37 p v = hdStore p v := rfl
def hdNew : Sem Value := Instr.alloc 37 true (.tuple #[])
theorem hdNew_eq : Instr.alloc 37 true (.tuple #[]) = hdNew := rfl
def vtLoad (v : Value) : Sem Value := Instr.loadAt 43 v
theorem vtLoad_eq (v : Value) : Instr.loadAt 43 v = vtLoad v := rfl
def vtStore (p v : Value) : Sem Unit := Instr.storeAt 43 p v
theorem vtStore_eq (p v : Value) : Instr.storeAt 43 p v = vtStore p v := rfl
def vtNew : Sem Value := Instr.alloc 43 true (.tuple #[])
theorem vtNew_eq : Instr.alloc 43 true (.tuple #[]) = vtNew := rfl
def rootLoad (v : Value) : Sem Value := Instr.loadAt 35 v
theorem rootLoad_eq (v : Value) : Instr.loadAt 35 v = rootLoad v := rfl
def sgLoad (v : Value) : Sem Value := Instr.loadAt 41 v
theorem sgLoad_eq (v : Value) : Instr.loadAt 41 v = sgLoad v := rfl
/-- A slice literal of one vote. -/
def vtBs1 (parts : Array (Nat × Value)) : Sem Value := Instr.buildSlice 32 1 parts
theorem vtBs1_eq (parts : Array (Nat × Value)) : Instr.buildSlice 32 1 parts = vtBs1 parts := rfl
def rootZ : List UInt8 := List.replicate 32 0
def hd0 : Hd := ⟨0, rootZ⟩
def vt0 : Vt := ⟨0, hd0, 0, 0⟩
def hd0C : Array Value := (hdC hd0).toArray
def vt0C : Array Value := (vtC vt0).toArray
theorem hd_load {W : World} {g o : Nat} {h : Hd} (hr : W.rangeAt g o (hdC h)) (hl : h.root.length = 32) : (hdLoad (.pointer (some ⟨g, o, none⟩))).run Tryz.prog W = .ok (.agg (hdC h).toArray) W :=
  run_loadAt_mid W g o 37 (hdC h) _ hr Tryz.underlying37 rfl (by rw [hdC_len hl]; kernel_rfl)
theorem vt_load {W : World} {g o : Nat} {v : Vt} (hr : W.rangeAt g o (vtC v)) (hl : v.head.root.length = 32) : (vtLoad (.pointer (some ⟨g, o, none⟩))).run Tryz.prog W = .ok (.agg (vtC v).toArray) W :=
  run_loadAt_mid W g o 43 (vtC v) _ hr Tryz.underlying43 rfl (by rw [vtC_len hl]; kernel_rfl)
theorem root_load {W : World} {g o : Nat} {l : List UInt8} (hr : W.rangeAt g o (l.map bv)) (hl : l.length = 32) : (rootLoad (.pointer (some ⟨g, o, none⟩))).run Tryz.prog W = .ok (hv l) W :=
  run_loadAt_mid W g o 35 (l.map bv) _ hr Tryz.underlying35 rfl (by rw [List.length_map, hl]; kernel_rfl)
theorem sg_load {W : World} {g o : Nat} {r s : Int} (hr : W.rangeAt g o [.int .i64 r, .int .i64 s]) : (sgLoad (.pointer (some ⟨g, o, none⟩))).run Tryz.prog W = .ok (sgv r s) W :=
  run_loadAt_mid W g o 41 [.int .i64 r, .int .i64 s] _ hr Tryz.underlying41 rfl (by kernel_rfl)
theorem hdC_one (h : Hd) : ∀ u ∈ hdC h, u.oneCell' = true := fun u hu => by
  unfold hdC at hu
  rcases List.mem_cons.1 hu with rfl | hu
  · rfl
  · obtain ⟨x, _, rfl⟩ := List.mem_map.1 hu; rfl
theorem vtC_one (v : Vt) : ∀ u ∈ vtC v, u.oneCell' = true := fun u hu => by
  unfold vtC at hu
  rcases List.mem_cons.1 hu with rfl | hu
  · rfl
  · rcases List.mem_append.1 hu with hu | hu
    · exact hdC_one _ _ hu
    · simp only [List.mem_cons, List.not_mem_nil, or_false] at hu
      rcases hu with rfl | rfl <;> rfl
theorem hd_store {W : World} {b : Nat} {cs : Array Value} {h : Hd} (hb : Blk W b tHd cs) (hs : cs.size = 33) (hl : h.root.length = 32) : (hdStore (.pointer (some ⟨b, 0, none⟩)) (.agg (hdC h).toArray)).run Tryz.prog W = .ok () (W.setCells b 0 (hdC h)) :=
  run_storeAt_mid (P := Tryz.prog) W b 0 37 (hdC h).toArray (hb.there 0 _ (by rw [List.size_toArray, hdC_len hl, hs]; exact Nat.le_refl _)) (by rw [List.size_toArray, hdC_len hl]; kernel_rfl) (all_oneCell_toArray (hdC_one h))
theorem vt_store {W : World} {b : Nat} {cs : Array Value} {v : Vt} (hb : Blk W b tVt cs) (hs : cs.size = 36) (hl : v.head.root.length = 32) : (vtStore (.pointer (some ⟨b, 0, none⟩)) (.agg (vtC v).toArray)).run Tryz.prog W = .ok () (W.setCells b 0 (vtC v)) :=
  run_storeAt_mid (P := Tryz.prog) W b 0 43 (vtC v).toArray (hb.there 0 _ (by rw [List.size_toArray, vtC_len hl, hs]; exact Nat.le_refl _)) (by rw [List.size_toArray, vtC_len hl]; kernel_rfl) (all_oneCell_toArray (vtC_one v))
theorem hdNew_run (W : World) : hdNew.run Tryz.prog W = .ok (.pointer (some ⟨W.heap.size, 0, none⟩)) (W.alloc (.cells hd0C 37)) := by kernel_rfl
theorem vtNew_run (W : World) : vtNew.run Tryz.prog W = .ok (.pointer (some ⟨W.heap.size, 0, none⟩)) (W.alloc (.cells vt0C 43)) := by kernel_rfl
theorem filled_whole {W : World} {b : Nat} {t : TypeId} {cs : Array Value} (h : Blk W b t cs) {ds : List Value} (hl : ds.length = cs.size) : Blk (W.setCells b 0 ds) b t ds.toArray := by
  have h1 : Blk W b t cs.toList.toArray := by rw [Array.toArray_toList]; exact h
  exact h1.filled ds (by rw [Array.length_toList]; exact hl)
/-- A vote in a block of its own. -/
def VtAt (w : World) (B : Nat) (v : Vt) : Prop := Blk w B tVt (vtC v).toArray
def HdAt (w : World) (B : Nat) (h : Hd) : Prop := Blk w B tHd (hdC h).toArray
theorem blk_range {w : World} {B : Nat} {t : TypeId} {cs : List Value} (h : Blk w B t cs.toArray) : w.rangeAt B 0 cs := fun j v hj => by rw [Nat.zero_add, h.cell]; simpa using hj
theorem range_head {w : World} {g o : Nat} {v : Vt} (hr : w.rangeAt g o (vtC v)) (_hl : v.head.root.length = 32) : w.rangeAt g (o + 1) (hdC v.head) := fun j x hj => by
  have h1 := hr (1 + j) x (by
    have hj2 := (List.getElem?_eq_some_iff.1 hj).1
    unfold vtC
    rw [show 1 + j = j + 1 by omega, List.getElem?_cons_succ, List.getElem?_append_left hj2]
    exact hj)
  rw [show o + 1 + j = o + (1 + j) by omega]
  exact h1
theorem range_sig {w : World} {g o : Nat} {v : Vt} (hr : w.rangeAt g o (vtC v)) (hl : v.head.root.length = 32) : w.rangeAt g (o + 34) [.int .i64 v.r, .int .i64 v.s] := fun j x hj => by
  have h1 := hr (34 + j) x (by
    unfold vtC
    rw [show 34 + j = (33 + j) + 1 by omega, List.getElem?_cons_succ, List.getElem?_append_right (by rw [hdC_len hl]; omega), hdC_len hl, show 33 + j - 33 = j by omega]
    exact hj)
  rw [show o + 34 + j = o + (34 + j) by omega]
  exact h1
theorem range_root {w : World} {g o : Nat} {h : Hd} (hr : w.rangeAt g o (hdC h)) : w.rangeAt g (o + 1) (h.root.map bv) := fun j x hj => by
  have h1 := hr (1 + j) x (by unfold hdC; rw [show 1 + j = j + 1 by omega, List.getElem?_cons_succ]; exact hj)
  rw [show o + 1 + j = o + (1 + j) by omega]
  exact h1
/-- A slice that reads as these votes. -/
def VtSl (w : World) (v : Value) (L : List Vt) : Prop :=
  ∃ A cap, v = .slice A L.length cap ∧ L.length ≤ cap ∧ cap ≤ 9223372036854775807 ∧ ∀ (i : Nat) (e : Vt), L[i]? = some e → ∃ g o, A = some ⟨g, o, none⟩ ∧ g < w.heap.size ∧ w.rangeAt g (o + i * 36) (vtC e)
theorem VtSl.only {w w' : World} {v : Value} {L : List Vt} (h : VtSl w v L) (ho : Only NoneOf w w') : VtSl w' v L := by
  obtain ⟨A, cap, hv, h1, h2, h3⟩ := h
  refine ⟨A, cap, hv, h1, h2, fun i p hp => ?_⟩
  obtain ⟨g, o, hA, hg, hr⟩ := h3 i p hp
  exact ⟨g, o, hA, Nat.lt_of_lt_of_le hg ho.size, rng_only hr ho⟩
def VtsOk (L : List Vt) : Prop := ∀ v ∈ L, v.Ok
/-- Votes that the call made. -/
def VtOwn (w : World) (base : Nat) (v : Value) (n : Nat) (L : List Vt) : Prop := w.ownsRow base 43 36 v n (L.flatMap vtC)
theorem vts_len : ∀ (L : List Vt) (_ : VtsOk L), (L.flatMap vtC).length = L.length * 36
  | [], _ => rfl
  | x :: l, h => by
    rw [List.flatMap_cons, List.length_append, vtC_len (h x (by simp)).head.root, vts_len l (fun p hp => h p (by simp [hp])), List.length_cons]
    omega
theorem vts_get : ∀ (L : List Vt) (_ : VtsOk L) (i j : Nat) (_ : j < 36) (p : Vt) (_ : L[i]? = some p), (L.flatMap vtC)[i * 36 + j]? = (vtC p)[j]?
  | [], _, _, _, _, _, h => by simp at h
  | x :: l, hf, i, j, hj, p, hp => by
    have hx := vtC_len (hf x (by simp)).head.root
    cases i with
    | zero =>
      simp at hp; subst hp
      simp only [List.flatMap_cons, Nat.zero_mul, Nat.zero_add]
      rw [List.getElem?_append_left (by rw [hx]; exact hj)]
    | succ i =>
      simp only [List.flatMap_cons]
      rw [List.getElem?_append_right (by rw [hx]; omega), hx, show (i + 1) * 36 + j - 36 = i * 36 + j by omega]
      exact vts_get l (fun q hq => hf q (by simp [hq])) i j hj p (by simpa using hp)
theorem VtOwn.sl {w : World} {base : Nat} {v : Value} {L : List Vt} (h : VtOwn w base v L.length L) (hok : VtsOk L) : VtSl w v L := by
  rcases h.2 with ⟨rfl, h0⟩ | ⟨g, cap, cur, rfl, hb, hh, hc, hm, hs, ht⟩
  · have hP0 : L = [] := List.eq_nil_of_length_eq_zero h0
    subst hP0
    exact ⟨none, 0, rfl, Nat.le_refl _, by omega, fun i e he => by simp at he⟩
  · rw [maxLen_val] at hm
    refine ⟨some ⟨g, 0, none⟩, cap, rfl, hc, hm, fun i p hp => ⟨g, 0, rfl, Blk.lt (t := 43) hh, fun j x hj => ?_⟩⟩
    have hj2 : j < 36 := by
      have := (List.getElem?_eq_some_iff.1 hj).1
      rwa [vtC_len (hok p (List.mem_of_getElem? hp)).head.root] at this
    have h1 := vts_get L hok i j hj2 p hp
    have h2 := World.ownsRow.cells h rfl (i * 36 + j) x (h1.trans hj)
    rw [Addr.add_mid, Nat.zero_add] at h2
    rw [Nat.zero_add]
    exact h2
theorem vt_info : ∃ ie z, Tryz.prog.info? 43 = some ie ∧ ie.size = 36 ∧ ie.zero = some z ∧ z.cells.size = 36 ∧ ie.bytes ≤ 100 := by
  have h1 : (Tryz.prog.info? 43).map (·.size) = some 36 := by kernel_rfl
  have h2 : ((Tryz.prog.info? 43).bind (·.zero)).isSome = true := by kernel_rfl
  have h3 : (Tryz.prog.info? 43).map (fun i => decide (i.bytes ≤ 100)) = some true := by kernel_rfl
  have h4 : ((Tryz.prog.info? 43).bind (·.zero)).map (fun z => z.cells.size) = some 36 := by kernel_rfl
  cases hie : Tryz.prog.info? 43 with
  | none => simp [hie] at h1
  | some ie =>
    simp only [hie, Option.map_some, Option.some.injEq, Option.bind_some, decide_eq_true_eq] at h1 h2 h3 h4
    obtain ⟨z, hz⟩ := Option.isSome_iff_exists.1 h2
    simp only [hz, Option.map_some, Option.some.injEq] at h4
    exact ⟨ie, z, rfl, h1, hz, h4, h3⟩
end Go.Proofs.YtgalfohobgjelaaGreatDoor
namespace Go.Proofs.YtgalfohobgjelaaGreatDoor
open Go.RowKit
/-- A vote's cells, 36 of them in any case. -/
def vtF (v : Vt) : List Value := if v.head.root.length = 32 then vtC v else List.replicate 36 undef
theorem vtF_len (v : Vt) : (vtF v).length = 36 := by
  unfold vtF
  split
  · exact vtC_len (by assumption)
  · simp
theorem vtF_of {v : Vt} (h : v.head.root.length = 32) : vtF v = vtC v := by unfold vtF; rw [if_pos h]
theorem flat_vtF {M : List Vt} (hM : VtsOk M) : M.flatMap vtF = M.flatMap vtC := by
  induction M with
  | nil => rfl
  | cons e l ih =>
    rw [List.flatMap_cons, List.flatMap_cons, vtF_of (hM e (by simp)).head.root, ih (fun x hx => hM x (by simp [hx]))]
theorem vstores_cells (vs : List Value) : ∀ (w : World) (g o : Nat), stores w g o vs = w.setCells g o vs := by
  induction vs with
  | nil => intro w g o; rfl
  | cons v l ih => intro w g o; simp only [stores, World.setCells]; exact ih _ _ _
theorem vts_set {M : List Vt} (hM : VtsOk M) {v : Vt} (hv : v.Ok) (i : Nat) : VtsOk (M.set i v) := fun x hx => by
  rcases List.mem_or_eq_of_mem_set hx with h | rfl
  · exact hM x h
  · exact hv
theorem VtOwn.put {w : World} {base g cap i : Nat} {M : List Vt} {v : Vt} (h : VtOwn w base (.slice (some ⟨g, 0, none⟩) M.length cap) M.length M) (hM : VtsOk M) (hi : i < M.length) (hv : v.Ok) :
    VtOwn (w.setCells g (i * 36) (vtC v)) base (.slice (some ⟨g, 0, none⟩) M.length cap) M.length (M.set i v) := by
  unfold VtOwn at h ⊢
  rw [← flat_vtF hM] at h
  rw [← flat_vtF (vts_set hM hv i), ← vtF_of hv.head.root, ← vstores_cells]
  exact own_put vtF_len v h hi
theorem VtOwn.range {w : World} {base g cap n m i : Nat} {M : List Vt} {v : Vt} (h : VtOwn w base (.slice (some ⟨g, 0, none⟩) n cap) m M) (hM : VtsOk M) (hv : M[i]? = some v) : w.rangeAt g (i * 36) (vtC v) := fun j x hj => by
  have hj2 : j < 36 := by
    have := (List.getElem?_eq_some_iff.1 hj).1
    rw [vtC_len (hM v (List.mem_of_getElem? hv)).head.root] at this; exact this
  have h1 := vts_get M hM i j hj2 v hv
  have h2 := World.ownsRow.cells h rfl (i * 36 + j) x (h1.trans hj)
  rw [Addr.add_mid, Nat.zero_add] at h2
  exact h2
theorem vown_there {w : World} {base g cap n : Nat} {e : TypeId} {size : Nat} {xs : List Value} (h : w.ownsRow base e size (.slice (some ⟨g, 0, none⟩) n cap) n xs) {o m : Nat} (hm : o + m ≤ n * size) : w.there g o m := by
  rcases h.2 with ⟨h0, _⟩ | ⟨g', cap', cur, hv, hb, hh, hc, hx, hs, ht⟩
  · simp at h0
  · simp only [Value.slice.injEq, Option.some.injEq, Addr.mk.injEq, and_true, true_and] at hv
    obtain ⟨rfl, rfl⟩ := hv
    exact Blk.there (t := e) (cs := cur) hh o m (by rw [hs]; exact Nat.le_trans hm (Nat.mul_le_mul_right _ hc))
theorem vt_store_own {w : World} {base g cap i : Nat} {M : List Vt} {v : Vt} (h : VtOwn w base (.slice (some ⟨g, 0, none⟩) M.length cap) M.length M) (hi : i < M.length) (hv : v.Ok) :
    (vtStore (.pointer (some ⟨g, i * 36, none⟩)) (.agg (vtC v).toArray)).run Tryz.prog w = .ok () (w.setCells g (i * 36) (vtC v)) := by
  have h36 : (vtC v).toArray.size = 36 := by rw [List.size_toArray, vtC_len hv.head.root]
  have h1 : i * 36 + 36 ≤ M.length * 36 := by
    have : (i + 1) * 36 ≤ M.length * 36 := Nat.mul_le_mul_right _ hi
    omega
  exact run_storeAt_mid (P := Tryz.prog) w g (i * 36) 43 (vtC v).toArray (vown_there h (by rw [h36]; exact h1)) (by rw [h36]; kernel_rfl) (all_oneCell_toArray (vtC_one v))
theorem zero_vt (w : World) : (zeroValue 43).run Tryz.prog w = .ok (.agg vt0C) w := by kernel_rfl
/-- The cells that 'clear' writes. -/
def clrZ (n : Nat) : List Value := (Builtin.zeroCells vt0C n).toList
theorem clrZ_len (n : Nat) : (clrZ n).length = n * 36 := by
  unfold clrZ Builtin.zeroCells
  rw [Array.length_toList, Array.size_map, Array.size_range]
  rfl
theorem vt0_one : ∀ k : Fin 36, (vt0C[k.val]!).oneCell' = true := by decide +kernel
theorem clrZ_one (n : Nat) : ∀ v ∈ clrZ n, v.oneCell' = true := fun v hv => by
  unfold clrZ Builtin.zeroCells at hv
  rw [Array.toList_map, List.mem_map] at hv
  obtain ⟨i, _, rfl⟩ := hv
  exact vt0_one ⟨i % 36, Nat.mod_lt _ (by omega)⟩
theorem run_clear_any {P : Program} {w w' : World} {t e : TypeId} {z : Value} (ty : TypeId) (ht : P.underlying t = some (.slice e)) (hv : ∀ w, (zeroValue e).run P w = .ok z w) (a : Addr) (m c : Nat)
    (hst : (storeCells a (Builtin.zeroCells z.cells (m + 1)).toList).run P w = .ok () w') : (Builtin.clear_ #[t] ty #[.slice (some a) (m + 1) c]).run P w = .ok (.tuple #[]) w' := by
  simp [Builtin.clear_, run_underlying ht, hv, hst]
theorem run_clear_vts (w : World) (ty : TypeId) (g o n c : Nat) (hn : 0 < n) (hc : w.there g o (n * 36)) :
    (Builtin.clear_ #[32] ty #[.slice (some ⟨g, o, none⟩) n c]).run Tryz.prog w = .ok (.tuple #[]) (w.setCells g o (clrZ n)) := by
  have hst := run_storeCells_cells (P := Tryz.prog) g o (clrZ n) 0 w (fun j hj => by rw [clrZ_len] at hj; rw [Nat.add_zero]; exact (hc j hj).1) (fun j hj => by rw [clrZ_len] at hj; rw [Nat.add_zero]; exact (hc j hj).2) (clrZ_one n)
  simp only [Nat.add_zero] at hst
  obtain ⟨m, rfl⟩ : ∃ m, n = m + 1 := ⟨n - 1, by omega⟩
  exact run_clear_any ty Tryz.underlying32 zero_vt _ m c hst
theorem VtOwn.cut {w : World} {base g cap n m : Nat} {M : List Vt} (h : VtOwn w base (.slice (some ⟨g, 0, none⟩) n cap) n M) (hM : VtsOk M) (hm : m ≤ n) (vs : List Value) : VtOwn (w.setCells g (m * 36) vs) base (.slice (some ⟨g, 0, none⟩) m cap) m (M.take m) := by
  have hl := h.1
  rw [vts_len M hM] at hl
  have hn : M.length = n := by omega
  have h1 := own_shrink h hm
  have ht : (M.flatMap vtC).take (m * 36) = (M.take m).flatMap vtC := by
    rw [← flat_vtF hM, flat_take vtF_len, flat_vtF (fun x hx => hM x (List.mem_of_mem_take hx))]
  rw [ht] at h1
  refine ⟨h1.1, .inr ?_⟩
  rcases h1.2 with ⟨hv, _⟩ | ⟨g', cap', cur, hv, hb, hh, hc, hx, hs, ht2⟩
  · simp at hv
  · simp only [Value.slice.injEq, Option.some.injEq, Addr.mk.injEq, and_true, true_and] at hv
    obtain ⟨rfl, rfl⟩ := hv
    have hB : Blk w g 43 cur.toList.toArray := by rw [Array.toArray_toList]; exact hh
    have h2 := Blk.setCells vs (m * 36) hB
    have hlen : ∀ (vs xs : List Value) (o : Nat), (setMany xs o vs).length = xs.length ∧ (setMany xs o vs).take o = xs.take o := by
      intro vs
      induction vs with
      | nil => intro xs o; exact ⟨rfl, rfl⟩
      | cons a l ih =>
        intro xs o
        obtain ⟨i1, i2⟩ := ih (xs.set o a) (o + 1)
        refine ⟨by rw [setMany, i1, List.length_set], ?_⟩
        have h3 := congrArg (List.take o) i2
        rw [List.take_take, List.take_take, Nat.min_eq_left (by omega)] at h3
        rw [setMany, h3, List.take_set_of_le (Nat.le_refl _)]
    refine ⟨g, cap, (setMany cur.toList (m * 36) vs).toArray, rfl, hb, h2, hc, hx, ?_, ?_⟩
    · rw [List.size_toArray, (hlen _ _ _).1, Array.length_toList, hs]
    · rw [(hlen _ _ _).2]; exact ht2
end Go.Proofs.YtgalfohobgjelaaGreatDoor
