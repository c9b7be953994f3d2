/- What is proved here: a signature is accepted as the group says, by the program. Condition: the texts are short. -/
import Derived.Test.YtmgbcjjemlcfgaaGreatDoorSignF
import Derived.Deep.RegionHeld3
namespace Go.Proofs.YtmgbcjjemlcfgaaGreatDoor
open Go.RowKit Go.Shelf
set_option maxRecDepth 100000 in
set_option maxHeartbeats 1000000 in
theorem sverify_any (key r sg : Int) (s : ByteArray) (w : World) (hs : s.size ≤ 17592186044416) (k0 : -9223372036854775808 ≤ key) (k1 : key ≤ 9223372036854775807) (r0 : -9223372036854775808 ≤ r) (r1 : r ≤ 9223372036854775807) :
    Calls Tryz.prog 7 #[.int .i64 key, .string s, sgv r sg] w fun e w' => e = .returned (.bool (goodB key s.data.toList r sg)) ∧ Only NoneOf w w' := by
  have hmk := fun W => fmember_any key k0 k1 W
  have hmr := fun W => fmember_any r r0 r1 W
  unfold sgv
  by_cases hk : memB key = true
  · rw [hk] at hmk
    by_cases hr : memB r = true
    · rw [hr] at hmr
      by_cases hs0 : sg < 0
      · rw [good_no_s (.inl hs0)]
        have HMK := Lib.hid hmk
        have HMR := Lib.hid hmr
        clear hmk hmr
        go_enter Tryz.func7, Tryz.ntmps7
        go_wp2_with fail
        refine (HMK.out _).mono ?_
        rintro e w1 ⟨rfl, ho1⟩
        have hb1 : Blk w1 w.heap.size tSig #[.int .i64 r, .int .i64 sg] := (Blk.new w _ _).only ho1 (fun e => e)
        have c0 := hb1.cell 0
        have HB1 := Lib.hid hb1
        have HO1 := Lib.hid (((Only.refl NoneOf w).alloc _).trans ho1)
        clear hb1 ho1
        go_wp2_with fail
        refine (HMR.out _).mono ?_
        rintro e w2 ⟨rfl, ho2⟩
        have c1 := (HB1.out.only ho2 (fun e => e)).cell 1
        have HO2 := Lib.hid (HO1.out.trans ho2)
        clear ho2
        go_wp2_with fail
        go_ret
        exact ⟨rfl, HO2.out⟩
      · by_cases hs1 : sg < 1152921504606845789
        · have hg := good_of (text := s.data.toList) hk hr (by omega) hs1
          have hri := memB_in hr
          rw [hg]
          have hc := fun W => schal_any r key s W hs
          have hcl := chal_lt r key s.data.toList
          rw [Q0_val] at hcl
          obtain ⟨c, ec⟩ : ∃ c, c = chal r key s.data.toList := ⟨_, rfl⟩
          rw [← ec] at hc hcl ⊢
          obtain ⟨σ, eσ⟩ : ∃ σ : Nat, σ = sg.toNat := ⟨_, rfl⟩
          rw [← eσ]
          have eσ2 : (σ : Int) = sg := by omega
          have hp1 := fun W => fpow_any 4 σ 2305843009213691579 (by omega) (by omega) (by omega) (by omega) (by omega) W
          rw [powI_gp, eσ2] at hp1
          obtain ⟨g, eg⟩ : ∃ g, g = gp σ := ⟨_, rfl⟩
          rw [← eg] at hp1 ⊢
          have hp2 := fun W => fpow_any key c 2305843009213691579 k0 k1 (by omega) (by omega) (by omega) W
          have hpl : powI key c 2305843009213691579 < 2305843009213691579 := Nat.mod_lt _ (by decide)
          obtain ⟨q, eq⟩ : ∃ q, q = powI key c 2305843009213691579 := ⟨_, rfl⟩
          rw [← eq] at hp2 hpl ⊢
          have hmul := fun W => fMul_any r q 2305843009213691579 (by omega) (by omega) (by omega) (by omega) (by omega) (by omega) W
          obtain ⟨m, em⟩ : ∃ m, m = r * (q : Int) % 2305843009213691579 := ⟨_, rfl⟩
          rw [← em] at hmul ⊢
          have HMK := Lib.hid hmk
          have HMR := Lib.hid hmr
          have HC := Lib.hid hc
          have HP1 := Lib.hid hp1
          have HP2 := Lib.hid hp2
          have HMUL := Lib.hid hmul
          clear hmk hmr hg ec hc hp1 hp2 hmul eg eq em eσ eσ2 k0 k1 r0 r1 hk hr
          go_enter Tryz.func7, Tryz.ntmps7
          go_wp2_with fail
          refine (HMK.out _).mono ?_
          rintro e w1 ⟨rfl, ho1⟩
          have hb1 : Blk w1 w.heap.size tSig #[.int .i64 r, .int .i64 sg] := (Blk.new w _ _).only ho1 (fun e => e)
          have c0 := hb1.cell 0
          have HB1 := Lib.hid hb1
          have HO1 := Lib.hid (((Only.refl NoneOf w).alloc _).trans ho1)
          clear hb1 ho1
          go_wp2_with fail
          refine (HMR.out _).mono ?_
          rintro e w2 ⟨rfl, ho2⟩
          have hb2 := HB1.out.only ho2 (fun e => e)
          have c1 := hb2.cell 1
          have d0 := hb2.cell 0
          have HB2 := Lib.hid hb2
          have HO2 := Lib.hid (HO1.out.trans ho2)
          clear ho2 hb2
          go_wp2_with fail
          refine (HC.out _).mono ?_
          rintro e w3 ⟨rfl, ho3⟩
          obtain ⟨B, eB⟩ : ∃ B, B = w.heap.size := ⟨_, rfl⟩
          rw [← eB] at HB2 ⊢
          have hb3 := HB2.out.only ho3 (fun e => e)
          have e0 : w3.cell? ⟨B, 0, none⟩ = some (.int .i64 r) := hb3.cell 0
          have e1 : w3.cell? ⟨B, 1, none⟩ = some (.int .i64 sg) := hb3.cell 1
          have HB3 := Lib.hid hb3
          have HO3 := Lib.hid (HO2.out.trans ho3)
          clear ho3 hb3 c0 c1 d0 eB HB1 HB2 hs0
          go_wp2_with fail
          go_region_held3 (fun w' => w'.cell? ⟨B, 0, none⟩ = some (.int .i64 r) ∧ w'.cell? ⟨B, 1, none⟩ = some (.int .i64 sg)) (first | assumption | exact ⟨e0, e1⟩ | (refine ⟨?_, ?_⟩ <;> assumption) | go_keep)
            (first
              | (go_at_call 20; (with_reducible refine (HP1.out _).mono ?_); rintro e w4 ⟨rfl, ho4⟩; have HO4 : Hid (Only NoneOf w w4) := Lib.hid (HO3.out.trans (only_of_drew ho4)); have s0 := (only_of_drew ho4).cell_some e0 (fun e => e); have s1 := (only_of_drew ho4).cell_some e1 (fun e => e); clear ho4)
              | (go_at_call 20; (with_reducible refine (HP2.out _).mono ?_); rintro e w5 ⟨rfl, ho5⟩; have HO5 : Hid (Only NoneOf w w5) := Lib.hid (HO4.out.trans ho5); have s2 := ho5.cell_some s0 (fun e => e); have s3 := ho5.cell_some s1 (fun e => e); clear ho5)
              | (go_at_call 21; (with_reducible refine (HMUL.out _).mono ?_); rintro e w6 ⟨rfl, k6, rfl⟩))
          all_goals
            go_wp2_with fail
            go_ret
            first
              | exact ⟨rfl, only_drewN HO5.out _⟩
              | exact ⟨rfl, HO5.out⟩
        · rw [good_no_s (.inr hs1)]
          have HMK := Lib.hid hmk
          have HMR := Lib.hid hmr
          clear hmk hmr
          go_enter Tryz.func7, Tryz.ntmps7
          go_wp2_with fail
          refine (HMK.out _).mono ?_
          rintro e w1 ⟨rfl, ho1⟩
          have hb1 : Blk w1 w.heap.size tSig #[.int .i64 r, .int .i64 sg] := (Blk.new w _ _).only ho1 (fun e => e)
          have c0 := hb1.cell 0
          have HB1 := Lib.hid hb1
          have HO1 := Lib.hid (((Only.refl NoneOf w).alloc _).trans ho1)
          clear hb1 ho1
          go_wp2_with fail
          refine (HMR.out _).mono ?_
          rintro e w2 ⟨rfl, ho2⟩
          have c1 := (HB1.out.only ho2 (fun e => e)).cell 1
          have HO2 := Lib.hid (HO1.out.trans ho2)
          clear ho2
          go_wp2_with fail
          go_ret
          exact ⟨rfl, HO2.out⟩
    · have hr' : memB r = false := by simpa using hr
      rw [good_no_r hr']
      rw [hr'] at hmr
      have HMK := Lib.hid hmk
      have HMR := Lib.hid hmr
      clear hmk hmr
      go_enter Tryz.func7, Tryz.ntmps7
      go_wp2_with fail
      refine (HMK.out _).mono ?_
      rintro e w1 ⟨rfl, ho1⟩
      have hb1 : Blk w1 w.heap.size tSig #[.int .i64 r, .int .i64 sg] := (Blk.new w _ _).only ho1 (fun e => e)
      have c0 := hb1.cell 0
      have HO1 := Lib.hid (((Only.refl NoneOf w).alloc _).trans ho1)
      clear hb1 ho1
      go_wp2_with fail
      refine (HMR.out _).mono ?_
      rintro e w2 ⟨rfl, ho2⟩
      have HO2 := Lib.hid (HO1.out.trans ho2)
      clear ho2
      go_wp2_with fail
      go_ret
      exact ⟨rfl, HO2.out⟩
  · have hk' : memB key = false := by simpa using hk
    rw [good_no_key hk']
    rw [hk'] at hmk
    have HMK := Lib.hid hmk
    clear hmk hmr
    go_enter Tryz.func7, Tryz.ntmps7
    go_wp2_with fail
    refine (HMK.out _).mono ?_
    rintro e w1 ⟨rfl, ho1⟩
    have HO1 := Lib.hid (((Only.refl NoneOf w).alloc _).trans ho1)
    clear ho1
    go_wp2_with fail
    go_ret
    exact ⟨rfl, HO1.out⟩
end Go.Proofs.YtmgbcjjemlcfgaaGreatDoor
