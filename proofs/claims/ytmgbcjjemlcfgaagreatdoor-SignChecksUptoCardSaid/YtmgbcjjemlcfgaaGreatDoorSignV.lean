/- What is proved here: members and accepted signatures, by the reference. Condition: the texts are short. -/
import Derived.Test.YtmgbcjjemlcfgaaGreatDoorSignG
import Derived.Test.YtmgbcjjemlcfgaaGreatDoorPow
namespace Go.Proofs.YtmgbcjjemlcfgaaGreatDoor
open Go.RowKit Go.Shelf
set_option maxRecDepth 100000 in
set_option maxHeartbeats 400000 in
theorem rmember_any (a : Int) (h0 : -9223372036854775808 ≤ a) (h1 : a ≤ 9223372036854775807) (w : World) : Calls Tryz.prog 22 #[.int .i64 a] w fun e w' => e = .returned (.bool (memB a)) ∧ w' = w := by
  by_cases p0 : 0 < a
  · by_cases p1 : a < 2305843009213691579
    · have hp := rpow_any a Q0 2305843009213691579 h0 h1 (by rw [Q0_val]; omega) (by omega) (by omega) w
      have hm := memB_of p0 p1
      rw [Q0_int] at hp
      obtain ⟨v, ev⟩ : ∃ v, v = powI a Q0 2305843009213691579 := ⟨_, rfl⟩
      rw [← ev] at hp hm
      rw [hm]
      have HP := Lib.hid hp
      have p2 : 1 ≤ a := by omega
      clear hp hm ev h0 h1
      go_enter Tryz.func22, Tryz.ntmps22
      go_wp2_with fail
      refine HP.out.mono ?_
      rintro e w1 ⟨rfl, hw1⟩
      subst hw1
      by_cases hv1 : v = 1
      · subst hv1
        go_wp2_with fail
        go_ret
        exact ⟨rfl, rfl⟩
      · have hv2 : ¬ (v : Int) = 1 := by omega
        go_wp2_with fail
        go_ret
        exact ⟨by simp [hv1]; omega, rfl⟩
    · rw [memB_high p1]
      have p2 : 1 ≤ a := by omega
      go_enter Tryz.func22, Tryz.ntmps22
      go_wp2_with fail
      go_ret
      exact ⟨rfl, rfl⟩
  · rw [memB_low p0]
    have p2 : ¬ 1 ≤ a := by omega
    go_enter Tryz.func22, Tryz.ntmps22
    go_wp2_with fail
    go_ret
    exact ⟨rfl, rfl⟩
set_option maxRecDepth 100000 in
set_option maxHeartbeats 1000000 in
theorem rverify_any (key r sg : Int) (s : ByteArray) (w : World) (hs : s.size ≤ 17592186044416) (k0 : -9223372036854775808 ≤ key) (k1 : key ≤ 9223372036854775807) (r0 : -9223372036854775808 ≤ r) (r1 : r ≤ 9223372036854775807) :
    Calls Tryz.prog 8 #[.int .i64 key, .string s, sgv r sg] w fun e w' => e = .returned (.bool (goodB key s.data.toList r sg)) ∧ Only NoneOf w w' := by
  have hmk := fun W => rmember_any key k0 k1 W
  have hmr := fun W => rmember_any r r0 r1 W
  unfold sgv
  have hgk := fun h => good_no_key (key := key) (r := r) (s := sg) (text := s.data.toList) h
  have hgr := fun h => good_no_r (key := key) (r := r) (s := sg) (text := s.data.toList) h
  have hgs := fun h => good_no_s (key := key) (r := r) (s := sg) (text := s.data.toList) h
  have hgo := fun hk hr => good_of (key := key) (r := r) (s := sg) (text := s.data.toList) hk hr
  have hri := fun h => memB_in (a := r) h
  obtain ⟨bk, ebk⟩ : ∃ b, b = memB key := ⟨_, rfl⟩
  obtain ⟨br, ebr⟩ : ∃ b, b = memB r := ⟨_, rfl⟩
  rw [← ebk] at hmk hgk hgo
  rw [← ebr] at hmr hgr hgo hri
  obtain ⟨X, eX⟩ : ∃ X, X = w.alloc (.cells #[.int .i64 r, .int .i64 sg] tSig) := ⟨_, rfl⟩
  obtain ⟨B, eB⟩ : ∃ B, B = w.heap.size := ⟨_, rfl⟩
  have hb := Blk.new w tSig #[.int .i64 r, .int .i64 sg]
  have hx : Only NoneOf w X := by rw [eX]; exact (Only.refl _ _).alloc _
  rw [← eX, ← eB] at hb
  have c0 : X.cell? ⟨B, 0, none⟩ = some (.int .i64 r) := hb.cell 0
  have c1 : X.cell? ⟨B, 1, none⟩ = some (.int .i64 sg) := hb.cell 1
  have HB := Lib.hid hb
  have HX := Lib.hid hx
  have HMK := Lib.hid hmk
  have HMR := Lib.hid hmr
  have HGK := Lib.hid hgk
  have HGR := Lib.hid hgr
  have HGS := Lib.hid hgs
  have HGO := Lib.hid hgo
  have HRI := Lib.hid hri
  have EX := Lib.hid eX
  have EB := Lib.hid eB
  have HK0 := Lib.hid (And.intro k0 k1)
  clear hb hx hmk hmr hgk hgr hgs hgo hri eX eB ebk ebr k0 k1 r0 r1
  go_enter Tryz.func8, Tryz.ntmps8
  go_wp2_with fail
  rw [← EX.out, ← EB.out]
  clear EX EB
  refine (HMK.out _).mono ?_
  rintro e w1 ⟨rfl, hw1⟩
  subst hw1
  go_wp2_with fail
  refine (HMR.out _).mono ?_
  rintro e w2 ⟨rfl, hw2⟩
  subst hw2
  cases bk
  · go_wp2_with fail
    go_ret
    exact ⟨ret_bool (HGK.out (by simp)).symm, HX.out⟩
  cases br
  · go_wp2_with fail
    go_ret
    exact ⟨ret_bool (HGR.out (by simp)).symm, HX.out⟩
  by_cases hs0 : sg < 0
  · go_wp2_with fail
    go_ret
    exact ⟨ret_bool (HGS.out (.inl hs0)).symm, HX.out⟩
  by_cases hs1 : sg < 1152921504606845789
  · have hs2 : ¬ 1152921504606845789 ≤ sg := by omega
    have hg := HGO.out (by simp) (by simp) (by omega) hs1
    have hri := HRI.out (by simp)
    have hk01 := HK0.out
    have hc := fun W => rchal_any r key s W hs
    have hcl := chal_lt r key s.data.toList
    rw [Q0_val] at hcl
    obtain ⟨c, ec⟩ : ∃ c, c = chal r key s.data.toList := ⟨_, rfl⟩
    rw [← ec] at hc hcl hg
    obtain ⟨σ, eσ⟩ : ∃ σ : Nat, σ = sg.toNat := ⟨_, rfl⟩
    rw [← eσ] at hg
    have eσ2 : (σ : Int) = sg := by omega
    have hp1 := fun W => rpow_any 4 σ 2305843009213691579 (by omega) (by omega) (by omega) (by omega) (by omega) W
    rw [powI_gp, eσ2] at hp1
    obtain ⟨g, eg⟩ : ∃ g, g = gp σ := ⟨_, rfl⟩
    rw [← eg] at hp1 hg
    have hp2 := fun W => rpow_any key c 2305843009213691579 hk01.1 hk01.2 (by omega) (by omega) (by omega) W
    have hpl : powI key c 2305843009213691579 < 2305843009213691579 := Nat.mod_lt _ (by decide)
    obtain ⟨q, eq⟩ : ∃ q, q = powI key c 2305843009213691579 := ⟨_, rfl⟩
    rw [← eq] at hp2 hpl hg
    have hmul := fun W => rmul_any r q 2305843009213691579 (by omega) (by omega) (by omega) (by omega) (by omega) (by omega) W
    obtain ⟨m, em⟩ : ∃ m, m = r * (q : Int) % 2305843009213691579 := ⟨_, rfl⟩
    rw [← em] at hmul hg
    have HG := Lib.hid hg
    have HC := Lib.hid hc
    have HP1 := Lib.hid hp1
    have HP2 := Lib.hid hp2
    have HMUL := Lib.hid hmul
    clear hc hp1 hp2 hmul hg ec eg eq em eσ eσ2 hk01 hri
    go_wp2_with fail
    refine (HC.out _).mono ?_
    rintro e w3 ⟨rfl, ho3⟩
    have hb3 := HB.out.only ho3 (fun e => e)
    have e0 : w3.cell? ⟨B, 0, none⟩ = some (.int .i64 r) := hb3.cell 0
    have e1 : w3.cell? ⟨B, 1, none⟩ = some (.int .i64 sg) := hb3.cell 1
    have HO3 := Lib.hid (HX.out.trans ho3)
    clear ho3 hb3 c0 c1
    go_wp2_with fail
    go_region_held3 (fun w' => w'.cell? ⟨B, 0, none⟩ = some (.int .i64 r) ∧ w'.cell? ⟨B, 1, none⟩ = some (.int .i64 sg)) (first | assumption | exact ⟨e0, e1⟩ | (refine ⟨?_, ?_⟩ <;> assumption) | go_keep)
      (first
        | (go_at_call 13; (with_reducible refine (HP1.out _).mono ?_); rintro e w4 ⟨rfl, hw4⟩; subst hw4)
        | (go_at_call 13; (with_reducible refine (HP2.out _).mono ?_); rintro e w5 ⟨rfl, hw5⟩; subst hw5)
        | (go_at_call 24; (with_reducible refine (HMUL.out _).mono ?_); rintro e w6 ⟨rfl, hw6⟩; subst hw6))
    all_goals
      go_wp2_with fail
      go_ret
      exact ⟨ret_bool HG.out.symm, only_drewN HO3.out _⟩
  · have hs2 : 1152921504606845789 ≤ sg := by omega
    go_wp2_with fail
    go_ret
    exact ⟨ret_bool (HGS.out (.inr (by omega))).symm, HX.out⟩
end Go.Proofs.YtmgbcjjemlcfgaaGreatDoor
