/- What is proved here: the law package's own check answers true: the walk. Conditions: the library's variables hold what their initialisers lay. -/
import Derived.Test.YtmgbcjjemlcfgaaGreatDoorSignO
namespace Go.Proofs.YtmgbcjjemlcfgaaGreatDoor
open Go.RowKit Go.Shelf
/-- The local variables of the check. -/
structure SanI (w : World) (g3 g4 : Nat) (a b : Int) (W : World) : Prop where
  b3 : Blk W g3 tSig #[.int .i64 a, .int .i64 b]
  b4 : Blk W g4 tSig #[.int .i64 1, .int .i64 0]
  b5 : Blk W (g4 + 1) tSig #[.int .i64 1, .int .i64 1152921504606845789]
  rest : Only NoneOf w W
theorem SanI.only {w W W' : World} {g3 g4 : Nat} {a b : Int} (h : SanI w g3 g4 a b W) (ho : Only NoneOf W W') : SanI w g3 g4 a b W' :=
  ⟨h.b3.only ho (fun e => e), h.b4.only ho (fun e => e), h.b5.only ho (fun e => e), h.rest.trans ho⟩
set_option maxRecDepth 100000 in
set_option maxHeartbeats 2000000 in
theorem sanity_any (w : World) (he : Env w) : Calls Tryz.prog 4 #[] w fun e w' => e = .returned (.bool true) ∧ Only NoneOf w w' := by
  have hk := fun W => skey_any ⟨#[115]⟩ W (by decide)
  obtain ⟨k, ek⟩ : ∃ k, k = keyOf (⟨#[115]⟩ : ByteArray).data.toList := ⟨_, rfl⟩
  rw [← ek] at hk
  have hsg := fun W => ssign_any k ⟨#[116]⟩ W (by decide)
  have hgd := good_sign k (⟨#[116]⟩ : ByteArray).data.toList
  unfold signed at hsg
  obtain ⟨a, ea⟩ : ∃ a : Int, a = (gp (nonce (expo k) (⟨#[116]⟩ : ByteArray).data.toList) : Int) := ⟨_, rfl⟩
  obtain ⟨b, eb⟩ : ∃ b : Int, b = (sigS k (⟨#[116]⟩ : ByteArray).data.toList (nonce (expo k) (⟨#[116]⟩ : ByteArray).data.toList) : Int) := ⟨_, rfl⟩
  have ha : 0 ≤ a ∧ a < 2305843009213691579 := by rw [ea]; have := pw_small 4 (nonce (expo k) (⟨#[116]⟩ : ByteArray).data.toList); unfold gp; omega
  rw [← ea, ← eb] at hsg hgd
  have hpk := pub_small k
  obtain ⟨pk, epk⟩ : ∃ pk, pk = pub k := ⟨_, rfl⟩
  rw [← epk] at hk hgd hpk
  have hv1 := fun W => sverify_any pk a b ⟨#[116]⟩ W (by decide) (by omega) (by omega) (by omega) (by omega)
  rw [hgd] at hv1
  have hv2 := fun W => sverify_any 1 1 0 ⟨#[116]⟩ W (by decide) (by omega) (by omega) (by omega) (by omega)
  rw [good_one_one] at hv2
  have hv3 := fun W => sverify_any 0 1 0 ⟨#[116]⟩ W (by decide) (by omega) (by omega) (by omega) (by omega)
  rw [good_no_key (memB_low (by omega))] at hv3
  have hv4 := fun W => sverify_any 1 1 1152921504606845789 ⟨#[116]⟩ W (by decide) (by omega) (by omega) (by omega) (by omega)
  rw [good_no_s (.inr (by omega))] at hv4
  have ht := fun W hW => stext_any 12 (-3) ⟨by omega, by omega⟩ ⟨by omega, by omega⟩ W hW
  rw [text_neg] at ht
  have hr1 := fun W hW => sread_any ⟨#[49, 50, 46, 51]⟩ (by decide) W hW
  have hr2 := fun W hW => sread_any ⟨#[48, 49, 50, 46, 51]⟩ (by decide) W hW
  unfold sgv at hv1 hv2 hv3 hv4 hsg ht
  have HK := Lib.hid hk
  have HSG := Lib.hid hsg
  have HV1 := Lib.hid hv1
  have HV2 := Lib.hid hv2
  have HV3 := Lib.hid hv3
  have HV4 := Lib.hid hv4
  have HT := Lib.hid ht
  have HR1 := Lib.hid hr1
  have HR2 := Lib.hid hr2
  have HE := Lib.hid he
  clear hk ek hsg hgd ea eb ha hpk epk hv1 hv2 hv3 hv4 ht hr1 hr2 he
  go_enter Tryz.func4, Tryz.ntmps4
  go_wp2_with fail
  refine (HK.out w).mono ?_
  rintro e w1 ⟨rfl, ho1⟩
  have HO1 := Lib.hid ho1
  clear ho1
  go_wp2_with fail
  refine (HSG.out w1).mono ?_
  rintro e w2 ⟨rfl, ho2⟩
  have HO2 := Lib.hid (HO1.out.trans ho2)
  clear ho2
  go_wp2_with fail
  have hI : SanI w w2.heap.size (w2.heap.size + 1) a b (((w2.alloc (.cells #[.int .i64 a, .int .i64 b] tSig)).alloc (.cells #[.int .i64 1, .int .i64 0] tSig)).alloc (.cells #[.int .i64 1, .int .i64 1152921504606845789] tSig)) := by
    refine ⟨((Blk.new w2 _ _).alloc _).alloc _, ?_, ?_, ((HO2.out.alloc _).alloc _).alloc _⟩
    · have h := Blk.new (w2.alloc (.cells #[.int .i64 a, .int .i64 b] tSig)) tSig #[.int .i64 1, .int .i64 0]
      rw [World.size_alloc] at h
      exact h.alloc _
    · have h := Blk.new ((w2.alloc (.cells #[.int .i64 a, .int .i64 b] tSig)).alloc (.cells #[.int .i64 1, .int .i64 0] tSig)) tSig #[.int .i64 1, .int .i64 1152921504606845789]
      rw [World.size_alloc, World.size_alloc] at h
      exact h
  obtain ⟨g3, e3⟩ : ∃ g, g = w2.heap.size := ⟨_, rfl⟩
  obtain ⟨g4, e4⟩ : ∃ g, g = w2.heap.size + 1 := ⟨_, rfl⟩
  obtain ⟨Y, eY⟩ : ∃ Y, Y = ((w2.alloc (.cells #[.int .i64 a, .int .i64 b] tSig)).alloc (.cells #[.int .i64 1, .int .i64 0] tSig)).alloc (.cells #[.int .i64 1, .int .i64 1152921504606845789] tSig) := ⟨_, rfl⟩
  rw [← eY, ← e4, ← e3] at hI
  rw [← eY, ← e4, ← e3]
  have HI := Lib.hid hI
  clear hI eY e4 e3
  refine (HR1.out Y (HE.out.none HI.out.rest)).mono ?_
  rintro e w3 ⟨hE, ho3⟩
  obtain rfl := read_in text_12 hE
  have HI3 := Lib.hid (HI.out.only ho3)
  clear hE ho3
  unfold sgv
  go_wp2_with fail
  have hO6 : Only NoneOf w3 (w3.alloc (.cells #[.int .i64 12, .int .i64 3] tSig)) := (Only.refl _ _).alloc _
  refine (HR2.out _ (HE.out.none (HI3.out.only hO6).rest)).mono ?_
  rintro e w4 ⟨hE, ho4⟩
  obtain rfl := read_out text_012 hE
  have hb6 : Blk w4 w3.heap.size tSig #[.int .i64 12, .int .i64 3] := (Blk.new w3 _ _).only ho4 (fun e => e)
  have hO8 : Only NoneOf w4 (w4.alloc (.cells #[.int .i64 0, .int .i64 0] tSig)) := (Only.refl _ _).alloc _
  have hI5 := ((HI3.out.only hO6).only ho4).only hO8
  have hb6' := hb6.only hO8 (fun e => e)
  have c0 := hI5.b3.cell 0
  have c1 := hI5.b3.cell 1
  have HI5 := Lib.hid hI5
  have HB6 := Lib.hid hb6'
  clear hE ho4 hO6 hO8 hb6 hb6' hI5
  unfold sgv
  go_wp2_with fail
  obtain ⟨g6, e6⟩ : ∃ g, g = w3.heap.size := ⟨_, rfl⟩
  rw [← e6] at HB6 ⊢
  clear e6
  refine (HV1.out _).mono ?_
  rintro e w5 ⟨rfl, ho5⟩
  have hI5 := HI5.out.only ho5
  have d0 := hI5.b4.cell 0
  have d1 := hI5.b4.cell 1
  have HI6 := Lib.hid hI5
  have HB7 := Lib.hid (HB6.out.only ho5 (fun e => e))
  clear ho5 hI5 c0 c1
  go_wp2_with fail
  refine (HV2.out _).mono ?_
  rintro e w6 ⟨rfl, ho6⟩
  have hI6 := HI6.out.only ho6
  have e0 := hI6.b4.cell 0
  have e1 := hI6.b4.cell 1
  have HI7 := Lib.hid hI6
  have HB8 := Lib.hid (HB7.out.only ho6 (fun e => e))
  clear ho6 hI6 d0 d1
  go_wp2_with fail
  refine (HV3.out _).mono ?_
  rintro e w7 ⟨rfl, ho7⟩
  have hI7 := HI7.out.only ho7
  have f0 := hI7.b5.cell 0
  have f1 := hI7.b5.cell 1
  have HI8 := Lib.hid hI7
  have HB9 := Lib.hid (HB8.out.only ho7 (fun e => e))
  clear ho7 hI7 e0 e1
  go_wp2_with fail
  refine (HV4.out _).mono ?_
  rintro e w8 ⟨rfl, ho8⟩
  have HI9 := Lib.hid (HI8.out.only ho8)
  have HBA := Lib.hid (HB9.out.only ho8 (fun e => e))
  clear ho8 f0 f1
  go_wp2_with fail
  refine (HT.out _ (HE.out.none HI9.out.rest).tab).mono ?_
  rintro e w9 ⟨t, rfl, htx, ho9⟩
  have hba := HBA.out.only ho9 (fun e => e)
  have c0 := hba.cell 0
  have c1 := hba.cell 1
  have hq : (t.toList == [49, 50, 46, 45, 51]) = true := by
    rw [Lib.toList_data, htx]; rfl
  have hq2 : t.toList = [49, 50, 46, 45, 51] := by rw [Lib.toList_data, htx]
  have HO9 := Lib.hid (HI9.out.rest.trans ho9)
  clear htx ho9 hba
  go_wp2_with fail
  go_ret
  exact ⟨rfl, HO9.out⟩
end Go.Proofs.YtmgbcjjemlcfgaaGreatDoor
