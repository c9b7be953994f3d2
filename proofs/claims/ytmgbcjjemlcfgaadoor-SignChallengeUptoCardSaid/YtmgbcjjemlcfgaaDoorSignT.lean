/- What is proved here: the law on challenges answers true. Conditions: the library's variables hold what their initialisers lay. -/
import Derived.Test.YtmgbcjjemlcfgaaDoorSignS
namespace Go.Proofs.YtmgbcjjemlcfgaaDoor
open Go.RowKit Go.Shelf
theorem good_alike {key r s : Int} {t u : List UInt8} (h : chal r key t = chal r key u) : goodB key t r s = goodB key u r s := by
  rw [Bool.eq_iff_iff, goodB_true, goodB_true]
  unfold Good
  rw [h]
theorem good_both {key r s : Int} {t u : List UInt8} (h : goodB key t r s = true) (k : goodB key u r s = true) : chal r key t = chal r key u ∨ key = 1 := good_two (goodB_true.1 h) (goodB_true.1 k)
set_option maxRecDepth 100000 in
set_option maxHeartbeats 2000000 in
theorem challenge_any (x : Int) (s t : ByteArray) (w : World) (he : Env w) : Calls Tryd.prog 9 #[.int .i64 x, .string s, .string t] w fun e w' => e = .returned (.bool true) ∧ Only NoneOf w w' := by
  have hcz := cut_size s
  have hcy := cut_size t
  obtain ⟨m, em⟩ : ∃ m, m = min s.size 300 := ⟨_, rfl⟩
  obtain ⟨n, en⟩ : ∃ n, n = min t.size 300 := ⟨_, rfl⟩
  rw [← em] at hcz
  rw [← en] at hcy
  have m1 : min (s.size : Int) 300 = (m : Int) := by omega
  have m2 : (m : Int) ≤ (s.size : Int) := by omega
  have m0 : (0 : Int) ≤ (m : Int) := by omega
  have n1 : min (t.size : Int) 300 = (n : Int) := by omega
  have n2 : (n : Int) ≤ (t.size : Int) := by omega
  have n0 : (0 : Int) ≤ (n : Int) := by omega
  have hsg := fun W => ssign_any x (s.extract 0 m) W hcz
  have hgd := good_sign x (s.extract 0 m).data.toList
  unfold signed at hsg
  obtain ⟨a, ea⟩ : ∃ a : Int, a = (gp (nonce (expo x) (s.extract 0 m).data.toList) : Int) := ⟨_, rfl⟩
  obtain ⟨b, eb⟩ : ∃ b : Int, b = (sigS x (s.extract 0 m).data.toList (nonce (expo x) (s.extract 0 m).data.toList) : Int) := ⟨_, rfl⟩
  have ha : 0 ≤ a ∧ a < 2305843009213691579 := by rw [ea]; have := pw_small 4 (nonce (expo x) (s.extract 0 m).data.toList); unfold gp; omega
  rw [← ea, ← eb] at hsg hgd
  have hp := fun W => rpub_any x W
  have hpk := pub_small x
  obtain ⟨pk, epk⟩ : ∃ pk, pk = pub x := ⟨_, rfl⟩
  rw [← epk] at hp hgd hpk
  obtain ⟨K, eK⟩ : ∃ K : Int, K = (pk : Int) := ⟨_, rfl⟩
  rw [← eK] at hp hgd
  have hc1 := fun W => rchal_any a K (s.extract 0 m) W hcz
  have hc2 := fun W => rchal_any a K (t.extract 0 n) W hcy
  have hv1 := fun W => sverify_any K a b (s.extract 0 m) W hcz (by omega) (by omega) (by omega) (by omega)
  have hv2 := fun W => sverify_any K a b (t.extract 0 n) W hcy (by omega) (by omega) (by omega) (by omega)
  have h1 : chal a K (s.extract 0 m).data.toList = chal a K (t.extract 0 n).data.toList → goodB K (t.extract 0 n).data.toList a b = true := fun h => by rw [← good_alike h]; exact hgd
  have h2 : goodB K (t.extract 0 n).data.toList a b = true → chal a K (s.extract 0 m).data.toList = chal a K (t.extract 0 n).data.toList ∨ K = 1 := fun h => good_both hgd h
  obtain ⟨c, ec⟩ : ∃ c, c = chal a K (s.extract 0 m).data.toList := ⟨_, rfl⟩
  obtain ⟨d, ed⟩ : ∃ d, d = chal a K (t.extract 0 n).data.toList := ⟨_, rfl⟩
  obtain ⟨v, ev⟩ : ∃ v, v = goodB K (t.extract 0 n).data.toList a b := ⟨_, rfl⟩
  rw [← ec] at h1 h2 hc1
  rw [← ed] at h1 h2 hc2
  rw [← ev] at h1 h2 hv2
  rw [hgd] at hv1
  unfold sgv at hsg hv1 hv2
  have HP := Lib.hid hp
  have HSG := Lib.hid hsg
  have HC1 := Lib.hid hc1
  have HC2 := Lib.hid hc2
  have HV1 := Lib.hid hv1
  have HV2 := Lib.hid hv2
  have H1 := Lib.hid h1
  have H2 := Lib.hid h2
  have HE := Lib.hid he
  clear hcz hcy hsg hgd ea eb ha hp hpk epk eK hc1 hc2 hv1 hv2 h1 h2 ec ed ev he em en
  go_enter Tryd.func9, Tryd.ntmps9
  go_wp2_with fail
  refine (sanity_any w HE.out).mono ?_
  rintro e w1 ⟨rfl, ho1⟩
  have HO1 := Lib.hid ho1
  clear ho1
  go_wp2_with fail
  go_region
  have HO1D := Lib.hid HO1.out.drew
  go_wp2_with fail
  refine (HP.out _).mono ?_
  rintro e w2 ⟨rfl, hw2⟩
  subst hw2
  go_wp2_with fail
  refine (HSG.out _).mono ?_
  rintro e w3 ⟨rfl, ho3⟩
  have HO3 := Lib.hid (HO1D.out.trans ho3)
  clear ho3
  have hb := Blk.new w3 tSig #[.int .i64 a, .int .i64 b]
  have hO : Only NoneOf w (w3.alloc (.cells #[.int .i64 a, .int .i64 b] tSig)) := HO3.out.alloc _
  go_wp2_with fail
  obtain ⟨G, eG⟩ : ∃ G, G = w3.heap.size := ⟨_, rfl⟩
  obtain ⟨Y, eY⟩ : ∃ Y, Y = w3.alloc (.cells #[.int .i64 a, .int .i64 b] tSig) := ⟨_, rfl⟩
  rw [← eY, ← eG] at hb
  rw [← eY] at hO
  rw [← eY, ← eG]
  have c0 : Y.cell? ⟨G, 0, none⟩ = some (.int .i64 a) := hb.cell 0
  have c1 : Y.cell? ⟨G, 1, none⟩ = some (.int .i64 b) := hb.cell 1
  have HOY := Lib.hid hO
  clear eY eG hb hO
  go_region_held3 (fun w' => w'.cell? ⟨G, 0, none⟩ = some (.int .i64 a) ∧ w'.cell? ⟨G, 1, none⟩ = some (.int .i64 b)) (first | assumption | exact ⟨c0, c1⟩ | (refine ⟨?_, ?_⟩ <;> assumption) | go_keep)
    (first
      | (go_at_call 25; (with_reducible refine (HC1.out _).mono ?_); rintro e w4 ⟨rfl, ho4⟩; have HO4 : Hid (Only NoneOf w w4) := Lib.hid (HOY.out.trans (only_of_drew ho4)); have s0 := (only_of_drew ho4).cell_some c0 (fun e => e); have s1 := (only_of_drew ho4).cell_some c1 (fun e => e); clear ho4)
      | (go_at_call 25; (with_reducible refine (HC2.out _).mono ?_); rintro e w5 ⟨rfl, ho5⟩; have HO5 : Hid (Only NoneOf w w5) := Lib.hid (HO4.out.trans ho5); have s2 := ho5.cell_some s0 (fun e => e); have s3 := ho5.cell_some s1 (fun e => e); clear ho5))
  go_wp2_with fail
  clear c0 c1 s0 s1
  go_region_held3 (fun w' => w'.cell? ⟨G, 0, none⟩ = some (.int .i64 a) ∧ w'.cell? ⟨G, 1, none⟩ = some (.int .i64 b)) (first | assumption | exact ⟨s2, s3⟩ | (refine ⟨?_, ?_⟩ <;> assumption) | go_keep)
    (first
      | (go_at_call 16; (with_reducible refine (HV1.out _).mono ?_); rintro e w6 ⟨rfl, ho6⟩; have HO6 : Hid (Only NoneOf w w6) := Lib.hid (HO5.out.trans (only_of_drew ho6)); have x0 := (only_of_drew ho6).cell_some s2 (fun e => e); have x1 := (only_of_drew ho6).cell_some s3 (fun e => e); clear ho6)
      | (go_at_call 16; (with_reducible refine (HV2.out _).mono ?_); rintro e w7 ⟨rfl, ho7⟩; have HO7 : Hid (Only NoneOf w w7) := Lib.hid (HO6.out.trans ho7); have x2 := ho7.cell_some x0 (fun e => e); have x3 := ho7.cell_some x1 (fun e => e); clear ho7))
  clear s2 s3 x0 x1 x2 x3
  by_cases hcd : c = d
  · have hv := H1.out hcd
    subst hcd
    subst hv
    go_wp2_with fail
    go_ret
    exact ⟨rfl, HO7.out⟩
  · have hcd3 : ¬ (c : Int) = (d : Int) := by omega
    have hcd2 : ((c : Int) == (d : Int)) = false := beq_eq_false_iff_ne.2 hcd3
    cases v with
    | false =>
      go_wp2_with fail
      go_ret
      exact ⟨rfl, HO7.out⟩
    | true =>
      have hK : K = 1 := (H2.out rfl).resolve_left hcd
      go_wp2_with fail
      go_ret
      exact ⟨rfl, HO7.out⟩
end Go.Proofs.YtmgbcjjemlcfgaaDoor
