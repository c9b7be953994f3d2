/- What is proved here: the law on signatures with every n answers true. Conditions: the library's variables hold what their initialisers lay. -/
import Derived.Test.YtmgbcjjemlcfgaaDoorSignQ
namespace Go.Proofs.YtmgbcjjemlcfgaaDoor
open Go.RowKit Go.Shelf
theorem good_many (x : Int) (t : List UInt8) (n : Nat) : goodB (pub x : Int) t (gp n : Int) (sigS x t n : Int) = true := goodB_true.2 (good_signed x t n)
set_option maxRecDepth 100000 in
set_option maxHeartbeats 1000000 in
theorem many_any (x : Int) (s : ByteArray) (n : Int) (w : World) (he : Env w) : Calls Tryd.prog 6 #[.int .i64 x, .string s, .int .i64 n] w fun e w' => e = .returned (.bool true) ∧ Only NoneOf w w' := by
  have hcz := cut_size s
  obtain ⟨m, em⟩ : ∃ m, m = min s.size 300 := ⟨_, rfl⟩
  rw [← em] at hcz
  have m1 : min (s.size : Int) 300 = (m : Int) := by omega
  have m2 : (m : Int) ≤ (s.size : Int) := by omega
  have m0 : (0 : Int) ≤ (m : Int) := by omega
  have hx := fun W => rexp_any n W
  have hlt := expo_lt n
  rw [Q0_val] at hlt
  obtain ⟨E, eE⟩ : ∃ E, E = expo n := ⟨_, rfl⟩
  rw [← eE] at hx hlt
  have hsg := fun W => rsignw_any x (s.extract 0 m) E hlt W hcz
  have hgd := good_many x (s.extract 0 m).data.toList E
  unfold signedN at hsg
  obtain ⟨a, ea⟩ : ∃ a : Int, a = (gp E : Int) := ⟨_, rfl⟩
  obtain ⟨b, eb⟩ : ∃ b : Int, b = (sigS x (s.extract 0 m).data.toList E : Int) := ⟨_, rfl⟩
  have ha : 0 ≤ a ∧ a < 2305843009213691579 := by rw [ea]; have := pw_small 4 E; unfold gp; omega
  rw [← ea, ← eb] at hsg hgd
  have hp := fun W => rpub_any x W
  have hpk := pub_small x
  obtain ⟨pk, epk⟩ : ∃ pk, pk = pub x := ⟨_, rfl⟩
  rw [← epk] at hp hgd hpk
  have hv := fun W => sverify_any pk a b (s.extract 0 m) W hcz (by omega) (by omega) (by omega) (by omega)
  rw [hgd] at hv
  unfold sgv at hsg hv
  have HX := Lib.hid hx
  have HSG := Lib.hid hsg
  have HP := Lib.hid hp
  have HV := Lib.hid hv
  have HE := Lib.hid he
  clear hcz hx hlt eE hsg hgd ea eb ha hp hpk epk hv he em
  go_enter Tryd.func6, Tryd.ntmps6
  go_wp2_with fail
  refine (sanity_any w HE.out).mono ?_
  rintro e w1 ⟨rfl, ho1⟩
  have HO1 := Lib.hid ho1
  clear ho1
  go_wp2_with fail
  refine (HX.out w1).mono ?_
  rintro e w2 ⟨rfl, hw2⟩
  subst hw2
  go_wp2_with fail
  refine (HSG.out _).mono ?_
  rintro e w3 ⟨rfl, ho3⟩
  have HO3 := Lib.hid (HO1.out.trans ho3)
  clear ho3
  have hb := Blk.new w3 tSig #[.int .i64 a, .int .i64 b]
  have hO : Only NoneOf w (w3.alloc (.cells #[.int .i64 a, .int .i64 b] tSig)) := HO3.out.alloc _
  go_wp2_with fail
  obtain ⟨G, eG⟩ : ∃ G, G = w3.heap.size := ⟨_, rfl⟩
  obtain ⟨Y, eY⟩ : ∃ Y, Y = w3.alloc (.cells #[.int .i64 a, .int .i64 b] tSig) := ⟨_, rfl⟩
  rw [← eY, ← eG] at hb
  rw [← eY] at hO
  rw [← eY, ← eG]
  have c0 : Y.cell? ⟨G, 0, none⟩ = some (.int .i64 a) := hb.cell 0
  have c1 : Y.cell? ⟨G, 1, none⟩ = some (.int .i64 b) := hb.cell 1
  have HOY := Lib.hid hO
  clear eY eG hb hO
  go_region_held3 (fun w' => w'.cell? ⟨G, 0, none⟩ = some (.int .i64 a) ∧ w'.cell? ⟨G, 1, none⟩ = some (.int .i64 b)) (first | assumption | exact ⟨c0, c1⟩ | (refine ⟨?_, ?_⟩ <;> assumption) | go_keep)
    (first
      | (go_at_call 19; (with_reducible refine (HP.out _).mono ?_); rintro e w4 ⟨rfl, hw4⟩; rw [hw4]; clear hw4)
      | (go_at_call 16; (with_reducible refine (HV.out _).mono ?_); rintro e w5 ⟨rfl, ho5⟩; have HO5 : Hid (Only NoneOf w w5) := Lib.hid (HOY.out.trans (only_of_drew ho5)); have s0 := (only_of_drew ho5).cell_some c0 (fun e => e); have s1 := (only_of_drew ho5).cell_some c1 (fun e => e); clear ho5))
  all_goals
    go_wp2_with fail
    go_ret
    exact ⟨rfl, HO5.out⟩
end Go.Proofs.YtmgbcjjemlcfgaaDoor
