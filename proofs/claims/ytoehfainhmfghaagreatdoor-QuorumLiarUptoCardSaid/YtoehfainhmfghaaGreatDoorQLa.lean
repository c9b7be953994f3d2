/- What is proved here: the law on who votes for two heads answers true. Conditions: the numbers are bytes; the table of powers of ten reads as its initialiser lays it. -/
import Derived.Test.YtoehfainhmfghaaGreatDoorQLk
import Derived.Test.YtoehfainhmfghaaGreatDoorQOv
import Derived.Test.YtoehfainhmfghaaGreatDoorQZb
import Derived.Test.YtoehfainhmfghaaGreatDoorQMs
import Derived.Test.YtoehfainhmfghaaGreatDoorQLc
import Derived.Test.YtoehfainhmfghaaGreatDoorQui
import Derived.Deep.CutBlock
namespace Go.Proofs.YtoehfainhmfghaaGreatDoor
open Go.RowKit Go.Shelf
attribute [local go_sem ↓ high] vtBs1_eq vtLoad_eq hdLoad_eq sgLoad_eq hdNew_eq hdStore_eq vtNew_eq vtStore_eq
/-- What lies there of the two heads and the lists. -/
structure LiS (X : World) (N M : Nat) (a b : Hd) (gv : Value) (G : List (List Hd)) (W : World) : Prop where
  two : TwoH X N M a b W
  g : GlSl W gv G
theorem LiS.keep {X : World} {N M : Nat} {a b : Hd} {gv : Value} {G : List (List Hd)} {W W' : World} (h : LiS X N M a b gv G W) (ho : Only NoneOf W W') : LiS X N M a b gv G W' := ⟨h.two.keep ho, h.g.only ho⟩
/-- A slice literal of one vote is a row of the call's own. -/
theorem own_one {W : World} {g base : Nat} {v : Vt} (hb : Blk W g 30 (vtC v).toArray) (hv : v.head.root.length = 32) (h : base ≤ g) : W.ownsRow base 30 36 (.slice (some ⟨g, 0, none⟩) 1 1) 1 (vtC v) :=
  ⟨by rw [vtC_len hv], .inr ⟨g, 1, (vtC v).toArray, rfl, h, hb, Nat.le_refl _, by rw [maxLen_val]; omega, by rw [List.size_toArray, vtC_len hv], by rw [show (vtC v).toArray.toList = vtC v from rfl]; exact List.take_of_length_le (by rw [vtC_len hv]; omega)⟩⟩
theorem three_sl {W : World} {base g cap : Nat} {M : List Vt} {a b : Vt} (h : W.ownsRow base 30 36 (.slice (some ⟨g, 0, none⟩) (1 + (M.length + 1)) cap) (1 + (M.length + 1)) (vtC a ++ (M.flatMap vtC ++ vtC b))) (hok : VtsOk (a :: (M ++ [b]))) : VtSl W (.slice (some ⟨g, 0, none⟩) (1 + (M.length + 1)) cap) (a :: (M ++ [b])) := by
  have e : 1 + (M.length + 1) = (a :: (M ++ [b])).length := by simp; omega
  rw [e] at h ⊢
  refine VtOwn.sl (base := base) ?_ hok
  unfold VtOwn
  simpa using h
set_option maxRecDepth 100000 in
set_option maxHeartbeats 4000000 in
theorem liar_law (n : Nat) (hn : n < 256) (x y : Nat) (hx : x < 256) (hy : y < 256) (L : List Bal) (hok : BalsOk L) (sv : Value) (w : World) (hs : BalSl w sv L) (ht : Tab w) :
    Calls Tryz.prog 7 #[.int .u8 (n : Int), .agg #[.int .u8 (x : Int), .int .u8 (y : Int)], sv] w fun e w' => e = .returned (.bool true) ∧ Only NoneOf w w' := by
  obtain ⟨LA, lcap, rfl, hllc, hlcm, hLA⟩ := hs
  obtain ⟨i, ei⟩ : ∃ i : Nat, i = n % 13 := ⟨_, rfl⟩
  have hi : i < 13 := by omega
  have kt : (n : Int).tmod 13 = (i : Int) := by rw [ei, Int.tmod_eq_emod_of_nonneg (by omega)]; omega
  have kw1 : IntKind.u8.wrap (i : Int) = (i : Int) := by rw [IntKind.wrap_u8]; omega
  have kw2 : IntKind.i64.wrap (i : Int) = (i : Int) := IntWalk.i64_in _ (by omega)
  have kw3 : IntKind.i64.wrap (x : Int) = (x : Int) := IntWalk.i64_in _ (by omega)
  have kw4 : IntKind.i64.wrap (y : Int) = (y : Int) := IntWalk.i64_in _ (by omega)
  have hin : In (13 : Int) := ⟨by omega, by omega⟩
  have hsu : ∀ W, Calls Tryz.prog 16 #[.int .i64 13, .bool false] W fun e' w' => ∃ pv, e' = .returned (setV pv) ∧ PerSl w' pv (setB 13) ∧ Only NoneOf W w' := fun W => (setupO_any 13 hin false W).mono (fun e' w' ⟨pv, h1, h2, h3⟩ => ⟨pv, h1, by rw [setO_false] at h2; exact h2, h3⟩)
  have hP : PersOk (setB 13) := setB_ok 13 (by omega)
  have hPl : (setB 13).length ≤ 1000 := by rw [setB_len]; omega
  obtain ⟨P, eP⟩ : ∃ P, P = setB 13 := ⟨_, rfl⟩
  rw [← eP] at hsu hP hPl
  have hsa : ∀ W, Only NoneOf w W → Calls Tryz.prog 11 #[] W fun e w' => e = .returned (.bool true) ∧ Only NoneOf W w' := fun W ho => sanity29 W (ht.none ho)
  have hli : ∀ W, Calls Tryz.prog 18 #[.bool false] W fun e w' => ∃ gv, e = .returned gv ∧ GlSl w' gv (listsG false) ∧ Only NoneOf W w' := fun W => lists_any false W
  have hhe : ∀ (k : Int) W, In k → Calls Tryz.prog 24 #[.int .i64 k] W fun e w' => e = .returned (.agg (hdC (headI k)).toArray) ∧ Only NoneOf W w' := fun k W hk => rhead_any k hk W
  obtain ⟨q0, eq0⟩ : ∃ q, q = w.heap.size := ⟨_, rfl⟩
  obtain ⟨X0, eX0⟩ : ∃ X, X = w.alloc (.cells #[.int .u8 (x : Int), .int .u8 (y : Int)] 68) := ⟨_, rfl⟩
  have hX0 : Blk X0 q0 68 #[.int .u8 (x : Int), .int .u8 (y : Int)] ∧ Only NoneOf w X0 := by rw [eX0, eq0]; exact ⟨Blk.new w _ _, (Only.refl _ _).alloc _⟩
  have HX0 := Lib.hid hX0
  have EX0 := Lib.hid eX0
  have EQ0 := Lib.hid eq0
  have HSU := Lib.hid hsu
  have HLI := Lib.hid hli
  have HSA := Lib.hid hsa
  have HP := Lib.hid hP
  have HPL := Lib.hid hPl
  have HHE := Lib.hid hhe
  have HT := Lib.hid ht
  have EP := Lib.hid eP
  have HSL := Lib.hid hLA
  have HOK := Lib.hid hok
  clear hsu hli hsa ht ei hok hLA hn hP hPl eP hhe hX0 eX0 eq0
  go_enter Tryz.func7, Tryz.ntmps7
  go_upto_region 1 with (fail)
  rw [← EQ0.out, ← EX0.out]
  refine wp_gen (fun Z => Blk Z q0 68 #[.int .u8 (x : Int), .int .u8 (y : Int)] ∧ Only NoneOf w Z) HX0.out ?_
  intro Z hZ
  have HZ := Lib.hid hZ
  clear hZ HX0 EX0 EQ0
  go_wp2_with fail
  refine (HSA.out _ HZ.out.2).mono ?_
  rintro e1 w1 ⟨rfl, ho1⟩
  have HZ1 := Lib.hid (And.intro (HZ.out.1.only ho1 (fun e => e)) (HZ.out.2.trans ho1))
  clear ho1 HSA HZ
  go_wp2_with fail
  refine (HSU.out _).mono ?_
  rintro e2 w2 ⟨pv, rfl, hpv, ho2⟩
  have HO2 := Lib.hid (HZ1.out.2.trans ho2)
  obtain ⟨pA, pcap, rfl, _, _, _⟩ := id hpv
  obtain ⟨B, eB⟩ : ∃ B, B = w2.heap.size := ⟨_, rfl⟩
  obtain ⟨X, eX⟩ : ∃ X, X = w2.alloc (.cells #[.slice pA P.length pcap, .int .i64 0, .slice none 0 0, .slice none 0 0, .int .i64 0, .int .i64 0] 39) := ⟨_, rfl⟩
  have hX1 : Blk X B tSu #[.slice pA P.length pcap, .int .i64 0, .slice none 0 0, .slice none 0 0, .int .i64 0, .int .i64 0] := by rw [eX, eB]; exact Blk.new w2 _ _
  have hX2 : Only NoneOf w2 X := by rw [eX]; exact (Only.refl _ _).alloc _
  have HX := Lib.hid (And.intro hX1 (And.intro (hpv.only hX2) (And.intro (HO2.out.trans hX2) ((HZ1.out.1.only ho2 (fun e => e)).only hX2 (fun e => e)))))
  have EB := Lib.hid eB
  have EX := Lib.hid eX
  clear hpv ho2 hX1 hX2 eB eX HO2 HSU HZ1
  unfold setV
  go_upto_region 4 with (fail)
  rw [← EB.out, ← EX.out]
  clear EB EX
  obtain ⟨a, ea⟩ : ∃ a, a = headI (x : Int) := ⟨_, rfl⟩
  obtain ⟨b, eb⟩ : ∃ b, b = headI (y : Int) := ⟨_, rfl⟩
  have la : a.root.length = 32 := by rw [ea]; exact (headI_ok _).root
  have lb : b.root.length = 32 := by rw [eb]; exact (headI_ok _).root
  have HAO : Hid (a.Ok) := Lib.hid (by rw [ea]; exact headI_ok _)
  have HBO : Hid (b.Ok) := Lib.hid (by rw [eb]; exact headI_ok _)
  have HLA := Lib.hid la
  have HLB := Lib.hid lb
  have C1 : Hid (∀ W, Calls Tryz.prog 24 #[.int .i64 (x : Int)] W fun e w' => e = .returned (.agg (hdC a).toArray) ∧ Only NoneOf W w') := Lib.hid (fun W => by rw [ea]; exact HHE.out (x : Int) W ⟨by omega, by omega⟩)
  have C2 : Hid (∀ W, Calls Tryz.prog 24 #[.int .i64 (y : Int)] W fun e w' => e = .returned (.agg (hdC b).toArray) ∧ Only NoneOf W w') := Lib.hid (fun W => by rw [eb]; exact HHE.out (y : Int) W ⟨by omega, by omega⟩)
  have c0 : ∀ W, Only NoneOf X W → W.cell? ⟨q0, 0, none⟩ = some (.int .u8 (x : Int)) := fun W h => (HX.out.2.2.2.only h (fun e => e)).cell 0
  have c1 : ∀ W, Only NoneOf X W → W.cell? ⟨q0, 1, none⟩ = some (.int .u8 (y : Int)) := fun W h => (HX.out.2.2.2.only h (fun e => e)).cell 1
  obtain ⟨z1, z11, z12, z2, n1, n2, k1, k2, a1, a2⟩ := ZLaws.all tHd hd0C X
  have zs1 := fun W N => zb_head (X := X) la W N
  have zs2 := fun W N M vs => zb_head2 (X := X) lb W N M vs
  have hnw := hdNew_run
  have hX0 : Only NoneOf X X := Only.refl _ _
  have hX1 : Only NoneOf X X.drew := (Only.refl _ _).drew
  have HALD : Hid (∀ (W : World) o, Only NoneOf X W.drew → Only NoneOf X (W.alloc o).drew) := Lib.hid (fun W o h => (Only.alloc h o))
  clear la lb ea eb
  go_cut [10, 11] (fun p q wx => ∃ N M, p = .pointer (some ⟨N, 0, none⟩) ∧ q = .pointer (some ⟨M, 0, none⟩) ∧ TwoH X N M a b wx)
  case first =>
   as_aux_lemma =>
    go_region_held3 (fun W => Only NoneOf X W) (first | (with_reducible assumption) | (with_reducible exact a1 _ _ (by with_reducible assumption)) | (with_reducible exact HALD.out _ _ (by with_reducible assumption)) | (simp [*]))
      (first
        | (go_at_call 24; (with_reducible refine (C1.out _).mono ?_); rintro e3 w3 ⟨rfl, ho3⟩; have hS3 := Only.trans (by with_reducible assumption) ho3; (try (have y1 : ZBl tHd hd0C X w3 X.heap.size := ZBl.step (by first | exact ZBl.newd hX0 | exact (ZBl.new hX0).allocd _) ho3)); (try (have y2 : ZBl tHd hd0C X w3 (X.heap.size + 1) := ZBl.step (W := ((X.alloc _).alloc _).drew) (z12 X _ hX0) ho3)); clear ho3)
        | (go_at_call 24; (with_reducible refine (C2.out _).mono ?_); rintro e4 w4 ⟨rfl, ho4⟩; have hS4 := Only.trans (by with_reducible assumption) ho4; (try (have y3 : ZBl tHd hd0C X w4 X.heap.size := ZBl.step (by first | exact y1 | exact y1.alloc _ | exact (y1.alloc _).alloc _) ho4)); (try (have y4 : ZBl tHd hd0C X w4 (X.heap.size + 1) := ZBl.step (by first | exact y2 | exact y2.alloc _ | exact (y2.alloc _).alloc _) ho4)); (try (have y5 : ZBl tHd hd0C X w4 w3.heap.size := ZBl.step (by first | exact ZBl.new hS3 | exact (ZBl.new hS3).alloc _) ho4)); (try (have y6 : ZBl tHd hd0C X w4 (w3.heap.size + 1) := ZBl.step (z12 w3 _ hS3) ho4)); clear ho4))
    all_goals
      clear hnw zs1 zs2 c0 c1
      go_wp2_with fail
      go_meet
      case rel => exact ⟨_, _, rfl, rfl, TwoH.made (by simp [*]) (by simp [*]) (by simp [*]) (by simp [*]) HLA.out HLB.out⟩
  case rest =>
  obtain ⟨N, M, rfl, rfl, hTW⟩ := hcut
  have HTW := Lib.hid hTW
  clear hTW z1 z11 z12 z2 n1 n2 k1 k2 a1 a2 zs1 zs2 hnw hX0 hX1 HALD c0 c1
  go_wp2_with fail
  refine (HLI.out _).mono ?_
  rintro e5 w5 ⟨gv, rfl, hgv, ho5⟩
  have hGok := listsG_ok false
  obtain ⟨G, eG⟩ : ∃ G, G = listsG false := ⟨_, rfl⟩
  rw [← eG] at hGok hgv
  have hS5 : LiS X N M a b gv G w5 := ⟨HTW.out.keep ho5, hgv⟩
  have HS5 := Lib.hid hS5
  have HGOK := Lib.hid hGok
  obtain ⟨ε, eε⟩ : ∃ ε, ε = eqHd a b := ⟨_, rfl⟩
  obtain ⟨γ, eγ⟩ : ∃ γ, γ = growB G a b := ⟨_, rfl⟩
  obtain ⟨δ, eδ⟩ : ∃ δ, δ = growB G b a := ⟨_, rfl⟩
  obtain ⟨ρ, eρ⟩ : ∃ ρ, ρ = agB (growB G) a b := ⟨_, rfl⟩
  have hρ : ρ = (ε || ((decide (a.size < b.size) && γ) || (decide (b.size < a.size) && δ))) := by rw [eρ, eε, eγ, eδ]; rfl
  have q1 := fun W => eql_hd a b HLA.out HLB.out W
  rw [← eε] at q1
  have HG1 : Hid (∀ W, LiS X N M a b gv G W → Calls Tryz.prog 21 #[gv, .agg (hdC a).toArray, .agg (hdC b).toArray] W fun e w' => e = .returned (.bool γ) ∧ LiS X N M a b gv G w') := Lib.hid (fun W h => by rw [eγ]; exact (growth_any G hGok gv a b HLA.out HLB.out W h.g).mono (fun e w' hh => ⟨hh.1, h.keep hh.2⟩))
  have HG2 : Hid (∀ W, LiS X N M a b gv G W → Calls Tryz.prog 21 #[gv, .agg (hdC b).toArray, .agg (hdC a).toArray] W fun e w' => e = .returned (.bool δ) ∧ LiS X N M a b gv G w') := Lib.hid (fun W h => by rw [eδ]; exact (growth_any G hGok gv b a HLB.out HLA.out W h.g).mono (fun e w' hh => ⟨hh.1, h.keep hh.2⟩))
  have HRO := Lib.hid hρ
  have ERO := Lib.hid eρ
  have l1 := hd_load (blk_range hS5.two.a) HLA.out
  have l2 := hd_load (blk_range hS5.two.b) HLB.out
  have z1 : w5.cell? ⟨N, 0, none⟩ = some (.int .i64 a.size) := Blk.cell hS5.two.a 0
  have z2 : w5.cell? ⟨M, 0, none⟩ = some (.int .i64 b.size) := Blk.cell hS5.two.b 0
  clear hgv hGok hS5 ho5 eε eγ eδ eρ hρ eG HLI
  go_upto_region 6 with (fail)
  go_cut [13] (fun v wx => v = .bool ρ ∧ LiS X N M a b gv G wx)
  case first =>
    cases ε with
    | true =>
      have HR : Hid (ρ = true) := Lib.hid (by rw [HRO.out]; rfl)
      go_wp2_with fail
      go_meet
      case rel => exact ⟨by rw [HR.out], HS5.out⟩
    | false =>
      by_cases hl : a.size < b.size
      · have d1 : decide (a.size < b.size) = true := decide_eq_true hl
        have d2 : decide (b.size < a.size) = false := decide_eq_false (by omega)
        have HR : Hid (ρ = γ) := Lib.hid (by rw [HRO.out, d1, d2]; simp)
        go_wp2_with fail
        refine (HG1.out _ HS5.out).mono ?_
        rintro e6 w6 ⟨rfl, hS6⟩
        have y1 : w6.cell? ⟨N, 0, none⟩ = some (.int .i64 a.size) := Blk.cell hS6.two.a 0
        have y2 : w6.cell? ⟨M, 0, none⟩ = some (.int .i64 b.size) := Blk.cell hS6.two.b 0
        have HS6 := Lib.hid hS6
        clear hS6 l1 l2 z1 z2 hl
        cases γ with
        | true =>
          go_wp2_with fail
          go_meet
          case rel => exact ⟨by rw [HR.out], HS6.out⟩
        | false =>
          go_wp2_with fail
          go_meet
          case rel => exact ⟨by rw [HR.out], HS6.out⟩
      · have d1 : decide (a.size < b.size) = false := decide_eq_false hl
        by_cases hg : b.size < a.size
        · have d2 : decide (b.size < a.size) = true := decide_eq_true hg
          have HR : Hid (ρ = δ) := Lib.hid (by rw [HRO.out, d1, d2]; simp)
          clear hl hg
          go_wp2_with fail
          refine (HG2.out _ HS5.out).mono ?_
          rintro e6 w6 ⟨rfl, hS6⟩
          have HS6 := Lib.hid hS6
          clear hS6 l1 l2 z1 z2
          go_wp2_with fail
          go_meet
          case rel => exact ⟨by rw [HR.out], HS6.out⟩
        · have d2 : decide (b.size < a.size) = false := decide_eq_false hg
          have HR : Hid (ρ = false) := Lib.hid (by rw [HRO.out, d1, d2]; simp)
          clear hl hg
          go_wp2_with fail
          go_meet
          case rel => exact ⟨by rw [HR.out], HS5.out⟩
  case rest =>
  obtain ⟨rfl, hcut⟩ := hcut
  obtain ⟨Y, rfl⟩ : ∃ Y : World, Y = wc := ⟨_, rfl⟩
  have HY := Lib.hid hcut
  clear hcut l1 l2 z1 z2 q1 HG1 HG2 HRO HS5
  obtain ⟨va, eva⟩ : ∃ v, v = vAt a (i + 1) := ⟨_, rfl⟩
  obtain ⟨vb, evb⟩ : ∃ v, v = vAt b (i + 1) := ⟨_, rfl⟩
  have ek : ((i + 1 : Nat) : Int) = 1 + (i : Int) := by omega
  have hvt : ∀ (h : Hd) W, h.Ok → Only NoneOf Y W → Calls Tryz.prog 12 #[.int .i64 (1 + (i : Int)), .int .i64 (secI (1 + (i : Int))), .agg (hdC h).toArray] W fun e' w' => e' = .returned (.agg (vtC (vAt h (i + 1))).toArray) ∧ Only NoneOf W w' := fun h W hh ho => by
    have h1 := qvote_any (1 + (i : Int)) (secI (1 + (i : Int))) h hh W (HT.out.none ((HX.out.2.2.1.trans HY.out.two.only).trans ho))
    rw [← ek] at h1 ⊢
    exact h1
  obtain ⟨sec, esec⟩ : ∃ s, s = secI (1 + (i : Int)) := ⟨_, rfl⟩
  rw [← esec] at hvt
  have S1 : Hid (∀ W, Calls Tryz.prog 23 #[.int .i64 (1 + (i : Int))] W fun e' w' => e' = .returned (.int .i64 sec) ∧ w' = W) := Lib.hid (fun W => by rw [esec]; exact secret_any (1 + (i : Int)) (by omega) (by omega) W)
  have V1 : Hid (∀ W, Only NoneOf Y W → Calls Tryz.prog 12 #[.int .i64 (1 + (i : Int)), .int .i64 sec, .agg (hdC a).toArray] W fun e' w' => e' = .returned (.agg (vtC va).toArray) ∧ Only NoneOf W w') := Lib.hid (fun W ho => by rw [eva]; exact hvt a W HAO.out ho)
  have V2 : Hid (∀ W, Only NoneOf Y W → Calls Tryz.prog 12 #[.int .i64 (1 + (i : Int)), .int .i64 sec, .agg (hdC b).toArray] W fun e' w' => e' = .returned (.agg (vtC vb).toArray) ∧ Only NoneOf W w') := Lib.hid (fun W ho => by rw [evb]; exact hvt b W HBO.out ho)
  have HVA : Hid (va.Ok) := Lib.hid (by rw [eva]; exact vote_ok ⟨by omega, by omega⟩ HAO.out)
  have HVB : Hid (vb.Ok) := Lib.hid (by rw [evb]; exact vote_ok ⟨by omega, by omega⟩ HBO.out)
  have EVA := Lib.hid eva
  have EVB := Lib.hid evb
  have EK := Lib.hid ek
  have la := HVA.out.head.root
  have lb := HVB.out.head.root
  have c1 : ∀ W, Only NoneOf Y W → (hdLoad (.pointer (some ⟨N, 0, none⟩))).run Tryz.prog W = .ok (.agg (hdC a).toArray) W := fun W h => hd_load (blk_range (HY.out.two.keep h).a) HLA.out
  have c2 : ∀ W, Only NoneOf Y W → (hdLoad (.pointer (some ⟨M, 0, none⟩))).run Tryz.prog W = .ok (.agg (hdC b).toArray) W := fun W h => hd_load (blk_range (HY.out.two.keep h).b) HLB.out
  obtain ⟨z1, z11, z12, z2, n1, n2, k1, k2, a1, a2⟩ := ZLaws.all tVt vt0C Y
  have zs1 := fun W N => zb_vote (X := Y) la W N
  have zs2 := fun W N M vs => zb_vote2 (X := Y) lb W N M vs
  have hnw := vtNew_run
  have hX0 : Only NoneOf Y Y := Only.refl _ _
  have hX1 : Only NoneOf Y Y.drew := (Only.refl _ _).drew
  have HALD : Hid (∀ (W : World) o, Only NoneOf Y W.drew → Only NoneOf Y (W.alloc o).drew) := Lib.hid (fun W o h => (Only.alloc h o))
  clear la lb eva evb ek hvt esec
  go_upto_region 7 with (fail)
  go_cut [14, 15] (fun p q wx => ∃ I J, p = .pointer (some ⟨I, 0, none⟩) ∧ q = .pointer (some ⟨J, 0, none⟩) ∧ TwoV Y I J va vb wx)
  case first =>
   as_aux_lemma =>
    go_region_held3 (fun W => Only NoneOf Y W) (first | (with_reducible assumption) | (with_reducible exact a1 _ _ (by with_reducible assumption)) | (with_reducible exact HALD.out _ _ (by with_reducible assumption)) | (simp [*]))
      (first
        | (go_at_call 23; (with_reducible refine (S1.out _).mono ?_); rintro e3 w3 ⟨rfl, rfl⟩)
        | (go_at_call 12; (with_reducible refine (V1.out _ (by assumption)).mono ?_); rintro e3 w3 ⟨rfl, ho3⟩; have hS3 := Only.trans (by with_reducible assumption) ho3; (try (have y1 : ZBl tVt vt0C Y w3 Y.heap.size := ZBl.step (by first | exact ZBl.newd hX0 | exact (ZBl.new hX0).allocd _) ho3)); (try (have y2 : ZBl tVt vt0C Y w3 (Y.heap.size + 1) := ZBl.step (W := ((Y.alloc _).alloc _).drew) (z12 Y _ hX0) ho3)); clear ho3)
        | (go_at_call 12; (with_reducible refine (V2.out _ (by assumption)).mono ?_); rintro e4 w4 ⟨rfl, ho4⟩; have hS4 := Only.trans (by with_reducible assumption) ho4; (try (have y3 : ZBl tVt vt0C Y w4 Y.heap.size := ZBl.step (by first | exact y1 | exact y1.alloc _ | exact (y1.alloc _).alloc _) ho4)); (try (have y4 : ZBl tVt vt0C Y w4 (Y.heap.size + 1) := ZBl.step (by first | exact y2 | exact y2.alloc _ | exact (y2.alloc _).alloc _) ho4)); (try (have y5 : ZBl tVt vt0C Y w4 w3.heap.size := ZBl.step (by first | exact ZBl.new hS3 | exact (ZBl.new hS3).alloc _) ho4)); (try (have y6 : ZBl tVt vt0C Y w4 (w3.heap.size + 1) := ZBl.step (z12 w3 _ hS3) ho4)); clear ho4))
    all_goals
      clear hnw zs1 zs2 c1 c2
      go_wp2_with fail
      go_meet
      case rel => exact ⟨_, _, rfl, rfl, TwoV.made (by simp [*]) (by simp [*]) (by simp [*]) (by simp [*]) HVA.out.head.root HVB.out.head.root⟩
  case rest =>
  obtain ⟨I, J, rfl, rfl, hTV⟩ := hcut
  obtain ⟨Z, rfl⟩ : ∃ Z : World, Z = wc := ⟨_, rfl⟩
  have HZ := Lib.hid hTV
  clear hTV z1 z11 z12 z2 n1 n2 k1 k2 a1 a2 zs1 zs2 hnw hX0 hX1 HALD c1 c2
  have HLW : Hid (∀ W, Only NoneOf Z W → Blk W B tSu #[.slice pA P.length pcap, .int .i64 0, .slice none 0 0, .slice none 0 0, .int .i64 0, .int .i64 0] ∧ PerSl W (.slice pA P.length pcap) P ∧ Only NoneOf w W) := Lib.hid (fun W h => by
    have h1 := (HY.out.two.only.trans HZ.out.only).trans h
    exact ⟨HX.out.1.only h1 (fun e => e), HX.out.2.1.only h1, HX.out.2.2.1.trans h1⟩)
  obtain ⟨ie, zz, hie, hsz, hz, hzc, hby⟩ := vt_info
  have HIE := Lib.hid hie
  have HSZ := Lib.hid hsz
  have HZZ := Lib.hid hz
  have HZC := Lib.hid hzc
  have HBY := Lib.hid hby
  clear hie hsz hz hzc hby
  go_upto_block 0 with fail
  go_cut [16] from 76 to 98 (fun cv wx => ∃ (M' : List Vt) (ov : Value), ov = cv ∧ M'.length ≤ 40 ∧ (∀ v ∈ M', v.who ≠ ((i + 1 : Nat) : Int)) ∧ OvS Z M' ov wx)
  case first =>
   as_aux_lemma =>
    go_wp2_with fail
    go_loopw [16, 17] (fun ov j wr => ∃ (k : Nat) (M' : List Vt), j = .int .i64 k ∧ k ≤ L.length ∧ k ≤ 40 ∧ M'.length ≤ k ∧ (∀ v ∈ M', v.who ≠ ((i + 1 : Nat) : Int)) ∧ OvS Z M' ov wr) (fun _ j _ => L.length - (intOf j).toNat)
    case atStart => exact ⟨0, [], rfl, by omega, by omega, by simp, fun _ h => (by cases h), ⟨⟨rfl, .inl ⟨rfl, rfl⟩⟩, fun _ h => (by cases h), Only.refl _ _⟩⟩
    case round =>
      obtain ⟨k, M', rfl, hk, hk40, hMl, hMw, hS⟩ := hrel
      have HS := Lib.hid hS
      have HMW := Lib.hid hMw
      clear hMw
      by_cases hlt : k < L.length ∧ k < 40
      · obtain ⟨hlt, h40⟩ := hlt
        obtain ⟨bb, hb⟩ : ∃ b, L[k]? = some b := ⟨_, List.getElem?_eq_getElem hlt⟩
        obtain ⟨g, o, hA', hg, hr⟩ := HSL.out k bb hb
        subst hA'
        have ok := HOK.out bb (List.mem_of_getElem? hb)
        have hr2 := rng_only hr (HLW.out _ hS.only).2.2
        have d1 : decide ((k : Int) < (L.length : Int)) = true := decide_eq_true (by omega)
        have d2 : decide ((k : Int) < 40) = true := decide_eq_true (by omega)
        have ik : (k : Int) < (L.length : Int) := by omega
        have ik0 : (0 : Int) ≤ (k : Int) := by omega
        have c0 : wr.cell? ⟨g, o + k * 3, none⟩ = some (.int .u8 (bb.who : Int)) := hr2 0 _ rfl
        have c1 : wr.cell? ⟨g, o + k * 3 + 1, none⟩ = some (.int .u8 (bb.head : Int)) := hr2 1 _ rfl
        have c2 : wr.cell? ⟨g, o + k * 3 + 2, none⟩ = some (.int .u8 (bb.wrong : Int)) := hr2 2 _ rfl
        obtain ⟨V, eV⟩ : ∃ V, V = balV bb := ⟨_, rfl⟩
        have vo : V.Ok := by rw [eV]; exact balV_ok bb
        have hbal : ∀ W, Calls Tryz.prog 27 #[.agg #[.int .u8 (bb.who : Int), .int .u8 (bb.head : Int), .int .u8 (bb.wrong : Int)]] W fun e w' => e = .returned (.agg (vtC V).toArray) ∧ Only NoneOf W w' := fun W => by rw [eV]; exact bal_any bb ok W
        have HBAL := Lib.hid hbal
        have HVO := Lib.hid vo
        clear hbal eV hr hr2 ok hb vo hS
        go_wp2_with fail
        refine (HBAL.out _).mono ?_
        rintro e6 w6 ⟨rfl, ho6⟩
        have hst := vt_store_new w6 HVO.out.head.root
        have hnw := vtNew_run
        have hO7 : Only NoneOf w6 ((w6.alloc (.cells vt0C 30)).setCells w6.heap.size 0 (vtC V)) := only_setCells ((Only.refl _ _).alloc _) w6.heap.size 0 (.inr (Nat.le_refl _)) _
        have hF : OvS Z M' u16 ((w6.alloc (.cells vt0C 30)).setCells w6.heap.size 0 (vtC V)) ∧ VtAt ((w6.alloc (.cells vt0C 30)).setCells w6.heap.size 0 (vtC V)) w6.heap.size V := ⟨(HS.out.keep ho6).keep hO7, filled_whole (Blk.new w6 tVt vt0C) (by rw [vtC_len HVO.out.head.root]; rfl)⟩
        obtain ⟨N1, eN1⟩ : ∃ N, N = w6.heap.size := ⟨_, rfl⟩
        rw [← eN1] at hF
        have HF := Lib.hid hF
        have EN1 := Lib.hid eN1
        clear hF eN1 ho6 hO7 c0 c1 c2
        go_upto_region 13 with (fail)
        rw [← EN1.out]
        refine wp_gen (fun W => OvS Z M' u16 W ∧ VtAt W N1 V) HF.out ?_
        rintro W6 ⟨hS6, hV6⟩
        obtain ⟨a13, ea13⟩ : ∃ x, x = V.who := ⟨_, rfl⟩
        have c13 : W6.cell? ⟨N1, 0, none⟩ = some (.int .i64 a13) := by rw [ea13]; exact Blk.cell hV6 0
        have hld := vt_load (blk_range hV6) HVO.out.head.root
        have HS6 := Lib.hid hS6
        have EA := Lib.hid ea13
        clear hst hnw HF EN1 hS6 hV6 ea13
        by_cases hne : a13 = 1 + (i : Int)
        · have dn : (a13 != 1 + (i : Int)) = false := by simp [hne]
          clear hne hld
          go_wp2_with fail
          go_roundw
          case rel => exact ⟨k + 1, M', by go_num, by omega, by omega, by omega, HMW.out, HS6.out⟩
          case measure => simp [intOf]; omega
        · have dn : (a13 != 1 + (i : Int)) = true := by simp [hne]
          have HNE : Hid (∀ v ∈ M' ++ [V], v.who ≠ ((i + 1 : Nat) : Int)) := Lib.hid (fun v hv => by
            rcases List.mem_append.1 hv with hv | hv
            · exact HMW.out v hv
            · rw [List.mem_singleton.1 hv, ← EA.out, EK.out]; exact hne)
          have hbs := bs1_run V HVO.out.head.root
          have hsz7 := HS6.out.size
          clear hne
          go_wp2_with (at_builtin; refine wpList_append_lies _ rfl _ _ 41 rfl Z.heap.size 30 ie zz 36 ie.bytes Tryz.underlying41 HIE.out HZZ.out HSZ.out rfl HZC.out (by omega) u16 M'.length (M'.flatMap vtC) rfl (World.ownsRow.alloc HS6.out.own _) _ 1 1 (vtC V) rfl (by rw [vtC_len HVO.out.head.root]) (World.news_of_block (cs := (vtC V).toArray) (t := 30) (fr := (0, 0)) (NewB.new _ V)) (vtC_one V) (by omega) (by rw [maxLen_val]; omega) (by have := HBY.out; exact Nat.le_trans (Nat.mul_le_mul (show M'.length + 1 ≤ 100 by omega) this) (by omega)) (by simp; omega) _ rfl ?_; intro g3 cap3 w8 hown3 hgrow3 hat3 hlt3)
          have HNEW := Lib.hid (HS6.out.app HVO.out _ hown3 hgrow3)
          clear hown3 hgrow3 hat3 hlt3 hbs hld
          go_wp2_with fail
          go_roundw
          case rel => exact ⟨k + 1, M' ++ [V], by go_num, by omega, by omega, by rw [List.length_append]; simp; omega, HNE.out, HNEW.out⟩
          case measure => simp [intOf]; omega
      · have hM5 : M'.length ≤ 40 := by omega
        clear hS
        by_cases hl : k < L.length
        · have d1 : decide ((k : Int) < (L.length : Int)) = true := decide_eq_true (by omega)
          have d2 : decide ((k : Int) < 40) = false := decide_eq_false (by omega)
          go_wp2_with fail
          go_meet
          case rel => exact ⟨M', _, rfl, hM5, HMW.out, HS.out⟩
        · have d1 : decide ((k : Int) < (L.length : Int)) = false := decide_eq_false (by omega)
          go_wp2_with fail
          go_meet
          case rel => exact ⟨M', _, rfl, hM5, HMW.out, HS.out⟩
  case rest =>
  obtain ⟨M', ov, rfl, hM5, hMw, hS⟩ := hcut
  have HMW := Lib.hid hMw
  obtain ⟨wr, rfl⟩ : ∃ wr : World, wr = wc := ⟨_, rfl⟩
  clear hMw
  obtain ⟨LL, eLL⟩ : ∃ LL, LL = va :: (M' ++ [vb]) := ⟨_, rfl⟩
  have hLok : VtsOk LL := fun v hv => by
    rw [eLL] at hv
    rcases List.mem_cons.1 hv with rfl | hv
    · exact HVA.out
    · rcases List.mem_append.1 hv with hv | hv
      · exact hS.ok v hv
      · rw [List.mem_singleton.1 hv]; exact HVB.out
  have hLl : LL.length ≤ 100000 := by rw [eLL]; simp; omega
  obtain ⟨C, eC⟩ : ∃ C, C = clashL (agB (growB G)) P LL := ⟨_, rfl⟩
  have KC : Hid (∀ W xv, Only NoneOf Z W → VtSl W xv LL → Calls Tryz.prog 20 #[.agg #[.slice pA P.length pcap, .int .i64 0, .slice none 0 0, .slice none 0 0, .int .i64 0, .int .i64 0], xv, .func (.func 21) #[gv] #[]] W fun e w' => ∃ ov, e = .returned ov ∧ BlSl w' ov C ∧ Only NoneOf W w') := Lib.hid (fun W xv h hx => by
    obtain ⟨h1, h2, h3⟩ := HLW.out W h
    rw [eC]
    exact clash_grow P HP.out HPL.out _ LL hLok hLl xv G HGOK.out gv W h2 hx (HY.out.g.only (HZ.out.only.trans h)) (HT.out.none h3))
  have hsu : ∀ W, Only NoneOf Z W → Blk W B tSu #[.slice pA P.length pcap, .int .i64 0, .slice none 0 0, .slice none 0 0, .int .i64 0, .int .i64 0] := fun W h => (HLW.out W h).1
  have c0 : ∀ W, Only NoneOf Z W → W.cell? ⟨B, 0, none⟩ = some (.slice pA P.length pcap) := fun W h => (hsu W h).cell 0
  have c1 : ∀ W, Only NoneOf Z W → W.cell? ⟨B, 1, none⟩ = some (.int .i64 0) := fun W h => (hsu W h).cell 1
  have c2 : ∀ W, Only NoneOf Z W → W.cell? ⟨B, 2, none⟩ = some (.slice none 0 0) := fun W h => (hsu W h).cell 2
  have c3 : ∀ W, Only NoneOf Z W → W.cell? ⟨B, 3, none⟩ = some (.slice none 0 0) := fun W h => (hsu W h).cell 3
  have c4 : ∀ W, Only NoneOf Z W → W.cell? ⟨B, 4, none⟩ = some (.int .i64 0) := fun W h => (hsu W h).cell 4
  have c5 : ∀ W, Only NoneOf Z W → W.cell? ⟨B, 5, none⟩ = some (.int .i64 0) := fun W h => (hsu W h).cell 5
  have la := HVA.out.head.root
  have lb := HVB.out.head.root
  have l1 : ∀ W, Only NoneOf Z W → (vtLoad (.pointer (some ⟨I, 0, none⟩))).run Tryz.prog W = .ok (.agg (vtC va).toArray) W := fun W h => vt_load (blk_range (HZ.out.keep h).a) la
  have l2 : ∀ W, Only NoneOf Z W → (vtLoad (.pointer (some ⟨J, 0, none⟩))).run Tryz.prog W = .ok (.agg (vtC vb).toArray) W := fun W h => vt_load (blk_range (HZ.out.keep h).b) lb
  have hba := bs1_run va la
  have hbb := bs1_run vb lb
  have hlt0 : ∀ g, ov.ownBlock = some g → Z.heap.size ≤ g ∧ g < wr.heap.size := fun g hg => own_ge hS.own hg
  have hne0 : ∀ g, wr.heap.size ≤ g → some g ≠ ov.ownBlock := fun g hg e => by have := (hlt0 g e.symm).2; omega
  have hsz := hS.size
  have HOW1 : Hid (∀ o, ((wr.alloc o).drew).ownsRow Z.heap.size 30 36 ov M'.length (M'.flatMap vtC)) := Lib.hid (fun o => (hS.keep ((Only.refl _ _).alloc o).drew).own)
  have HOW2 : Hid (∀ o o', (((wr.alloc o).alloc o').drew).ownsRow Z.heap.size 30 36 ov M'.length (M'.flatMap vtC)) := Lib.hid (fun o o' => (hS.keep (((Only.refl _ _).alloc o).alloc o').drew).own)
  have HGR1 : Hid (∀ o w1, ((wr.alloc o).drew).grownBy w1 ov.ownBlock → Only NoneOf Z w1) := Lib.hid (fun o w1 hg => ((hS.only.alloc o).drew).grown hg (fun j e => .inr (hlt0 j e).1))
  have HGR2 : Hid (∀ o o' w1, (((wr.alloc o).alloc o').drew).grownBy w1 ov.ownBlock → Only NoneOf Z w1) := Lib.hid (fun o o' w1 hg => (((hS.only.alloc o).alloc o').drew).grown hg (fun j e => .inr (hlt0 j e).1))
  have hn1 := (Blk.new wr 30 (vtC va).toArray)
  have hn2 : Blk ((wr.alloc (.cells (vtC vb).toArray 30)).alloc (.cells (vtC va).toArray 30)) (wr.heap.size + 1) 30 (vtC va).toArray := by have h := Blk.new (wr.alloc (.cells (vtC vb).toArray 30)) 30 (vtC va).toArray; rwa [World.size_alloc] at h
  have HB1 : Hid (∀ w1, (((wr.alloc (.cells (vtC va).toArray 30)).alloc (.cells (vtC vb).toArray 30)).drew).grownBy w1 ov.ownBlock → Blk w1 wr.heap.size 30 (vtC va).toArray) := Lib.hid (fun w1 hg => Blk.grown ((hn1.alloc _).drew) hg (hne0 _ (Nat.le_refl _)))
  have HB2 : Hid (∀ w1, (((wr.alloc (.cells (vtC vb).toArray 30)).alloc (.cells (vtC va).toArray 30)).drew).grownBy w1 ov.ownBlock → Blk w1 (wr.heap.size + 1) 30 (vtC va).toArray) := Lib.hid (fun w1 hg => Blk.grown hn2.drew hg (hne0 _ (by omega)))
  have HSZ2 : Hid (wr.heap.size + 1 = (wr.alloc (.cells (vtC vb).toArray 30)).heap.size) := Lib.hid (by rw [World.size_alloc])
  have hm1 := (Blk.new wr 30 (vtC vb).toArray)
  have hm2 : Blk ((wr.alloc (.cells (vtC va).toArray 30)).alloc (.cells (vtC vb).toArray 30)) (wr.heap.size + 1) 30 (vtC vb).toArray := by have h := Blk.new (wr.alloc (.cells (vtC va).toArray 30)) 30 (vtC vb).toArray; rwa [World.size_alloc] at h
  have N1 := Lib.hid (World.news_of_block (w := (wr.alloc (.cells (vtC vb).toArray 30)).drew) (B := wr.heap.size) (cs := (vtC vb).toArray) (t := 30) (fr := (0, 0)) hm1.drew)
  have N2 := Lib.hid (World.news_of_block (w := ((wr.alloc (.cells (vtC vb).toArray 30)).alloc (.cells (vtC va).toArray 30)).drew) (B := wr.heap.size) (cs := (vtC vb).toArray) (t := 30) (fr := (0, 0)) (hm1.alloc _).drew)
  have N3 := Lib.hid (World.news_of_block (w := ((wr.alloc (.cells (vtC va).toArray 30)).alloc (.cells (vtC vb).toArray 30)).drew) (B := wr.heap.size + 1) (cs := (vtC vb).toArray) (t := 30) (fr := (0, 0)) hm2.drew)
  have hX1 : Only NoneOf Z wr.drew := hS.only.drew
  have HAL : Hid (∀ (W : World) o, Only NoneOf Z W → Only NoneOf Z (W.alloc o)) := Lib.hid (fun W o h => h.alloc o)
  have HAL1 : Hid (∀ o, Only NoneOf Z (wr.alloc o).drew) := Lib.hid (fun o => (hS.only.alloc o).drew)
  have HAL2 : Hid (∀ o o', Only NoneOf Z ((wr.alloc o).alloc o').drew) := Lib.hid (fun o o' => ((hS.only.alloc o).alloc o').drew)
  have HSL3 : Hid (∀ W g cap, W.ownsRow Z.heap.size 30 36 (.slice (some ⟨g, 0, none⟩) (1 + (M'.length + 1)) cap) (1 + (M'.length + 1)) (vtC va ++ (M'.flatMap vtC ++ vtC vb)) → VtSl W (.slice (some ⟨g, 0, none⟩) (1 + (M'.length + 1)) cap) LL) := Lib.hid (fun W g cap h => by rw [eLL] at hLok ⊢; exact three_sl h hLok)
  have HLAB : Hid (va.head.root.length = 32 ∧ vb.head.root.length = 32) := Lib.hid ⟨la, lb⟩
  have ELL := Lib.hid eLL
  have EC := Lib.hid eC
  clear hS hLok hLl eC eLL hsu la lb hlt0 hne0 hn1 hn2 hm1 hm2
  go_upto_region 15 with (fail)
  go_cut [19] (fun cv wx => BlSl wx cv C ∧ Only NoneOf Z wx)
  case first =>
   as_aux_lemma =>
    go_region_held3 (fun W => Only NoneOf Z W) (first | (with_reducible assumption) | (with_reducible exact HAL1.out _) | (with_reducible exact HAL2.out _ _) | (with_reducible exact HAL.out _ _ (by with_reducible assumption)))
      (first
        | (refine step_append_lies _ (by rfl) _ _ _ (by rfl) Z.heap.size 30 ie zz 36 ie.bytes Tryz.underlying41 HIE.out HZZ.out HSZ.out rfl HZC.out (by omega) ov M'.length (M'.flatMap vtC) (by rfl) (by with_reducible first | exact HOW1.out _ | exact HOW2.out _ _) _ 1 1 (vtC vb) (by rfl) (by rw [vtC_len HLAB.out.2]) (by with_reducible first | exact N1.out | exact N2.out | exact N3.out) (vtC_one vb) (by omega) (by rw [maxLen_val]; omega) (by have := HBY.out; exact Nat.le_trans (Nat.mul_le_mul (show M'.length + 1 ≤ 100 by omega) this) (by omega)) (Only.size (by with_reducible first | exact HAL1.out _ | exact HAL2.out _ _)) _ rfl ?_; intro g7 cap7 w7 hown7 hgrow7 hat7 hlt7; have hS7 : Only NoneOf Z w7 := (by with_reducible first | exact HGR1.out _ _ hgrow7 | exact HGR2.out _ _ _ hgrow7); (try (have y1 := HB1.out _ hgrow7)); (try (have y2 := HB2.out _ hgrow7)); clear hgrow7 hat7 hlt7)
        | (refine step_append_lies _ (by rfl) _ _ _ (by rfl) Z.heap.size 30 ie zz 36 ie.bytes Tryz.underlying41 HIE.out HZZ.out HSZ.out rfl HZC.out (by omega) (.slice (some ⟨wr.heap.size, 0, none⟩) 1 1) 1 (vtC va) (by rfl) (own_one y1 HLAB.out.1 hsz) ⟨g7, 0, none⟩ (M'.length + 1) cap7 (M'.flatMap vtC ++ vtC vb) (by rfl) (hown7.1) (World.ownsRow.cells hown7 rfl) (vts_one M' vb) (by omega) (by rw [maxLen_val]; omega) (by have := HBY.out; exact Nat.le_trans (Nat.mul_le_mul (show 1 + (M'.length + 1) ≤ 100 by omega) this) (by omega)) (Only.size (by with_reducible first | exact hS7 | exact HAL.out _ _ hS7)) _ rfl ?_; intro g8 cap8 w8 hown8 hgrow8 hat8 hlt8; have hS8 : Only NoneOf Z w8 := hS7.grown hgrow8 (fun j e => .inr (by have e2 : wr.heap.size = j := Option.some.inj e; omega)); have hsl8 := HSL3.out _ _ _ hown8; clear hgrow8 hat8 hlt8)
        | (refine step_append_lies _ (by rfl) _ _ _ (by rfl) Z.heap.size 30 ie zz 36 ie.bytes Tryz.underlying41 HIE.out HZZ.out HSZ.out rfl HZC.out (by omega) (.slice (some ⟨wr.heap.size + 1, 0, none⟩) 1 1) 1 (vtC va) (by rfl) (own_one y2 HLAB.out.1 (by omega)) ⟨g7, 0, none⟩ (M'.length + 1) cap7 (M'.flatMap vtC ++ vtC vb) (by rfl) (hown7.1) (World.ownsRow.cells hown7 rfl) (vts_one M' vb) (by omega) (by rw [maxLen_val]; omega) (by have := HBY.out; exact Nat.le_trans (Nat.mul_le_mul (show 1 + (M'.length + 1) ≤ 100 by omega) this) (by omega)) (Only.size (by with_reducible first | exact hS7 | exact HAL.out _ _ hS7)) _ rfl ?_; intro g8 cap8 w8 hown8 hgrow8 hat8 hlt8; have hS8 : Only NoneOf Z w8 := hS7.grown hgrow8 (fun j e => .inr (by have e2 : wr.heap.size + 1 = j := Option.some.inj e; omega)); have hsl8 := HSL3.out _ _ _ hown8; clear hgrow8 hat8 hlt8)
        | (refine step_append_lies _ (by rfl) _ _ _ (by rfl) Z.heap.size 30 ie zz 36 ie.bytes Tryz.underlying41 HIE.out HZZ.out HSZ.out rfl HZC.out (by omega) (.slice (some ⟨w7.heap.size, 0, none⟩) 1 1) 1 (vtC va) (by rfl) (own_one (Blk.new w7 _ _) HLAB.out.1 hS7.size) ⟨g7, 0, none⟩ (M'.length + 1) cap7 (M'.flatMap vtC ++ vtC vb) (by rfl) (hown7.1) (World.ownsRow.cells (World.ownsRow.alloc hown7 _) rfl) (vts_one M' vb) (by omega) (by rw [maxLen_val]; omega) (by have := HBY.out; exact Nat.le_trans (Nat.mul_le_mul (show 1 + (M'.length + 1) ≤ 100 by omega) this) (by omega)) (Only.size (by with_reducible first | exact hS7 | exact HAL.out _ _ hS7)) _ rfl ?_; intro g8 cap8 w8 hown8 hgrow8 hat8 hlt8; have hS8 : Only NoneOf Z w8 := (hS7.alloc _).grown hgrow8 (fun j e => .inr (by have e2 : w7.heap.size = j := Option.some.inj e; have := hS7.size; omega)); have hsl8 := HSL3.out _ _ _ hown8; clear hgrow8 hat8 hlt8)
        | (go_at_call 20; (with_reducible refine (KC.out _ _ (by assumption) (by assumption)).mono ?_); rintro e9 w9 ⟨ov, rfl, hbl, ho9⟩; have hS9 := Only.trans (by with_reducible assumption) ho9))
    all_goals
      go_wp2_with fail
      go_meet
      case rel => exact ⟨hbl, hS9⟩
  case rest =>
  obtain ⟨hbl, ho⟩ := hcut
  obtain ⟨bA, bcap, ebl, _, _, hbr⟩ := hbl
  subst ebl
  obtain ⟨U, rfl⟩ : ∃ U : World, U = wc := ⟨_, rfl⟩
  have HO := Lib.hid ho
  have HBR := Lib.hid hbr
  have hcnt : C.countP (fun x => x.who == ((i + 1 : Nat) : Int)) = if ρ then 0 else 1 := by
    rw [EC.out, ELL.out, EVA.out, EVB.out, EP.out, ERO.out]
    exact liar_count _ (by omega) (by omega) (by omega) a b M' HMW.out
  have heach : ∀ x ∈ C, x.who = ((i + 1 : Nat) : Int) → x = ⟨((i + 1 : Nat) : Int), va, vb⟩ := fun x hx e => by
    rw [EC.out, ELL.out, EVA.out, EVB.out, EP.out] at hx
    rw [EVA.out, EVB.out]
    exact liar_each _ (by omega) (by omega) (by omega) a b M' HMW.out hx e
  have hCl : C.length ≤ 1000 := by rw [EC.out]; exact Nat.le_trans (clashO_len _ _ _) (Nat.le_trans (offs_len P) HPL.out)
  have hva : va.head = a := by rw [EVA.out]; rfl
  have hvb : vb.head = b := by rw [EVB.out]; rfl
  have HCNT := Lib.hid hcnt
  have HEACH := Lib.hid heach
  have HHV := Lib.hid (And.intro hva hvb)
  clear hcnt heach hva hvb ho hbr KC c0 c1 c2 c3 c4 c5 l1 l2 hba hbb HOW1 HOW2 HGR1 HGR2 HB1 HB2 N1 N2 N3 hX1 HAL HAL1 HAL2 HSL3 hM5
  go_wp2_with fail
  go_loopw [20, 21] (fun fv kv wr2 => ∃ k cf : Nat, kv = .int .i64 k ∧ k ≤ C.length ∧ fv = .int .i64 (cf : Int) ∧ cf = (C.take k).countP (fun x => x.who == ((i + 1 : Nat) : Int)) ∧ Only NoneOf U wr2) (fun _ kv _ => C.length - (intOf kv).toNat)
  case atStart => exact ⟨0, 0, rfl, by omega, rfl, by simp, Only.refl _ _⟩
  case round =>
    obtain ⟨k, cf, rfl, hk, rfl, hcf, hS⟩ := hrel
    have hcl : cf ≤ C.length := by rw [hcf]; exact Nat.le_trans List.countP_le_length (by rw [List.length_take]; omega)
    have HCF := Lib.hid hcf
    have HS := Lib.hid hS
    clear hcf hS
    by_cases hlt : k < C.length
    · obtain ⟨p, hp⟩ : ∃ p, C[k]? = some p := ⟨_, List.getElem?_eq_getElem hlt⟩
      obtain ⟨g, o, hA', _, hr⟩ := HBR.out k p hp
      subst hA'
      have ik : (k : Int) < (C.length : Int) := by omega
      have ik0 : (0 : Int) ≤ (k : Int) := by omega
      obtain ⟨pw, epw⟩ : ∃ x, x = p.who := ⟨_, rfl⟩
      have x0 : ∀ W, Only NoneOf U W → W.cell? ⟨g, o + k * 4, none⟩ = some (.int .i64 pw) := fun W h => by rw [epw]; exact h.cell_some (hr 0 _ rfl) (fun e => e)
      have a0 := x0 _ HS.out
      have hcn : (C.take (k + 1)).countP (fun x => x.who == ((i + 1 : Nat) : Int)) = cf + (if pw = 1 + (i : Int) then 1 else 0) := by
        rw [List.take_add_one, hp, Option.toList_some, List.countP_append, ← HCF.out, List.countP_singleton, EK.out, ← epw]
        by_cases e : pw = 1 + (i : Int) <;> simp [e]
      have HCN := Lib.hid hcn
      have kw5 : IntKind.i64.wrap ((cf : Int) + 1) = (cf : Int) + 1 := IntWalk.i64_in _ (by omega)
      clear hcn
      by_cases hne : pw = 1 + (i : Int)
      · have dn : (pw != 1 + (i : Int)) = false := by simp [hne]
        have hpe := HEACH.out p (List.mem_of_getElem? hp) (by rw [← epw, EK.out]; exact hne)
        obtain ⟨SA, eSA⟩ : ∃ A : ByteArray, A = vtT va := ⟨_, rfl⟩
        obtain ⟨SB, eSB⟩ : ∃ A : ByteArray, A = vtT vb := ⟨_, rfl⟩
        have x1 : ∀ W, Only NoneOf U W → W.cell? ⟨g, o + k * 4 + 1, none⟩ = some (.int .i64 44) := fun W h => h.cell_some (hr 1 _ rfl) (fun e => e)
        have x2 : ∀ W, Only NoneOf U W → W.cell? ⟨g, o + k * 4 + 2, none⟩ = some (.string SA) := fun W h => by rw [eSA]; exact h.cell_some (hr 2 _ (by rw [hpe]; rfl)) (fun e => e)
        have x3 : ∀ W, Only NoneOf U W → W.cell? ⟨g, o + k * 4 + 3, none⟩ = some (.string SB) := fun W h => by rw [eSB]; exact h.cell_some (hr 3 _ (by rw [hpe]; rfl)) (fun e => e)
        obtain ⟨TA, eTA⟩ : ∃ A : ByteArray, A = hdT a := ⟨_, rfl⟩
        obtain ⟨TB, eTB⟩ : ∃ A : ByteArray, A = hdT b := ⟨_, rfl⟩
        obtain ⟨TS, eTS⟩ : ∃ A : ByteArray, A.data.toList = textOf va.r va.s := ⟨⟨(textOf va.r va.s).toArray⟩, by simp⟩
        obtain ⟨TU, eTU⟩ : ∃ A : ByteArray, A.data.toList = textOf vb.r vb.s := ⟨⟨(textOf vb.r vb.s).toArray⟩, by simp⟩
        have y1 : TA.size ≤ 100 := by rw [eTA]; exact hdT_size HAO.out
        have y2 : TB.size ≤ 100 := by rw [eTB]; exact hdT_size HBO.out
        have y3 : TS.size ≤ 43 := by
          have e1 := itoa_len HVA.out.r.1 HVA.out.r.2
          have e2 := itoa_len HVA.out.s.1 HVA.out.s.2
          rw [size_list, eTS]; simp [textOf]; omega
        have y4 : TU.size ≤ 43 := by
          have e1 := itoa_len HVB.out.r.1 HVB.out.r.2
          have e2 := itoa_len HVB.out.s.1 HVB.out.s.2
          rw [size_list, eTU]; simp [textOf]; omega
        have q1 : ¬ 9223372036854775807 < TA.size + 1 := by omega
        have q2 : ¬ 9223372036854775807 < TA.size + 1 + TS.size := by omega
        have q3 : ¬ 9223372036854775807 < TB.size + 1 := by omega
        have q4 : ¬ 9223372036854775807 < TB.size + 1 + TU.size := by omega
        have hA : TA ++ ⟨#[32]⟩ ++ TS = SA := by
          refine bytes_ext ?_
          rw [eSA, eTA]
          simp only [ByteArray.data_append, Array.toList_append, eTS, hdT_list]
          simp [vtT, vtText, HHV.out.1]
        have hB : TB ++ ⟨#[32]⟩ ++ TU = SB := by
          refine bytes_ext ?_
          rw [eSB, eTB]
          simp only [ByteArray.data_append, Array.toList_append, eTU, hdT_list]
          simp [vtT, vtText, HHV.out.2]
        obtain ⟨f, hfx⟩ := family (Only NoneOf U) (HS.out.drew)
        obtain ⟨F, hI, hF0, hF, hFS⟩ := hfx
        have hzu : ∀ W, Only NoneOf U W → Only NoneOf Z W := fun W h => HO.out.trans h
        have htb : ∀ W, Only NoneOf U W → Tab W := fun W h => HT.out.none (HLW.out W (hzu W h)).2.2
        have D1 : Hid (∀ x, Calls Tryz.prog 13 #[.agg (hdC a).toArray] (F x) (fun e' w' => e' = .returned (.string TA) ∧ ∃ y, w' = F y)) := Lib.hid (fun x => by rw [eTA]; exact (qtext_any a HAO.out (F x) (htb _ (hFS x))).mono (fun e w' hh => ⟨hh.1, (hF w').1 ((hFS x).trans hh.2)⟩))
        have D2 : Hid (∀ x, Calls Tryz.prog 13 #[.agg (hdC b).toArray] (F x) (fun e' w' => e' = .returned (.string TB) ∧ ∃ y, w' = F y)) := Lib.hid (fun x => by rw [eTB]; exact (qtext_any b HBO.out (F x) (htb _ (hFS x))).mono (fun e w' hh => ⟨hh.1, (hF w').1 ((hFS x).trans hh.2)⟩))
        have D3 : Hid (∀ x, Calls Tryz.prog 29 #[sgv va.r va.s] (F x) (fun e' w' => e' = .returned (.string TS) ∧ ∃ y, w' = F y)) := Lib.hid (fun x => (stext_any va.r va.s HVA.out.r HVA.out.s (F x) (htb _ (hFS x))).mono (by rintro e' w' ⟨t, rfl, ht, ho⟩; exact ⟨by rw [bytes_ext (ht.trans eTS.symm)], (hF w').1 ((hFS x).trans ho)⟩))
        have D4 : Hid (∀ x, Calls Tryz.prog 29 #[sgv vb.r vb.s] (F x) (fun e' w' => e' = .returned (.string TU) ∧ ∃ y, w' = F y)) := Lib.hid (fun x => (stext_any vb.r vb.s HVB.out.r HVB.out.s (F x) (htb _ (hFS x))).mono (by rintro e' w' ⟨t, rfl, ht, ho⟩; exact ⟨by rw [bytes_ext (ht.trans eTU.symm)], (hF w').1 ((hFS x).trans ho)⟩))
        have hzz : ∀ x, TwoV Y I J va vb (F x) := fun x => HZ.out.keep (hzu _ (hFS x))
        have hyy : ∀ x, TwoH X N M a b (F x) := fun x => HY.out.two.keep (HZ.out.only.trans (hzu _ (hFS x)))
        have m1 : ∀ x, (F x).cell? ⟨g, o + k * 4 + 1, none⟩ = some (.int .i64 44) := fun x => x1 _ (hFS x)
        have m2 : ∀ x, (F x).cell? ⟨g, o + k * 4 + 2, none⟩ = some (.string SA) := fun x => x2 _ (hFS x)
        have m3 : ∀ x, (F x).cell? ⟨g, o + k * 4 + 3, none⟩ = some (.string SB) := fun x => x3 _ (hFS x)
        have m4 : ∀ x, (hdLoad (.pointer (some ⟨N, 0, none⟩))).run Tryz.prog (F x) = .ok (.agg (hdC a).toArray) (F x) := fun x => hd_load (blk_range (hyy x).a) HLA.out
        have m5 : ∀ x, (hdLoad (.pointer (some ⟨M, 0, none⟩))).run Tryz.prog (F x) = .ok (.agg (hdC b).toArray) (F x) := fun x => hd_load (blk_range (hyy x).b) HLB.out
        have m6 : ∀ x, (sgLoad (.pointer (some ⟨I, 34, none⟩))).run Tryz.prog (F x) = .ok (sgv va.r va.s) (F x) := fun x => sg_load (range_sig (blk_range (hzz x).a) HVA.out.head.root)
        have m7 : ∀ x, (sgLoad (.pointer (some ⟨J, 34, none⟩))).run Tryz.prog (F x) = .ok (sgv vb.r vb.s) (F x) := fun x => sg_load (range_sig (blk_range (hzz x).b) HVB.out.head.root)
        have HNE := Lib.hid hne
        have HF := Lib.hid hF
        have HF0 := Lib.hid hF0
        clear hpe hp hr epw eSA eSB eTA eTB eTS eTU y1 y2 y3 y4 hzu htb hzz hyy hF hF0 hFS x0 x1 x2 x3 hne
        go_upto_region 22 with (fail)
        refine wp_region_family F (by kernel_rfl) (by kernel_rfl) HF0.out ?_
        repeat (go_big_quiet_step (first | (with_reducible exact D1.out _) | (with_reducible exact D2.out _) | (with_reducible exact D3.out _) | (with_reducible exact D4.out _)))
        refine wpQuiet_nil ?_
        intro w9 hw9
        have HS9 := Lib.hid ((HF.out w9).2 hw9)
        clear hw9 m1 m2 m3 m4 m5 m6 m7 a0 hA hB q1 q2 q3 q4
        go_wp2_with fail
        go_roundw
        case rel => exact ⟨k + 1, cf + 1, by go_num, by omega, by go_num, by rw [HCN.out, if_pos HNE.out], HS9.out⟩
        case measure => simp [intOf]; omega
      · have dn : (pw != 1 + (i : Int)) = true := by simp [hne]
        have HNE := Lib.hid hne
        clear hp hr epw x0 hne
        go_wp2_with fail
        go_roundw
        case rel => exact ⟨k + 1, cf, by go_num, by omega, rfl, by rw [HCN.out, if_neg HNE.out]; rfl, HS.out⟩
        case measure => simp [intOf]; omega
    · obtain rfl : k = C.length := by omega
      have hc := HCF.out
      rw [List.take_length, HCNT.out] at hc
      have HOF := Lib.hid ((HLW.out _ (HO.out.trans HS.out)).2.2)
      cases ρ with
      | true =>
        obtain rfl : cf = 0 := by rw [hc]; rfl
        clear hc
        go_wp2_with fail
        go_ret
        exact ⟨rfl, HOF.out⟩
      | false =>
        obtain rfl : cf = 1 := by rw [hc]; rfl
        clear hc
        go_wp2_with fail
        go_ret
        exact ⟨rfl, HOF.out⟩
end Go.Proofs.YtoehfainhmfghaaGreatDoor
