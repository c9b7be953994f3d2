/- What is proved here: the law that the blames are those of the reference answers true. Conditions: the numbers are bytes; the table of powers of ten reads as its initialiser lays it. -/
import Derived.Test.YtoehfainhmfghaaGreatDoorB4
import Derived.Test.YtoehfainhmfghaaGreatDoorQCk
import Derived.Test.YtoehfainhmfghaaGreatDoorQSb
import Derived.Test.YtoehfainhmfghaaGreatDoorQLi
namespace Go.Proofs.YtoehfainhmfghaaGreatDoor
open Go.RowKit Go.Shelf
/-- What the laws keep, with lists of heads. -/
structure LgS (w : World) (B : Nat) (pv : Value) (P : List Pers) (sv : Value) (L : List Vt) (gv : Value) (G : List (List Hd)) (W : World) : Prop where
  l : LwS w B pv P sv L W
  g : GlSl W gv G
theorem LgS.keep {w : World} {B : Nat} {pv : Value} {P : List Pers} {sv : Value} {L : List Vt} {gv : Value} {G : List (List Hd)} {W W' : World} (h : LgS w B pv P sv L gv G W) (ho : Only NoneOf W W') : LgS w B pv P sv L gv G W' :=
  ⟨h.l.keep ho, h.g.only ho⟩
theorem gl_nil (W : World) : GlSl W (.slice none 0 0) [] := ⟨none, 0, rfl, Nat.le_refl _, by omega, fun i l hl => by simp at hl⟩
theorem glOk_nil : GlOk [] := fun _ h => by cases h
theorem growB_nil : growB [] = fun _ _ => false := rfl
/-- The program's blames, with the growth of lists. -/
theorem clash_grow (P : List Pers) (hP : PersOk P) (hlen : P.length ≤ 1000) (pv : Value) (L : List Vt) (hok : VtsOk L) (hL : L.length ≤ 100000) (sv : Value) (G : List (List Hd)) (hG : GlOk G) (gv : Value) (w : World) (hp : PerSl w pv P) (hs : VtSl w sv L) (hg : GlSl w gv G) (ht : Tab w) :
    Calls Tryz.prog 20 #[setV pv, sv, .func (.func 21) #[gv] #[]] w fun e w' => ∃ ov, e = .returned ov ∧ BlSl w' ov (clashL (agB (growB G)) P L) ∧ Only NoneOf w w' :=
  clash_any P hP hlen pv L hok hL sv _ rfl _ w hp hs ht (fun W x ho hx a b ha hb => agree_grow G hG gv a b ha hb x W (hg.only ho) hx)
/-- .. and without growth. -/
theorem clash_nil (P : List Pers) (hP : PersOk P) (hlen : P.length ≤ 1000) (pv : Value) (L : List Vt) (hok : VtsOk L) (hL : L.length ≤ 100000) (sv : Value) (w : World) (hp : PerSl w pv P) (hs : VtSl w sv L) (ht : Tab w) :
    Calls Tryz.prog 20 #[setV pv, sv, .nilFunc] w fun e w' => ∃ ov, e = .returned ov ∧ BlSl w' ov (clashL (agB (fun _ _ => false)) P L) ∧ Only NoneOf w w' :=
  clash_any P hP hlen pv L hok hL sv _ rfl _ w hp hs ht (fun W x _ hx a b ha hb => agree_nil a b ha hb x W hx)
set_option maxRecDepth 100000 in
set_option maxHeartbeats 4000000 in
theorem clashes_law (n : Nat) (hn : n < 256) (od : Nat) (_hod : od < 256) (L : List Bal) (hok : BalsOk L) (sv : Value) (w : World) (hs : BalSl w sv L) (ht : Tab w) :
    Calls Tryz.prog 4 #[.int .u8 (n : Int), .int .u8 (od : Int), sv] w fun e w' => e = .returned (.bool true) ∧ Only NoneOf w w' := by
  obtain ⟨m, em⟩ : ∃ m : Int, m = (n : Int) % 14 := ⟨_, rfl⟩
  have hm : 0 ≤ m ∧ m < 14 := by omega
  have hin : In m := ⟨by omega, by omega⟩
  have kt : (n : Int).tmod 14 = m := by rw [em, Int.tmod_eq_emod_of_nonneg (by omega)]
  have kw1 : IntKind.u8.wrap m = m := by rw [IntKind.wrap_u8]; omega
  have kw2 : IntKind.i64.wrap m = m := IntWalk.i64_in _ (by omega)
  have hsu : ∀ (b : Bool) W, Calls Tryz.prog 16 #[.int .i64 m, .bool b] W fun e' w' => ∃ P pv, PersOk P ∧ P.length ≤ 1000 ∧ e' = .returned (setV pv) ∧ PerSl w' pv P ∧ Only NoneOf W w' := fun b W => (setupO_any m hin b W).mono (fun e' w' ⟨pv, h1, h2, h3⟩ => ⟨_, pv, setO_ok m b, setO_small m b, h1, h2, h3⟩)
  have hli : ∀ (b : Bool) W, Calls Tryz.prog 18 #[.bool b] W fun e' w' => ∃ G gv, GlOk G ∧ e' = .returned gv ∧ GlSl w' gv G ∧ Only NoneOf W w' := fun b W => (lists_any b W).mono (fun e' w' ⟨gv, h1, h2, h3⟩ => ⟨_, gv, listsG_ok b, h1, h2, h3⟩)
  have hvs : ∀ W, Only NoneOf w W → Calls Tryz.prog 17 #[sv] W fun e w' => ∃ rv, e = .returned rv ∧ VtOwn w' W.heap.size rv (votesL L).length (votesL L) ∧ Only NoneOf W w' := fun W ho => rvotes_any L hok sv W (hs.only ho)
  have hsa : ∀ W, Only NoneOf w W → Calls Tryz.prog 11 #[] W fun e w' => e = .returned (.bool true) ∧ Only NoneOf W w' := fun W ho => sanity29 W (ht.none ho)
  obtain ⟨V, eV⟩ : ∃ V, V = votesL L := ⟨_, rfl⟩
  have hVo : VtsOk V := by rw [eV]; exact votesL_ok L
  have hVl : V.length ≤ 40 := by rw [eV]; exact votesL_len L
  rw [← eV] at hvs
  have HSU := Lib.hid hsu
  have HLI := Lib.hid hli
  have HVS := Lib.hid hvs
  have HSA := Lib.hid hsa
  have HVO := Lib.hid hVo
  have HVL := Lib.hid hVl
  have HT := Lib.hid ht
  clear hsu hli hvs hsa hVo hVl ht eV em hok hs hin hn _hod
  go_enter Tryz.func4, Tryz.ntmps4
  go_wp2_with fail
  refine (HSA.out _ (Only.refl _ _)).mono ?_
  rintro e1 w1 ⟨rfl, ho1⟩
  have HO1 := Lib.hid ho1
  clear ho1 HSA
  go_wp2_with fail
  refine (HSU.out _ _).mono ?_
  rintro e2 w2 ⟨P, pv, hP, hPl, rfl, hpv, ho2⟩
  have HP := Lib.hid hP
  have HPL := Lib.hid hPl
  have HO2 := Lib.hid (HO1.out.trans ho2)
  obtain ⟨pA, pcap, rfl, _, _, _⟩ := id hpv
  obtain ⟨B, eB⟩ : ∃ B, B = w2.heap.size := ⟨_, rfl⟩
  obtain ⟨X, eX⟩ : ∃ X, X = w2.alloc (.cells #[.slice pA P.length pcap, .int .i64 0, .slice none 0 0, .slice none 0 0, .int .i64 0, .int .i64 0] 39) := ⟨_, rfl⟩
  have hX1 : Blk X B tSu #[.slice pA P.length pcap, .int .i64 0, .slice none 0 0, .slice none 0 0, .int .i64 0, .int .i64 0] := by rw [eX, eB]; exact Blk.new w2 _ _
  have hX2 : Only NoneOf w2 X := by rw [eX]; exact (Only.refl _ _).alloc _
  have HX := Lib.hid (And.intro hX1 (And.intro (hpv.only hX2) (HO2.out.trans hX2)))
  have EB := Lib.hid eB
  have EX := Lib.hid eX
  clear hpv ho2 hX1 hX2 eB eX HO2 HSU hP hPl
  unfold setV
  go_upto_region 3 with (fail)
  rw [← EB.out, ← EX.out]
  clear EB EX
  go_wp2_with fail
  refine (HVS.out _ HX.out.2.2).mono ?_
  rintro e3 w3 ⟨rv, rfl, hrv, ho3⟩
  have hS3 : LwS w B (.slice pA P.length pcap) P rv V w3 := ⟨HX.out.1.only ho3 (fun e => e), HX.out.2.1.only ho3, hrv.sl HVO.out, HX.out.2.2.trans ho3⟩
  have HS3 := Lib.hid hS3
  clear hrv ho3 hS3 HX HVS
  go_wp2_with fail
  refine (HLI.out _ _).mono ?_
  rintro e4 w4 ⟨G, gv, hG, rfl, hgv, ho4⟩
  have hS4 : LgS w B (.slice pA P.length pcap) P rv V gv G w4 := ⟨HS3.out.keep ho4, hgv⟩
  have HS4 := Lib.hid hS4
  obtain ⟨C1, eC1⟩ : ∃ C, C = clashL (agB (growB G)) P V := ⟨_, rfl⟩
  obtain ⟨C2, eC2⟩ : ∃ C, C = clashL (agB (fun _ _ => false)) P V := ⟨_, rfl⟩
  have hv5 : V.length ≤ 100000 := Nat.le_trans HVL.out (by omega)
  have H1 : Hid (∀ W, LgS w B (.slice pA P.length pcap) P rv V gv G W → Calls Tryz.prog 20 #[.agg #[.slice pA P.length pcap, .int .i64 0, .slice none 0 0, .slice none 0 0, .int .i64 0, .int .i64 0], rv, .func (.func 21) #[gv] #[]] W fun e w' => ∃ ov, e = .returned ov ∧ BlSl w' ov C1 ∧ Only NoneOf W w' ∧ LgS w B (.slice pA P.length pcap) P rv V gv G w') := Lib.hid (fun W hW => by
    rw [eC1]
    exact (clash_grow P HP.out HPL.out _ V HVO.out hv5 rv G hG gv W hW.l.per hW.l.vts hW.g (HT.out.none hW.l.only)).mono (fun e w' ⟨ov, h1, h2, h3⟩ => ⟨ov, h1, h2, h3, hW.keep h3⟩))
  have H2 : Hid (∀ W, LgS w B (.slice pA P.length pcap) P rv V gv G W → Calls Tryz.prog 22 #[.agg #[.slice pA P.length pcap, .int .i64 0, .slice none 0 0, .slice none 0 0, .int .i64 0, .int .i64 0], rv, gv] W fun e w' => ∃ ov, e = .returned ov ∧ BlSl w' ov C1 ∧ Only NoneOf W w' ∧ LgS w B (.slice pA P.length pcap) P rv V gv G w') := Lib.hid (fun W hW => by
    rw [eC1]
    exact (rclash_any P HP.out HPL.out _ V HVO.out hv5 rv G hG gv W hW.l.per hW.l.vts hW.g).mono (fun e w' ⟨ov, h1, h2, h3⟩ => ⟨ov, h1, h2, h3, hW.keep h3⟩))
  have H3 : Hid (∀ W, LgS w B (.slice pA P.length pcap) P rv V gv G W → Calls Tryz.prog 20 #[.agg #[.slice pA P.length pcap, .int .i64 0, .slice none 0 0, .slice none 0 0, .int .i64 0, .int .i64 0], rv, .nilFunc] W fun e w' => ∃ ov, e = .returned ov ∧ BlSl w' ov C2 ∧ Only NoneOf W w' ∧ LgS w B (.slice pA P.length pcap) P rv V gv G w') := Lib.hid (fun W hW => by
    rw [eC2]
    exact (clash_nil P HP.out HPL.out _ V HVO.out hv5 rv W hW.l.per hW.l.vts (HT.out.none hW.l.only)).mono (fun e w' ⟨ov, h1, h2, h3⟩ => ⟨ov, h1, h2, h3, hW.keep h3⟩))
  have H4 : Hid (∀ W, LgS w B (.slice pA P.length pcap) P rv V gv G W → Calls Tryz.prog 22 #[.agg #[.slice pA P.length pcap, .int .i64 0, .slice none 0 0, .slice none 0 0, .int .i64 0, .int .i64 0], rv, .slice none 0 0] W fun e w' => ∃ ov, e = .returned ov ∧ BlSl w' ov C2 ∧ Only NoneOf W w' ∧ LgS w B (.slice pA P.length pcap) P rv V gv G w') := Lib.hid (fun W hW => by
    rw [eC2, ← growB_nil]
    exact (rclash_any P HP.out HPL.out _ V HVO.out hv5 rv [] glOk_nil _ W hW.l.per hW.l.vts (gl_nil W)).mono (fun e w' ⟨ov, h1, h2, h3⟩ => ⟨ov, h1, h2, h3, hW.keep h3⟩))
  have H5 : Hid (∀ C av bv W, LgS w B (.slice pA P.length pcap) P rv V gv G W → BlSl W av C → BlSl W bv C → Calls Tryz.prog 19 #[av, bv] W fun e w' => e = .returned (.bool true) ∧ LgS w B (.slice pA P.length pcap) P rv V gv G w') := Lib.hid (fun C av bv W hW ha hb => (same_any C av bv W ha hb).mono (fun e w' ⟨h1, h2⟩ => ⟨h1, hW.keep h2⟩))
  clear hS4 hgv hG ho4 eC1 eC2 HS3 HLI
  go_upto_region 5 with (fail)
  have hS : LgS w B (.slice pA P.length pcap) P rv V gv G w4.drew := HS4.out.keep (Only.refl _ _).drew
  have c0 : ∀ W, LgS w B (.slice pA P.length pcap) P rv V gv G W → W.cell? ⟨B, 0, none⟩ = some (.slice pA P.length pcap) := fun W hW => hW.l.cells.1
  have c1 : ∀ W, LgS w B (.slice pA P.length pcap) P rv V gv G W → W.cell? ⟨B, 1, none⟩ = some (.int .i64 0) := fun W hW => hW.l.cells.2.1
  have c2 : ∀ W, LgS w B (.slice pA P.length pcap) P rv V gv G W → W.cell? ⟨B, 2, none⟩ = some (.slice none 0 0) := fun W hW => hW.l.cells.2.2.1
  have c3 : ∀ W, LgS w B (.slice pA P.length pcap) P rv V gv G W → W.cell? ⟨B, 3, none⟩ = some (.slice none 0 0) := fun W hW => hW.l.cells.2.2.2.1
  have c4 : ∀ W, LgS w B (.slice pA P.length pcap) P rv V gv G W → W.cell? ⟨B, 4, none⟩ = some (.int .i64 0) := fun W hW => hW.l.cells.2.2.2.2.1
  have c5 : ∀ W, LgS w B (.slice pA P.length pcap) P rv V gv G W → W.cell? ⟨B, 5, none⟩ = some (.int .i64 0) := fun W hW => hW.l.cells.2.2.2.2.2
  clear HS4
  go_region_held3 (fun w' => LgS w B (.slice pA P.length pcap) P rv V gv G w') (first | (with_reducible assumption))
    (first
      | (go_at_call 20; (with_reducible refine (H1.out _ (by assumption)).mono ?_); rintro e5 w5 ⟨ov1, rfl, hb1, ho5, hS5⟩)
      | (go_at_call 20; (with_reducible refine (H3.out _ (by assumption)).mono ?_); rintro e7 w7 ⟨ov3, rfl, hb3, ho7, hS7⟩)
      | (go_at_call 22; (with_reducible refine (H2.out _ (by assumption)).mono ?_); rintro e6 w6 ⟨ov2, rfl, hb2, ho6, hS6⟩; have hb1 := BlSl.only hb1 ho6)
      | (go_at_call 22; (with_reducible refine (H4.out _ (by assumption)).mono ?_); rintro e8 w8 ⟨ov4, rfl, hb4, ho8, hS8⟩; have hb3 := BlSl.only hb3 ho8)
      | (go_at_call 19; (with_reducible refine (H5.out C1 _ _ _ (by assumption) (by assumption) (by assumption)).mono ?_); rintro e9 w9 ⟨rfl, hS9⟩)
      | (go_at_call 19; (with_reducible refine (H5.out C2 _ _ _ (by assumption) (by assumption) (by assumption)).mono ?_); rintro e10 w10 ⟨rfl, hS10⟩))
  all_goals
    have HO : Hid (Only NoneOf w _) := Lib.hid (LwS.only (LgS.l (by with_reducible assumption)))
    clear c0 c1 c2 c3 c4 c5
    go_wp2_with fail
    go_ret
    exact ⟨rfl, HO.out⟩
end Go.Proofs.YtoehfainhmfghaaGreatDoor
