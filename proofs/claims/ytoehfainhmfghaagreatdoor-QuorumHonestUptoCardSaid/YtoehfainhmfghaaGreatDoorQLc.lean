/- What is proved here: the law that Certified and Best have the results of the reference answers true. Conditions: the numbers are bytes; the table of powers of ten reads as its initialiser lays it. -/
import Derived.Test.YtoehfainhmfghaaGreatDoorB4
namespace Go.Proofs.YtoehfainhmfghaaGreatDoor
open Go.RowKit Go.Shelf
attribute [local go_sem ↓ high] hdLoad_eq hdNew_eq hdStore_eq
/-- .. and a head. -/
structure LhS (w : World) (B : Nat) (pv : Value) (P : List Pers) (sv : Value) (L : List Vt) (N : Nat) (h : Hd) (W : World) : Prop where
  l : LwS w B pv P sv L W
  h : HdAt W N h
theorem LhS.keep {w : World} {B : Nat} {pv : Value} {P : List Pers} {sv : Value} {L : List Vt} {N : Nat} {h : Hd} {W W' : World} (k : LhS w B pv P sv L N h W) (ho : Only NoneOf W W') : LhS w B pv P sv L N h W' :=
  ⟨k.l.keep ho, Blk.only k.h ho (fun e => e)⟩
theorem LwS.head {w : World} {B : Nat} {pv : Value} {P : List Pers} {sv : Value} {L : List Vt} {W : World} (k : LwS w B pv P sv L W) (h : Hd) (hl : h.root.length = 32) : LhS w B pv P sv L W.heap.size h ((W.alloc (.cells hd0C 25)).setCells W.heap.size 0 (hdC h)) := by
  have hO7 : Only NoneOf W ((W.alloc (.cells hd0C 25)).setCells W.heap.size 0 (hdC h)) := only_setCells ((Only.refl _ _).alloc _) W.heap.size 0 (.inr (Nat.le_refl _)) _
  exact ⟨k.keep hO7, filled_whole (Blk.new W tHd hd0C) (by rw [hdC_len hl]; rfl)⟩
theorem hd_store_new (W : World) {h : Hd} (hl : h.root.length = 32) : (hdStore (.pointer (some ⟨W.heap.size, 0, none⟩)) (.agg (hdC h).toArray)).run Tryz.prog (W.alloc (.cells hd0C 25)) = .ok () ((W.alloc (.cells hd0C 25)).setCells W.heap.size 0 (hdC h)) := hd_store (Blk.new W tHd hd0C) rfl hl
set_option maxRecDepth 100000 in
set_option maxHeartbeats 4000000 in
theorem certifies_law (n : Nat) (hn : n < 256) (odd : Bool) (L : List Bal) (hok : BalsOk L) (sv : Value) (w : World) (hs : BalSl w sv L) (ht : Tab w) :
    Calls Tryz.prog 8 #[.int .u8 (n : Int), .bool odd, sv] w fun e w' => e = .returned (.bool true) ∧ Only NoneOf w w' := by
  obtain ⟨m, em⟩ : ∃ m : Int, m = (n : Int) % 14 := ⟨_, rfl⟩
  have hm : 0 ≤ m ∧ m < 14 := by omega
  have hin : In m := ⟨by omega, by omega⟩
  have kt : (n : Int).tmod 14 = m := by rw [em, Int.tmod_eq_emod_of_nonneg (by omega)]
  have kw1 : IntKind.u8.wrap m = m := by rw [IntKind.wrap_u8]; omega
  have kw2 : IntKind.i64.wrap m = m := IntWalk.i64_in _ (by omega)
  obtain ⟨P, eP⟩ : ∃ P, P = setO (nOff m) odd := ⟨_, rfl⟩
  have hP : PersOk P := by rw [eP]; exact setO_ok m odd
  have hPl : P.length ≤ 1000 := by rw [eP]; exact setO_small m odd
  have hsu : ∀ W, Calls Tryz.prog 16 #[.int .i64 m, .bool odd] W fun e' w' => ∃ pv, e' = .returned (setV pv) ∧ PerSl w' pv P ∧ Only NoneOf W w' := fun W => by rw [eP]; exact setupO_any m hin odd W
  have hvs : ∀ W, Only NoneOf w W → Calls Tryz.prog 17 #[sv] W fun e w' => ∃ rv, e = .returned rv ∧ VtOwn w' W.heap.size rv (votesL L).length (votesL L) ∧ Only NoneOf W w' := fun W ho => rvotes_any L hok sv W (hs.only ho)
  have hsa : ∀ W, Only NoneOf w W → Calls Tryz.prog 11 #[] W fun e w' => e = .returned (.bool true) ∧ Only NoneOf W w' := fun W ho => sanity29 W (ht.none ho)
  obtain ⟨V, eV⟩ : ∃ V, V = votesL L := ⟨_, rfl⟩
  have hVo : VtsOk V := by rw [eV]; exact votesL_ok L
  have hVl : V.length ≤ 40 := by rw [eV]; exact votesL_len L
  rw [← eV] at hvs
  have HSU := Lib.hid hsu
  have HVS := Lib.hid hvs
  have HSA := Lib.hid hsa
  have HP := Lib.hid hP
  have HPL := Lib.hid hPl
  have HVO := Lib.hid hVo
  have HVL := Lib.hid hVl
  have HT := Lib.hid ht
  clear hsu hvs hsa hP hPl hVo hVl ht eP eV em hok hs hin hn
  go_enter Tryz.func8, Tryz.ntmps8
  go_wp2_with fail
  refine (HSA.out _ (Only.refl _ _)).mono ?_
  rintro e1 w1 ⟨rfl, ho1⟩
  have HO1 := Lib.hid ho1
  clear ho1 HSA
  go_wp2_with fail
  refine (HSU.out _).mono ?_
  rintro e2 w2 ⟨pv, rfl, hpv, ho2⟩
  have HO2 := Lib.hid (HO1.out.trans ho2)
  obtain ⟨pA, pcap, rfl, _, _, _⟩ := id hpv
  obtain ⟨B, eB⟩ : ∃ B, B = w2.heap.size := ⟨_, rfl⟩
  obtain ⟨X, eX⟩ : ∃ X, X = w2.alloc (.cells #[.slice pA P.length pcap, .int .i64 0, .slice none 0 0, .slice none 0 0, .int .i64 0, .int .i64 0] 39) := ⟨_, rfl⟩
  have hX1 : Blk X B tSu #[.slice pA P.length pcap, .int .i64 0, .slice none 0 0, .slice none 0 0, .int .i64 0, .int .i64 0] := by rw [eX, eB]; exact Blk.new w2 _ _
  have hX2 : Only NoneOf w2 X := by rw [eX]; exact (Only.refl _ _).alloc _
  have HX := Lib.hid (And.intro hX1 (And.intro (hpv.only hX2) (HO2.out.trans hX2)))
  have EB := Lib.hid eB
  have EX := Lib.hid eX
  clear hpv ho2 hX1 hX2 eB eX HO2 HSU
  unfold setV
  go_upto_region 3 with (fail)
  rw [← EB.out, ← EX.out]
  clear EB EX
  go_wp2_with fail
  refine (HVS.out _ HX.out.2.2).mono ?_
  rintro e3 w3 ⟨rv, rfl, hrv, ho3⟩
  have hS3 : LwS w B (.slice pA P.length pcap) P rv V w3 := ⟨HX.out.1.only ho3 (fun e => e), HX.out.2.1.only ho3, hrv.sl HVO.out, HX.out.2.2.trans ho3⟩
  have HS3 := Lib.hid hS3
  have HCQ : Hid (∀ (h : Hd) (ok : h.Ok) W, LwS w B (.slice pA P.length pcap) P rv V W → Calls Tryz.prog 25 #[.agg #[.slice pA P.length pcap, .int .i64 0, .slice none 0 0, .slice none 0 0, .int .i64 0, .int .i64 0], .agg (hdC h).toArray, rv] W fun e w' => e = .returned (.bool (certB P h V)) ∧ Only NoneOf W w') := Lib.hid (fun h ok W hW => qcert_any P HP.out HPL.out _ h ok V HVO.out (Nat.le_trans HVL.out (by omega)) rv W hW.per hW.vts (HT.out.none hW.only))
  have HCR : Hid (∀ (h : Hd) (ok : h.Ok) W, LwS w B (.slice pA P.length pcap) P rv V W → Calls Tryz.prog 30 #[.agg #[.slice pA P.length pcap, .int .i64 0, .slice none 0 0, .slice none 0 0, .int .i64 0, .int .i64 0], .agg (hdC h).toArray, rv] W fun e w' => e = .returned (.bool (certB P h V)) ∧ Only NoneOf W w') := Lib.hid (fun h ok W hW => rqcert_any P HP.out HPL.out _ h ok V HVO.out (Nat.le_trans HVL.out (by omega)) rv W hW.per hW.vts)
  have HBQ : Hid (∀ W, LwS w B (.slice pA P.length pcap) P rv V W → Calls Tryz.prog 31 #[.agg #[.slice pA P.length pcap, .int .i64 0, .slice none 0 0, .slice none 0 0, .int .i64 0, .int .i64 0], rv] W fun e w' => ∃ o, BestOn (fun h => h ∈ V.map (·.head)) (fun h => certB P h V) o ∧ e = .returned (.tuple #[.agg (hdC (hdOr o)).toArray, .bool o.isSome]) ∧ Only NoneOf W w') := Lib.hid (fun W hW => qbest_any P HP.out HPL.out _ V HVO.out (Nat.le_trans HVL.out (by omega)) rv W hW.per hW.vts (HT.out.none hW.only))
  have HBR : Hid (∀ W, LwS w B (.slice pA P.length pcap) P rv V W → Calls Tryz.prog 32 #[.agg #[.slice pA P.length pcap, .int .i64 0, .slice none 0 0, .slice none 0 0, .int .i64 0, .int .i64 0], rv] W fun e w' => ∃ o, BestOn (fun h => h ∈ V.map (·.head)) (fun h => certB P h V) o ∧ e = .returned (.tuple #[.agg (hdC (hdOr o)).toArray, .bool o.isSome]) ∧ Only NoneOf W w') := Lib.hid (fun W hW => rqbest_any P HP.out HPL.out _ V HVO.out (Nat.le_trans HVL.out (by omega)) rv W hW.per hW.vts)
  clear hrv ho3 hS3 HX HVS
  go_wp2_with fail
  go_loopw [10, 11] (fun i _ wr => ∃ k : Nat, i = .int .i64 k ∧ k ≤ 8 ∧ LwS w B (.slice pA P.length pcap) P rv V wr) (fun i _ _ => 8 - (intOf i).toNat)
  case atStart => exact ⟨0, rfl, by omega, HS3.out⟩
  case round =>
    obtain ⟨k, rfl, hk, hS⟩ := hrel
    have HS := Lib.hid hS
    clear hS
    by_cases hlt : k < 8
    · have ik : (k : Int) < 8 := by omega
      go_wp2_with fail
      refine (rhead_any (k : Int) ⟨by omega, by omega⟩ wr).mono ?_
      rintro e4 w4 ⟨rfl, ho4⟩
      obtain ⟨h, eh⟩ : ∃ h, h = headI (k : Int) := ⟨_, rfl⟩
      have hko : h.Ok := by rw [eh]; exact headI_ok _
      rw [← eh]
      have hl := hko.root
      have hst := hd_store_new w4 hl
      have hnw := hdNew_run
      have hL := (HS.out.keep ho4).head h hl
      obtain ⟨N, eN⟩ : ∃ N, N = w4.heap.size := ⟨_, rfl⟩
      rw [← eN] at hL
      have HL := Lib.hid hL
      have EN := Lib.hid eN
      clear hL eN ho4 eh
      go_upto_region 8 with (fail)
      rw [← EN.out]
      refine wp_gen (LhS w B (.slice pA P.length pcap) P rv V N h) HL.out ?_
      intro Z hZ
      clear hst hnw HL EN
      have hS : LhS w B (.slice pA P.length pcap) P rv V N h Z.drew := hZ.keep (Only.refl _ _).drew
      have c0 : ∀ W, LhS w B (.slice pA P.length pcap) P rv V N h W → W.cell? ⟨B, 0, none⟩ = some (.slice pA P.length pcap) := fun W hW => hW.l.cells.1
      have c1 : ∀ W, LhS w B (.slice pA P.length pcap) P rv V N h W → W.cell? ⟨B, 1, none⟩ = some (.int .i64 0) := fun W hW => hW.l.cells.2.1
      have c2 : ∀ W, LhS w B (.slice pA P.length pcap) P rv V N h W → W.cell? ⟨B, 2, none⟩ = some (.slice none 0 0) := fun W hW => hW.l.cells.2.2.1
      have c3 : ∀ W, LhS w B (.slice pA P.length pcap) P rv V N h W → W.cell? ⟨B, 3, none⟩ = some (.slice none 0 0) := fun W hW => hW.l.cells.2.2.2.1
      have c4 : ∀ W, LhS w B (.slice pA P.length pcap) P rv V N h W → W.cell? ⟨B, 4, none⟩ = some (.int .i64 0) := fun W hW => hW.l.cells.2.2.2.2.1
      have c5 : ∀ W, LhS w B (.slice pA P.length pcap) P rv V N h W → W.cell? ⟨B, 5, none⟩ = some (.int .i64 0) := fun W hW => hW.l.cells.2.2.2.2.2
      have ch : ∀ W, LhS w B (.slice pA P.length pcap) P rv V N h W → (hdLoad (.pointer (some ⟨N, 0, none⟩))).run Tryz.prog W = .ok (.agg (hdC h).toArray) W := fun W hW => hd_load (blk_range hW.h) hl
      obtain ⟨c, ec⟩ : ∃ c, c = certB P h V := ⟨_, rfl⟩
      have hne : (c != c) = false := by simp
      have H1 : Hid (∀ W, LhS w B (.slice pA P.length pcap) P rv V N h W → Calls Tryz.prog 25 #[.agg #[.slice pA P.length pcap, .int .i64 0, .slice none 0 0, .slice none 0 0, .int .i64 0, .int .i64 0], .agg (hdC h).toArray, rv] W fun e w' => e = .returned (.bool c) ∧ LhS w B (.slice pA P.length pcap) P rv V N h w') := Lib.hid (fun W hW => by rw [ec]; exact (HCQ.out h hko W hW.l).mono (fun e w' hh => ⟨hh.1, hW.keep hh.2⟩))
      have H2 : Hid (∀ W, LhS w B (.slice pA P.length pcap) P rv V N h W → Calls Tryz.prog 30 #[.agg #[.slice pA P.length pcap, .int .i64 0, .slice none 0 0, .slice none 0 0, .int .i64 0, .int .i64 0], .agg (hdC h).toArray, rv] W fun e w' => e = .returned (.bool c) ∧ LhS w B (.slice pA P.length pcap) P rv V N h w') := Lib.hid (fun W hW => by rw [ec]; exact (HCR.out h hko W hW.l).mono (fun e w' hh => ⟨hh.1, hW.keep hh.2⟩))
      clear hZ ec hko
      go_region_held3 (fun w' => LhS w B (.slice pA P.length pcap) P rv V N h w') (first | (with_reducible assumption))
        (first
          | (go_at_call 25; refine (H1.out _ (by with_reducible assumption)).mono ?_; rintro e5 w5 ⟨rfl, hS5⟩)
          | (go_at_call 30; refine (H2.out _ (by with_reducible assumption)).mono ?_; rintro e6 w6 ⟨rfl, hS6⟩))
      all_goals
        have HNEW : Hid (LwS w B (.slice pA P.length pcap) P rv V _) := Lib.hid (LhS.l (by with_reducible assumption))
        clear hS c0 c1 c2 c3 c4 c5 ch hS5 hS6
        go_wp2_with fail
        go_roundw
        case rel => exact ⟨k + 1, by go_num, by omega, HNEW.out⟩
        case measure => simp [intOf]; omega
    · obtain rfl : k = 8 := by omega
      obtain ⟨s0, s1, s2, s3, s4, s5⟩ := HS.out.cells
      go_wp2_with fail
      refine (HBQ.out _ HS.out).mono ?_
      rintro e4 w4 ⟨o, hbo, rfl, ho4⟩
      have hol : (hdOr o).root.length = 32 := by
        cases o with
        | none => rfl
        | some h =>
          obtain ⟨u, hu, eu⟩ := List.mem_map.1 hbo.1
          have := (HVO.out u hu).head.root
          rw [eu] at this
          exact this
      have hst := hd_store_new w4 hol
      have hnw := hdNew_run
      have hL := (HS.out.keep ho4).head (hdOr o) hol
      obtain ⟨N, eN⟩ : ∃ N, N = w4.heap.size := ⟨_, rfl⟩
      rw [← eN] at hL
      have HL := Lib.hid hL
      have EN := Lib.hid eN
      have HBO := Lib.hid hbo
      clear hL eN ho4 hbo s0 s1 s2 s3 s4 s5 HS
      go_upto_region 11 with (fail)
      rw [← EN.out]
      refine wp_gen (LhS w B (.slice pA P.length pcap) P rv V N (hdOr o)) HL.out ?_
      intro Z hZ
      obtain ⟨s0, s1, s2, s3, s4, s5⟩ := hZ.l.cells
      have HZ := Lib.hid hZ
      clear hst HL EN hZ
      go_wp2_with fail
      refine (HBR.out _ HZ.out.l).mono ?_
      rintro e5 w5 ⟨o', hbo', rfl, ho5⟩
      obtain rfl : o' = o := hbo'.unique HBO.out
      have hst := hd_store_new w5 hol
      have hL2 := (HZ.out.keep ho5)
      have hL := hL2.l.head (hdOr o') hol
      have hN : N < w5.heap.size := Blk.lt hL2.h
      obtain ⟨M, eM⟩ : ∃ M, M = w5.heap.size := ⟨_, rfl⟩
      have hL3 : HdAt ((w5.alloc (.cells hd0C 25)).setCells M 0 (hdC (hdOr o'))) N (hdOr o') := Blk.farCells (by omega) _ 0 (Blk.alloc hL2.h _)
      rw [← eM] at hL
      have HL := Lib.hid hL
      have HL3 := Lib.hid hL3
      have EM := Lib.hid eM
      clear hL eM ho5 hbo' s0 s1 s2 s3 s4 s5 HZ hL2 hL3 hN HBO
      go_upto_region 12 with (fail)
      rw [← EM.out]
      refine wp_gen (fun Z => LhS w B (.slice pA P.length pcap) P rv V M (hdOr o') Z ∧ HdAt Z N (hdOr o')) ⟨HL.out, HL3.out⟩ ?_
      rintro Z2 ⟨hZ2, hZ3⟩
      have l1 := hd_load (blk_range hZ2.h) hol
      have l2 := hd_load (blk_range hZ3) hol
      have q1 := fun W => eql_hd (hdOr o') (hdOr o') hol hol W
      rw [eqHd_self] at q1
      have q2 : (o'.isSome == o'.isSome) = true := by simp
      have HO := Lib.hid hZ2.l.only
      clear hst hnw HL HL3 EM hZ2 hZ3
      go_wp2_with fail
      go_ret
      exact ⟨rfl, HO.out⟩
end Go.Proofs.YtoehfainhmfghaaGreatDoor
