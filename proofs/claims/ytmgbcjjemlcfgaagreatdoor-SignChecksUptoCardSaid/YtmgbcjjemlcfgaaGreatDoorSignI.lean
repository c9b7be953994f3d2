/- What is proved here: a signature read off a text, by the program. Conditions: the library's variables hold what their initialisers lay; the text is short. -/
import Derived.Test.YtmgbcjjemlcfgaaGreatDoorSignH
import Derived.Lib.AtoiErrMem
import Derived.Laws.ResultCell
namespace Go.Proofs.YtmgbcjjemlcfgaaGreatDoor
open Go.RowKit Go.Shelf
/-- How a reading ends. -/
def ReadEnd (l : List UInt8) (e : Ending) : Prop := (∃ r t, IsText l r t ∧ e = .returned (.tuple #[sgv r t, .bool true])) ∨ ((∀ r t, ¬ IsText l r t) ∧ e = .returned (.tuple #[sgv 0 0, .bool false]))
theorem bytesWorld_only (w : World) (t : ByteArray) : Only NoneOf w (Lib.bytesWorld w 5 t) := Only.of_below (Lib.bytesWorld_below w 5 t) _
theorem parse_any (s : ByteArray) (hs : s.size ≤ 17592186044416) (w : World) (he : Env w) : Calls Tryz.prog 30 #[.string s, .int .i64 10, .int .i64 64] w fun e w' =>
    ∃ v ev, e = .returned (.tuple #[.int .i64 v, ev]) ∧ ((ev = .nilIface ∧ Lib.parseIntB 64 s.data.toList = .ok v) ∨ ((∃ p, ev = .iface 83 p) ∧ ∀ u, Lib.parseIntB 64 s.data.toList ≠ .ok u)) ∧ Only NoneOf w w' := by
  cases hp : Lib.parseIntB 64 s.data.toList
  · rename_i v
    refine (Tryz.strconv_ParseInt_10_at64_ok s (by omega) v hp w).mono fun e w' h => ?_
    obtain ⟨rfl, h⟩ := h
    refine ⟨v, .nilIface, rfl, .inl ⟨rfl, rfl⟩, ?_⟩
    rcases h with rfl | ⟨t, rfl⟩
    · exact Only.refl _ _
    · exact bytesWorld_only _ _
  · obtain ⟨tp, p, hv⟩ := he.syn
    refine (Tryz.strconv_ParseInt_10_at64_syntax_var s (by omega) hp tp p w hv).mono fun e w' h => ?_
    obtain ⟨N, rfl, _, _, hb⟩ := h
    exact ⟨_, _, rfl, .inr ⟨⟨_, rfl⟩, fun u e => by cases e⟩, Only.of_below hb _⟩
  · obtain ⟨tp, p, hv⟩ := he.rng
    refine (Tryz.strconv_ParseInt_10_at64_range_var s (by omega) hp tp p w hv).mono fun e w' h => ?_
    obtain ⟨N, rfl, _, _, hb⟩ := h
    exact ⟨_, _, rfl, .inr ⟨⟨_, rfl⟩, fun u e => by cases e⟩, Only.of_below hb _⟩
theorem read_res {fn : Func} {p u : Tmp} {tmps : Array Value} {w : World} {g : Nat} {r s : Int} {b : Bool} (h : fn.results = #[.cell p tSig, .tmp u]) (hp : tmps.getD p undef = .pointer (some ⟨g, 0, none⟩)) (hu : tmps.getD u undef = .bool b) (hb : Blk w g tSig #[.int .i64 r, .int .i64 s]) : (results fn tmps).run Tryz.prog w = .ok (.tuple #[sgv r s, .bool b]) w := by
  have hr : w.rangeAt g 0 [.int .i64 r, .int .i64 s] := fun j v hv => by rw [Nat.zero_add, hb.cell]; simpa using hv
  have hl := run_loadVar_mid (P := Tryz.prog) w g 0 tSig _ _ hr Tryz.underlying27 rfl (by kernel_rfl)
  rw [results_cell_tmp h, hp, hu]
  simp only [asAddr]
  show (Result.andThen (Result.ok _ w) _) = _
  simp only [Result.andThen]
  rw [hl]
  rfl
theorem no_text_cut {l : List UInt8} (h : (Lib.cut l [46]).2.2 = false) : ∀ r t, ¬ IsText l r t := fun r t ⟨h1, _, e⟩ => by
  rw [e, text_cut h1] at h; cases h
theorem no_text_a {l : List UInt8} (h : ∀ u, Lib.parseIntB 64 (Lib.cut l [46]).1 ≠ .ok u) : ∀ r t, ¬ IsText l r t := fun r t ⟨h1, _, e⟩ => by
  rw [e, text_cut h1] at h; exact h r (parse_itoa h1)
theorem no_text_b {l : List UInt8} (h : ∀ u, Lib.parseIntB 64 (Lib.cut l [46]).2.1 ≠ .ok u) : ∀ r t, ¬ IsText l r t := fun r t ⟨h1, h2, e⟩ => by
  rw [e, text_cut h1] at h; exact h t (parse_itoa h2)
theorem no_text_c (l : List UInt8) (u v : Int) (ha : Lib.parseIntB 64 (Lib.cut l [46]).1 = .ok u) (hb : Lib.parseIntB 64 (Lib.cut l [46]).2.1 = .ok v) (hne : textOf u v ≠ l) : ∀ r t, ¬ IsText l r t := fun r t ⟨h1, h2, e⟩ => by
  rw [e, text_cut h1] at ha hb
  simp only [parse_itoa h1, parse_itoa h2, Lib.NumEnd.ok.injEq] at ha hb
  rw [← ha, ← hb] at hne
  exact hne e.symm
theorem cut_small (s sep : ByteArray) : (⟨(Lib.cut s.data.toList sep.data.toList).1.toArray⟩ : ByteArray).size ≤ s.size ∧ (⟨(Lib.cut s.data.toList sep.data.toList).2.1.toArray⟩ : ByteArray).size ≤ s.size := by
  rw [size_list, size_list, size_list]
  unfold Lib.cut
  split <;> simp <;> omega
set_option maxRecDepth 100000 in
set_option maxHeartbeats 1000000 in
theorem sread_any (s : ByteArray) (hs : s.size ≤ 1048576) (w : World) (he : Env w) : Calls Tryz.prog 11 #[.string s] w fun e w' => ReadEnd s.data.toList e ∧ Only NoneOf w w' := by
  have hx : Only NoneOf w (w.alloc (.cells #[.int .i64 0, .int .i64 0] tSig)) := (Only.refl _ _).alloc _
  have hb := Blk.new w tSig #[.int .i64 0, .int .i64 0]
  have hex := he.none hx
  obtain ⟨B, eB⟩ : ∃ B, B = w.heap.size := ⟨_, rfl⟩
  obtain ⟨X, eX⟩ : ∃ X, X = w.alloc (.cells #[.int .i64 0, .int .i64 0] tSig) := ⟨_, rfl⟩
  rw [← eX] at hx hex hb
  rw [← eB] at hb
  have HX := Lib.hid hx
  have HB := Lib.hid hb
  have HE := Lib.hid hex
  have EB := Lib.hid eB
  have hcs := cut_small s ⟨#[46]⟩
  have hnc := no_text_cut (l := s.data.toList)
  have hna := no_text_a (l := s.data.toList)
  have hnb := no_text_b (l := s.data.toList)
  have hnd := no_text_c s.data.toList
  obtain ⟨c, ec⟩ : ∃ c, c = Lib.cut s.data.toList [46] := ⟨_, rfl⟩
  have hcut := fun W hW => Tryz.strings_Cut_shaped s ⟨#[46]⟩ W hW (by omega)
  rw [show (⟨#[46]⟩ : ByteArray).data.toList = [46] from rfl, ← ec] at hcs hcut
  rw [← ec] at hnc hna hnb hnd
  obtain ⟨a, b, f⟩ := c
  simp only at hcs hcut hnc hna hnb hnd
  obtain ⟨A, eA⟩ : ∃ A : ByteArray, A = ⟨a.toArray⟩ := ⟨_, rfl⟩
  obtain ⟨D, eD⟩ : ∃ D : ByteArray, D = ⟨b.toArray⟩ := ⟨_, rfl⟩
  have hA : a = A.data.toList := by rw [eA]
  have hD : b = D.data.toList := by rw [eD]
  rw [← eA, ← eD] at hcs hcut
  rw [hA] at hna hnd
  rw [hD] at hnb hnd
  have HCUT := Lib.hid hcut
  have HNC := Lib.hid hnc
  have HNA := Lib.hid hna
  have HNB := Lib.hid hnb
  have HND := Lib.hid hnd
  obtain ⟨z1, z2⟩ := hcs
  clear he hx hex hb ec hcut hnc hna hnb hnd eA eD hA hD
  go_enter Tryz.func11, Tryz.ntmps11
  go_wp2_with fail
  rw [← eX, ← eB]
  clear eX eB
  refine (HCUT.out _ HE.out.shp).mono ?_
  rintro e w1 ⟨rfl, n, rfl⟩
  cases f
  · have hb1 := HB.out.drewN n
    have c0 := hb1.cell 0
    have c1 := hb1.cell 1
    have f0 := hb1.frozen 0
    have f1 := hb1.frozen 1
    have HB1 := Lib.hid hb1
    clear hb1
    go_wp2_with fail
    have h8 := (HB1.out.set_ 0 (.int .i64 0)).set_ 1 (.int .i64 0)
    refine bodyPost_ret (v := .tuple #[sgv 0 0, .bool false]) (read_res rfl rfl rfl h8) rfl ⟨.inr ⟨HNC.out (by simp), rfl⟩, (((HX.out.drewN n).setCell (p := ⟨B, 0, none⟩) (.inr (Nat.le_of_eq EB.out.symm)) _).setCell (p := ⟨B, 1, none⟩) (.inr (Nat.le_of_eq EB.out.symm)) _)⟩
  · have HB1 := Lib.hid (HB.out.drewN n)
    have HO1 := Lib.hid (HX.out.drewN n)
    have HE1 := Lib.hid (HE.out.none ((Only.refl NoneOf X).drewN n))
    clear HNC HCUT HX HB HE
    go_wp2_with fail
    refine (parse_any A (by omega) _ HE1.out).mono ?_
    rintro e w2 ⟨u, eu, rfl, hu, ho2⟩
    have HB2 := Lib.hid (HB1.out.only ho2 (fun e => e))
    have HO2 := Lib.hid (HO1.out.trans ho2)
    have HE2 := Lib.hid (HE1.out.none ho2)
    have HU := Lib.hid hu
    clear ho2 hu HB1 HO1 HE1
    go_wp2_with fail
    refine (parse_any D (by omega) _ HE2.out).mono ?_
    rintro e w3 ⟨v, ev, rfl, hv, ho3⟩
    have hb3 := HB2.out.only ho3 (fun e => e)
    have c0 := (hb3.alloc (.cells #[.int .i64 u, .int .i64 v] tSig)).cell 0
    have c1 := (hb3.alloc (.cells #[.int .i64 u, .int .i64 v] tSig)).cell 1
    have f0 := (hb3.alloc (.cells #[.int .i64 u, .int .i64 v] tSig)).frozen 0
    have f1 := (hb3.alloc (.cells #[.int .i64 u, .int .i64 v] tSig)).frozen 1
    have HO3 := Lib.hid (HO2.out.trans ho3)
    have HE3 := Lib.hid (HE2.out.none ho3)
    have HB3 := Lib.hid hb3
    have HV := Lib.hid hv
    clear ho3 hv hb3 HB2 HO2 HE2
    rcases HU.out with ⟨rfl, hpu⟩ | ⟨⟨p, rfl⟩, hpu⟩
    · rcases HV.out with ⟨rfl, hpv⟩ | ⟨⟨q, rfl⟩, hpv⟩
      · have iu := parse_in hpu
        have iv := parse_in hpv
        have hnd := HND.out u v hpu hpv
        have hY : Blk (w3.alloc (.cells #[.int .i64 u, .int .i64 v] tSig)) w3.heap.size tSig #[.int .i64 u, .int .i64 v] := Blk.new w3 _ _
        have hYO : Only NoneOf w (w3.alloc (.cells #[.int .i64 u, .int .i64 v] tSig)) := HO3.out.alloc _
        have hYE := HE3.out.none ((Only.refl NoneOf w3).alloc (.cells #[.int .i64 u, .int .i64 v] tSig))
        have hYB := HB3.out.alloc (.cells #[.int .i64 u, .int .i64 v] tSig)
        have y0 := hY.cell 0
        have y1 := hY.cell 1
        have IU := Lib.hid iu
        have IV := Lib.hid iv
        have HD := Lib.hid hnd
        have HYY := Lib.hid hY
        have HYO := Lib.hid hYO
        have HYE := Lib.hid hYE
        have HYB := Lib.hid hYB
        clear iu iv hnd hY hYO hYE hYB HU HV hpu hpv HNA HNB HND
        go_wp2_with fail
        refine (stext_any u v IU.out IV.out _ HYE.out.tab).mono ?_
        rintro e w4 ⟨t, rfl, ht, ho4⟩
        have hb4 := HYB.out.only ho4 (fun e => e)
        have hy4 := HYY.out.only ho4 (fun e => e)
        have HO4 := Lib.hid (HYO.out.trans ho4)
        have d0 := hb4.cell 0
        have d1 := hb4.cell 1
        have g0 := hb4.frozen 0
        have g1 := hb4.frozen 1
        have x0 := hy4.cell 0
        have x1 := hy4.cell 1
        have HB4 := Lib.hid hb4
        by_cases heq : textOf u v = s.data.toList
        · have hts : t = s := by
            have h1 := bytes_eq (t := t) (l := s.data.toList) (by rw [ht, heq])
            have h2 := bytes_eq (t := s) (l := s.data.toList) rfl
            exact h1.trans h2.symm
          subst hts
          have HQ := Lib.hid heq
          clear heq ht ho4 hb4 hy4 HD
          go_wp2_with fail
          have h8 := (HB4.out.set_ 0 (.int .i64 u)).set_ 1 (.int .i64 v)
          refine bodyPost_ret (v := .tuple #[sgv u v, .bool true]) (read_res rfl rfl rfl h8) rfl ⟨.inl ⟨u, v, ⟨IU.out, IV.out, HQ.out.symm⟩, rfl⟩, ((HO4.out.setCell (p := ⟨B, 0, none⟩) (.inr (Nat.le_of_eq EB.out.symm)) _).setCell (p := ⟨B, 1, none⟩) (.inr (Nat.le_of_eq EB.out.symm)) _)⟩
        · have hts : (t.toList == s.toList) = false := by
            rw [Lib.toList_data, Lib.toList_data, ht]
            exact beq_eq_false_iff_ne.2 heq
          have HN := Lib.hid (HD.out heq)
          clear heq ht ho4 hb4 hy4 HD
          go_wp2_with fail
          have h8 := (HB4.out.set_ 0 (.int .i64 0)).set_ 1 (.int .i64 0)
          refine bodyPost_ret (v := .tuple #[sgv 0 0, .bool false]) (read_res rfl rfl rfl h8) rfl ⟨.inr ⟨HN.out, rfl⟩, ((HO4.out.setCell (p := ⟨B, 0, none⟩) (.inr (Nat.le_of_eq EB.out.symm)) _).setCell (p := ⟨B, 1, none⟩) (.inr (Nat.le_of_eq EB.out.symm)) _)⟩
      · have HN := Lib.hid (HNB.out hpv)
        clear hpu hpv HU HV HNA HNB HND
        go_wp2_with fail
        have h8 := ((HB3.out.alloc (.cells #[.int .i64 u, .int .i64 v] tSig)).set_ 0 (.int .i64 0)).set_ 1 (.int .i64 0)
        refine bodyPost_ret (v := .tuple #[sgv 0 0, .bool false]) (read_res rfl rfl rfl h8) rfl ⟨.inr ⟨HN.out, rfl⟩, (((HO3.out.alloc _).setCell (p := ⟨B, 0, none⟩) (.inr (Nat.le_of_eq EB.out.symm)) _).setCell (p := ⟨B, 1, none⟩) (.inr (Nat.le_of_eq EB.out.symm)) _)⟩
    · have HN := Lib.hid (HNA.out hpu)
      clear hpu HU HV HNA HNB HND
      go_wp2_with fail
      have h8 := ((HB3.out.alloc (.cells #[.int .i64 u, .int .i64 v] tSig)).set_ 0 (.int .i64 0)).set_ 1 (.int .i64 0)
      refine bodyPost_ret (v := .tuple #[sgv 0 0, .bool false]) (read_res rfl rfl rfl h8) rfl ⟨.inr ⟨HN.out, rfl⟩, (((HO3.out.alloc _).setCell (p := ⟨B, 0, none⟩) (.inr (Nat.le_of_eq EB.out.symm)) _).setCell (p := ⟨B, 1, none⟩) (.inr (Nat.le_of_eq EB.out.symm)) _)⟩
end Go.Proofs.YtmgbcjjemlcfgaaGreatDoor
