/- What is proved here: a ratio read off a text, by the reference of layer 1: it comes back, and reads an integer's own form. Conditions: the text is short. -/
import Derived.Test.YtclpebgjmgfigaaGreatDoorEcB
namespace Go.Proofs.YtclpebgjmgfigaaGreatDoor
open Go.RowKit Go.Shelf
abbrev tRat : TypeId := 106
def ParE (s : ByteArray) (w : World) (e : Ending) (w' : World) : Prop := ∃ (x y : Int) (k : Bool), e = .returned (.tuple #[ratV x y, .bool k]) ∧ In x ∧ In y ∧ (∀ m, In m → s.data.toList = Lib.itoa m → x = m ∧ y = 1 ∧ k = true) ∧ Only NoneOf w w'
theorem in_zero : In 0 := by unfold In; omega
theorem in_one : In 1 := by unfold In; omega
theorem itoa_slash {l : List UInt8} {k : Nat} (hk : l[k]? = some 47) : ∀ m, In m → l ≠ Lib.itoa m := fun m hm e => by
  have h := itoa_ne hm (b := 47) (by decide) 47 (by rw [← e]; exact List.mem_of_getElem? hk)
  exact h rfl
theorem NumE.cases {l : List UInt8} {e : Ending} (h : NumE l e) : ∃ (n : Int) (k : Bool), e = .returned (.tuple #[.int .i64 n, .bool k]) ∧ (k = true → In n ∧ l = Lib.itoa n) ∧ (k = false → ∀ m, In m → l ≠ Lib.itoa m) := by
  rcases h with ⟨n, h1, h2, h3⟩ | ⟨h1, v, h2⟩
  · exact ⟨n, true, h3, (fun _ => ⟨h1, h2⟩), (fun h => by cases h)⟩
  · exact ⟨v, false, h2, (fun h => by cases h), (fun _ => h1)⟩
set_option maxRecDepth 100000 in
set_option maxHeartbeats 400000 in
theorem of01_any (n : Int) (w : World) : Calls Tryz.prog 105 #[.int .i64 n] w fun e w' => e = .returned (ratV n 1) ∧ Only NoneOf w w' := by
  go_enter Tryz.func105, Tryz.ntmps105
  go_wp2_with fail
  have hb := Blk.new w tRat #[.int .i64 n, .int .i64 1]
  exact bodyPost_ret (results_blk rfl rfl hb Tryz.underlying106 rfl (by kernel_rfl)) rfl ⟨rfl, (Only.refl _ _).alloc _⟩
structure ParS (w : World) (P Q : Nat) (W : World) : Prop where
  res : Blk W P tRat #[.int .i64 0, .int .i64 0]
  a : Blk W Q tRat #[.int .i64 0, .int .i64 1]
  only : Only NoneOf w W
  lo : w.heap.size ≤ P ∧ P < Q
theorem ParS.next {w W W' : World} {P Q : Nat} (h : ParS w P Q W) (ho : Only NoneOf W W') : ParS w P Q W' := ⟨h.res.only ho (fun e => e), h.a.only ho (fun e => e), h.only.trans ho, h.lo⟩
set_option maxRecDepth 100000 in
set_option maxHeartbeats 2000000 in
theorem parse01_any (s : ByteArray) (hs : s.size ≤ 100000000) (w : World) : Calls Tryz.prog 71 #[.string s] w (ParE s w) := by
  have hsz : ∀ a b, (s.extract a b).size ≤ 100000000 := fun a b => by rw [ByteArray.size_extract]; omega
  have HSZ := Lib.hid hsz
  have hlen : s.data.toList.length = s.size := by simp
  have HLEN := Lib.hid hlen
  have hall : s.extract 0 s.size = s := ByteArray.extract_zero_size
  clear hsz hlen
  obtain ⟨P, eP⟩ : ∃ P, P = w.heap.size := ⟨_, rfl⟩
  go_enter Tryz.func71, Tryz.ntmps71
  go_wp2_with fail
  refine (of01_any 0 _).mono ?_
  rintro e w1 ⟨rfl, ho1⟩
  have h1 : Blk w1 P tRat #[.int .i64 0, .int .i64 0] := by rw [eP]; exact (Blk.new w _ _).only ho1 (fun e => e)
  obtain ⟨Q, eQ⟩ : ∃ Q, Q = w1.heap.size := ⟨_, rfl⟩
  have hS : ParS w P Q (w1.alloc (.cells #[.int .i64 0, .int .i64 1] tRat)) := ⟨h1.alloc _, by rw [eQ]; exact Blk.new w1 _ _, (((Only.refl NoneOf w).alloc _).trans ho1).alloc _, Nat.le_of_eq eP.symm, by rw [eQ]; exact h1.lt⟩
  have HS := Lib.hid hS
  have EP := Lib.hid eP
  have EQ := Lib.hid eQ
  clear h1 ho1 hS eP eQ
  go_wp2_with fail
  rw [← EP.out, ← EQ.out]
  go_loopw [5, 6] (fun f v W => ∃ k : Nat, f = .bool false ∧ v = .int .i64 (k : Int) ∧ k ≤ s.size ∧ ParS w P Q W) (fun _ v _ => s.size + 1 - (intOf v).toNat)
  case atStart => exact ⟨0, rfl, rfl, Nat.zero_le _, HS.out⟩
  case round =>
    clear HS
    obtain ⟨k, rfl, rfl, hk, hS⟩ := hrel
    have HS := Lib.hid hS
    clear hS
    have k0 : (0 : Int) ≤ (k : Int) := by omega
    have k2 : (k : Int) ≤ (s.size : Int) := by omega
    have wk : IntKind.i64.wrap ((k : Int) + 1) = (k : Int) + 1 := IntWalk.i64_in _ (by omega)
    by_cases hlt : k < s.size
    · have hg := str_get s k hlt
      obtain ⟨c, hc⟩ : ∃ c, s[k] = c := ⟨_, rfl⟩
      rw [hc] at hg
      have k1 : (k : Int) < (s.size : Int) := by omega
      by_cases h47 : c = 47
      · subst h47
        have e47 : ((47 : UInt8).toNat : Int) = 47 := rfl
        have HNO := Lib.hid (itoa_slash hg)
        have k3 : (k : Int) + 1 ≤ (s.size : Int) := by omega
        clear hg
        go_wp2_with fail
        refine (num01_any (s.extract 0 k) (HSZ.out _ _) wr).mono ?_
        rintro e w1 ⟨hE1, ho1⟩
        obtain ⟨n, b1, rfl, ht1, hf1⟩ := hE1.cases
        have HT1 := Lib.hid ht1
        have HS1 := Lib.hid (HS.out.next ho1)
        clear ht1 hf1 hE1 ho1 HS
        go_wp2_with fail
        refine (num01_any (s.extract (k + 1) s.size) (HSZ.out _ _) w1).mono ?_
        rintro e w2 ⟨hE2, ho2⟩
        obtain ⟨d, b2, rfl, ht2, hf2⟩ := hE2.cases
        have HT2 := Lib.hid ht2
        have HS := HS1
        have hS2 := HS.out.next ho2
        have HS2 := Lib.hid hS2
        obtain ⟨V, rfl⟩ : ∃ x, x = w2 := ⟨_, rfl⟩
        clear hS2 ho2
        clear ht2 hf2 hE2
        have q0 := HS2.out.a.cell 0
        have q1 := HS2.out.a.cell 1
        have g0 := HS2.out.a.frozen 0
        have g1 := HS2.out.a.frozen 1
        have hne : P ≠ Q := by have := HS2.out.lo.2; omega
        have HQ : Hid (∀ u v : Int, Blk ((V.setCell ⟨Q, 0, none⟩ (.int .i64 u)).setCell ⟨Q, 1, none⟩ (.int .i64 v)) Q tRat #[.int .i64 u, .int .i64 v]) := Lib.hid (fun u v => (HS2.out.a.set_ 0 (.int .i64 u)).set_ 1 (.int .i64 v))
        have HPB : Hid (∀ u v : Int, Blk ((V.setCell ⟨Q, 0, none⟩ (.int .i64 u)).setCell ⟨Q, 1, none⟩ (.int .i64 v)) P tRat #[.int .i64 0, .int .i64 0]) := Lib.hid (fun u v => (HS2.out.res.far (p := ⟨Q, 0, none⟩) hne _).far (p := ⟨Q, 1, none⟩) hne _)
        have HON : Hid (∀ u v : Int, Only NoneOf w ((V.setCell ⟨Q, 0, none⟩ (.int .i64 u)).setCell ⟨Q, 1, none⟩ (.int .i64 v))) := Lib.hid (fun u v => (HS2.out.only.setCell (p := ⟨Q, 0, none⟩) (.inr (by have := HS2.out.lo; show w.heap.size ≤ Q; omega)) _).setCell (p := ⟨Q, 1, none⟩) (.inr (by have := HS2.out.lo; show w.heap.size ≤ Q; omega)) _)
        have hlo := HS2.out.lo.1
        clear hne
        cases b1 with
        | false =>
          go_wp2_with fail
          refine (of01_any 0 _).mono ?_
          rintro e w3 ⟨rfl, ho3⟩
          have hp3 := (HPB.out n d).only ho3 (fun e => e)
          have p0 := hp3.cell 0
          have p1 := hp3.cell 1
          have fp0 := hp3.frozen 0
          have fp1 := hp3.frozen 1
          have hb9 := (hp3.set_ 0 (.int .i64 0)).set_ 1 (.int .i64 1)
          have d0 := hb9.cell 0
          have d1 := hb9.cell 1
          simp only [List.setIfInBounds_toArray, List.set_cons_zero, List.set_cons_succ, List.getElem?_toArray, List.getElem?_cons_zero, List.getElem?_cons_succ] at d0 d1
          have HO9 := Lib.hid ((((HON.out n d).trans ho3).setCell (p := ⟨P, 0, none⟩) (.inr hlo) (.int .i64 0)).setCell (p := ⟨P, 1, none⟩) (.inr hlo) (.int .i64 1))
          have HD0 := Lib.hid d0
          have HD1 := Lib.hid d1
          clear hp3 hb9 ho3 d0 d1
          go_wp2_with fail
          have d0 := HD0.out
          have d1 := HD1.out
          exact bodyPost_ret (v := .tuple #[.agg #[.int .i64 0, .int .i64 1], .bool false]) (by simp [results, Tryz.results71, go_sem, d0, d1]) rfl ⟨0, 1, false, rfl, in_zero, in_one, (fun m hm e => (HNO.out m hm e).elim), HO9.out⟩
        | true =>
          cases b2 with
          | false =>
            go_wp2_with fail
            refine (of01_any 0 _).mono ?_
            rintro e w3 ⟨rfl, ho3⟩
            have hp3 := (HPB.out n d).only ho3 (fun e => e)
            have p0 := hp3.cell 0
            have p1 := hp3.cell 1
            have fp0 := hp3.frozen 0
            have fp1 := hp3.frozen 1
            have hb9 := (hp3.set_ 0 (.int .i64 0)).set_ 1 (.int .i64 1)
            have d0 := hb9.cell 0
            have d1 := hb9.cell 1
            simp only [List.setIfInBounds_toArray, List.set_cons_zero, List.set_cons_succ, List.getElem?_toArray, List.getElem?_cons_zero, List.getElem?_cons_succ] at d0 d1
            have HO9 := Lib.hid ((((HON.out n d).trans ho3).setCell (p := ⟨P, 0, none⟩) (.inr hlo) (.int .i64 0)).setCell (p := ⟨P, 1, none⟩) (.inr hlo) (.int .i64 1))
            have HD0 := Lib.hid d0
            have HD1 := Lib.hid d1
            clear hp3 hb9 ho3 d0 d1
            go_wp2_with fail
            have d0 := HD0.out
            have d1 := HD1.out
            exact bodyPost_ret (v := .tuple #[.agg #[.int .i64 0, .int .i64 1], .bool false]) (by simp [results, Tryz.results71, go_sem, d0, d1]) rfl ⟨0, 1, false, rfl, in_zero, in_one, (fun m hm e => (HNO.out m hm e).elim), HO9.out⟩
          | true =>
            have HIN := Lib.hid (HT1.out rfl).1
            have HID := Lib.hid (HT2.out rfl).1
            go_wp2_with fail
            refine (text_gen n d HIN.out.1 HIN.out.2 HID.out.1 HID.out.2 _).mono ?_
            rintro e w3 ⟨t, rfl, ho3⟩
            by_cases heq : t.data.toList = s.data.toList
            · have hq : (t.toList == s.toList) = true := by
                rw [Lib.toList_data, Lib.toList_data]; exact beq_iff_eq.2 heq
              have hq3 := (HQ.out n d).only ho3 (fun e => e)
              have a0 := hq3.cell 0
              have a1 := hq3.cell 1
              clear heq hq3
              have hp3 := (HPB.out n d).only ho3 (fun e => e)
              have p0 := hp3.cell 0
              have p1 := hp3.cell 1
              have fp0 := hp3.frozen 0
              have fp1 := hp3.frozen 1
              have hb9 := (hp3.set_ 0 (.int .i64 n)).set_ 1 (.int .i64 d)
              have d0 := hb9.cell 0
              have d1 := hb9.cell 1
              simp only [List.setIfInBounds_toArray, List.set_cons_zero, List.set_cons_succ, List.getElem?_toArray, List.getElem?_cons_zero, List.getElem?_cons_succ] at d0 d1
              have HO9 := Lib.hid ((((HON.out n d).trans ho3).setCell (p := ⟨P, 0, none⟩) (.inr hlo) (.int .i64 n)).setCell (p := ⟨P, 1, none⟩) (.inr hlo) (.int .i64 d))
              have HD0 := Lib.hid d0
              have HD1 := Lib.hid d1
              clear hp3 hb9 ho3 d0 d1
              go_wp2_with fail
              have d0 := HD0.out
              have d1 := HD1.out
              exact bodyPost_ret (v := .tuple #[.agg #[.int .i64 n, .int .i64 d], .bool true]) (by simp [results, Tryz.results71, go_sem, d0, d1]) rfl ⟨n, d, true, rfl, HIN.out, HID.out, (fun m hm e => (HNO.out m hm e).elim), HO9.out⟩
            · have hq : (t.toList == s.toList) = false := by
                rw [Lib.toList_data, Lib.toList_data]; exact beq_eq_false_iff_ne.2 heq
              have HNE := Lib.hid heq
              have HO3 := Lib.hid ho3
              clear heq ho3
              go_wp2_with fail
              refine (of01_any 0 _).mono ?_
              rintro e w4 ⟨rfl, ho4⟩
              have ho3 := HO3.out.trans ho4
              clear ho4
              have hp3 := (HPB.out n d).only ho3 (fun e => e)
              have p0 := hp3.cell 0
              have p1 := hp3.cell 1
              have fp0 := hp3.frozen 0
              have fp1 := hp3.frozen 1
              have hb9 := (hp3.set_ 0 (.int .i64 0)).set_ 1 (.int .i64 1)
              have d0 := hb9.cell 0
              have d1 := hb9.cell 1
              simp only [List.setIfInBounds_toArray, List.set_cons_zero, List.set_cons_succ, List.getElem?_toArray, List.getElem?_cons_zero, List.getElem?_cons_succ] at d0 d1
              have HO9 := Lib.hid ((((HON.out n d).trans ho3).setCell (p := ⟨P, 0, none⟩) (.inr hlo) (.int .i64 0)).setCell (p := ⟨P, 1, none⟩) (.inr hlo) (.int .i64 1))
              have HD0 := Lib.hid d0
              have HD1 := Lib.hid d1
              clear hp3 hb9 ho3 d0 d1
              go_wp2_with fail
              have d0 := HD0.out
              have d1 := HD1.out
              exact bodyPost_ret (v := .tuple #[.agg #[.int .i64 0, .int .i64 1], .bool false]) (by simp [results, Tryz.results71, go_sem, d0, d1]) rfl ⟨0, 1, false, rfl, in_zero, in_one, (fun m hm e => (HNO.out m hm e).elim), HO9.out⟩
      · have hne : ((c.toNat : Int) == 47) = false := by
          rw [beq_eq_false_iff_ne]; exact fun h => h47 (UInt8.toNat_inj.1 (by show c.toNat = 47; omega))
        have hne2 : ¬ (c.toNat : Int) = 47 := fun h => h47 (UInt8.toNat_inj.1 (by show c.toNat = 47; omega))
        clear hg h47
        go_wp2_with fail
        go_roundw
        case rel => exact ⟨k + 1, rfl, by go_num, by omega, HS.out⟩
        case measure => simp [intOf]; omega
    · obtain rfl : k = s.size := by omega
      have k1 : ¬ (s.size : Int) < (s.size : Int) := by omega
      go_wp2_with fail
      refine (num01_any s hs wr).mono ?_
      rintro e w2 ⟨hE, ho2⟩
      obtain ⟨n, b, rfl, ht, hf⟩ := hE.cases
      have HT := Lib.hid ht
      have HF := Lib.hid hf
      have hS2 := HS.out.next ho2
      have HS2 := Lib.hid hS2
      obtain ⟨V, rfl⟩ : ∃ x, x = w2 := ⟨_, rfl⟩
      clear hS2 ho2
      clear ht hf hE
      have q0 := HS2.out.a.cell 0
      have q1 := HS2.out.a.cell 1
      have g0 := HS2.out.a.frozen 0
      have g1 := HS2.out.a.frozen 1
      have hne : P ≠ Q := by have := HS2.out.lo.2; omega
      have HQ : Hid (∀ u v : Int, Blk ((V.setCell ⟨Q, 0, none⟩ (.int .i64 u)).setCell ⟨Q, 1, none⟩ (.int .i64 v)) Q tRat #[.int .i64 u, .int .i64 v]) := Lib.hid (fun u v => (HS2.out.a.set_ 0 (.int .i64 u)).set_ 1 (.int .i64 v))
      have HPB : Hid (∀ u v : Int, Blk ((V.setCell ⟨Q, 0, none⟩ (.int .i64 u)).setCell ⟨Q, 1, none⟩ (.int .i64 v)) P tRat #[.int .i64 0, .int .i64 0]) := Lib.hid (fun u v => (HS2.out.res.far (p := ⟨Q, 0, none⟩) hne _).far (p := ⟨Q, 1, none⟩) hne _)
      have HON : Hid (∀ u v : Int, Only NoneOf w ((V.setCell ⟨Q, 0, none⟩ (.int .i64 u)).setCell ⟨Q, 1, none⟩ (.int .i64 v))) := Lib.hid (fun u v => (HS2.out.only.setCell (p := ⟨Q, 0, none⟩) (.inr (by have := HS2.out.lo; show w.heap.size ≤ Q; omega)) _).setCell (p := ⟨Q, 1, none⟩) (.inr (by have := HS2.out.lo; show w.heap.size ≤ Q; omega)) _)
      have hlo := HS2.out.lo.1
      clear hne
      cases b with
      | false =>
        have HFO := Lib.hid (HF.out rfl)
        go_wp2_with fail
        refine (of01_any 0 _).mono ?_
        rintro e w3 ⟨rfl, ho3⟩
        have hp3 := (HPB.out n 1).only ho3 (fun e => e)
        have p0 := hp3.cell 0
        have p1 := hp3.cell 1
        have fp0 := hp3.frozen 0
        have fp1 := hp3.frozen 1
        have hb9 := (hp3.set_ 0 (.int .i64 0)).set_ 1 (.int .i64 1)
        have d0 := hb9.cell 0
        have d1 := hb9.cell 1
        simp only [List.setIfInBounds_toArray, List.set_cons_zero, List.set_cons_succ, List.getElem?_toArray, List.getElem?_cons_zero, List.getElem?_cons_succ] at d0 d1
        have HO9 := Lib.hid ((((HON.out n 1).trans ho3).setCell (p := ⟨P, 0, none⟩) (.inr hlo) (.int .i64 0)).setCell (p := ⟨P, 1, none⟩) (.inr hlo) (.int .i64 1))
        have HD0 := Lib.hid d0
        have HD1 := Lib.hid d1
        clear hp3 hb9 ho3 d0 d1
        go_wp2_with fail
        have d0 := HD0.out
        have d1 := HD1.out
        exact bodyPost_ret (v := .tuple #[.agg #[.int .i64 0, .int .i64 1], .bool false]) (by simp [results, Tryz.results71, go_sem, d0, d1]) rfl ⟨0, 1, false, rfl, in_zero, in_one, (fun m hm e => (HFO.out m hm e).elim), HO9.out⟩
      | true =>
        have HIN := Lib.hid (HT.out rfl)
        go_wp2_with fail
        refine (text_one n HIN.out.1.1 HIN.out.1.2 _).mono ?_
        rintro e w3 ⟨t, rfl, htl, ho3⟩
        have HTL := Lib.hid (htl.trans HIN.out.2.symm)
        clear htl
        by_cases heq : t.data.toList = s.data.toList
        · have hq : (t.toList == s.toList) = true := by
            rw [Lib.toList_data, Lib.toList_data]; exact beq_iff_eq.2 heq
          have hq3 := (HQ.out n 1).only ho3 (fun e => e)
          have a0 := hq3.cell 0
          have a1 := hq3.cell 1
          clear heq hq3
          have hp3 := (HPB.out n 1).only ho3 (fun e => e)
          have p0 := hp3.cell 0
          have p1 := hp3.cell 1
          have fp0 := hp3.frozen 0
          have fp1 := hp3.frozen 1
          have hb9 := (hp3.set_ 0 (.int .i64 n)).set_ 1 (.int .i64 1)
          have d0 := hb9.cell 0
          have d1 := hb9.cell 1
          simp only [List.setIfInBounds_toArray, List.set_cons_zero, List.set_cons_succ, List.getElem?_toArray, List.getElem?_cons_zero, List.getElem?_cons_succ] at d0 d1
          have HO9 := Lib.hid ((((HON.out n 1).trans ho3).setCell (p := ⟨P, 0, none⟩) (.inr hlo) (.int .i64 n)).setCell (p := ⟨P, 1, none⟩) (.inr hlo) (.int .i64 1))
          have HD0 := Lib.hid d0
          have HD1 := Lib.hid d1
          clear hp3 hb9 ho3 d0 d1
          go_wp2_with fail
          have d0 := HD0.out
          have d1 := HD1.out
          exact bodyPost_ret (v := .tuple #[.agg #[.int .i64 n, .int .i64 1], .bool true]) (by simp [results, Tryz.results71, go_sem, d0, d1]) rfl ⟨n, 1, true, rfl, HIN.out.1, in_one, (fun m hm e => ⟨itoa_inj HIN.out.1 hm (HIN.out.2.symm.trans e), rfl, rfl⟩), HO9.out⟩
        · have hq : (t.toList == s.toList) = false := by
            rw [Lib.toList_data, Lib.toList_data]; exact beq_eq_false_iff_ne.2 heq
          have HNE := Lib.hid heq
          have HO3 := Lib.hid ho3
          clear heq ho3
          go_wp2_with fail
          refine (of01_any 0 _).mono ?_
          rintro e w4 ⟨rfl, ho4⟩
          have ho3 := HO3.out.trans ho4
          clear ho4
          have hp3 := (HPB.out n 1).only ho3 (fun e => e)
          have p0 := hp3.cell 0
          have p1 := hp3.cell 1
          have fp0 := hp3.frozen 0
          have fp1 := hp3.frozen 1
          have hb9 := (hp3.set_ 0 (.int .i64 0)).set_ 1 (.int .i64 1)
          have d0 := hb9.cell 0
          have d1 := hb9.cell 1
          simp only [List.setIfInBounds_toArray, List.set_cons_zero, List.set_cons_succ, List.getElem?_toArray, List.getElem?_cons_zero, List.getElem?_cons_succ] at d0 d1
          have HO9 := Lib.hid ((((HON.out n 1).trans ho3).setCell (p := ⟨P, 0, none⟩) (.inr hlo) (.int .i64 0)).setCell (p := ⟨P, 1, none⟩) (.inr hlo) (.int .i64 1))
          have HD0 := Lib.hid d0
          have HD1 := Lib.hid d1
          clear hp3 hb9 ho3 d0 d1
          go_wp2_with fail
          have d0 := HD0.out
          have d1 := HD1.out
          exact bodyPost_ret (v := .tuple #[.agg #[.int .i64 0, .int .i64 1], .bool false]) (by simp [results, Tryz.results71, go_sem, d0, d1]) rfl ⟨0, 1, false, rfl, in_zero, in_one, (fun m hm e => (HNE.out HTL.out).elim), HO9.out⟩
end Go.Proofs.YtclpebgjmgfigaaGreatDoor
