/- What is proved here: price texts, by the reference's code. Conditions: the text is short, the numbers are ints. -/
import Derived.Test.YtpdlbmieciabmaaDoorBsW
import Derived.Test.YtpdlbmieciabmaaDoorBrV
import Derived.Test.YtpdlbmieciabmaaDoorBsE
namespace Go.Proofs.YtpdlbmieciabmaaDoor
open Go.RowKit Go.Shelf
theorem price_text (p : List UInt8) (n m : Int) : p ++ [108, 111, 116, 32] ++ Lib.itoa n ++ [32] ++ Lib.itoa m ++ [10] = p ++ lineOf (wLot, [n, m]) := by
  unfold lineOf lineL wordsN wLot
  simp
theorem rebate_text (p : List UInt8) (r : Rb) : p ++ [114, 101, 98, 97, 116, 101, 32] ++ Lib.itoa r.pc ++ wordsN r.lots ++ [10] = p ++ lineOf (rLine r) := by
  unfold rLine lineOf lineL wRebate
  rw [wordsN_cons]
  simp
theorem words_step {ns : List Int} {j : Nat} {n : Int} (h : ns[j]? = some n) : wordsN (ns.take (j + 1)) = wordsN (ns.take j) ++ [32] ++ Lib.itoa n := by
  rw [take_snoc h, wordsN_app]
  simp [wordsN]
theorem words_take_le (ns : List Int) (j : Nat) : (wordsN (ns.take j)).length ≤ (wordsN ns).length := by
  have e : (wordsN ns).length = (wordsN (ns.take j)).length + (wordsN (ns.drop j)).length := by rw [← List.length_append, ← wordsN_app, List.take_append_drop]
  omega
set_option maxRecDepth 100000 in
set_option maxHeartbeats 4000000 in
theorem rprices16_any (es : List En) (rs : List Rb) (hin : ∀ e ∈ es, EnIn e) (hrn : ∀ r ∈ rs, RbIn r) (hl : (pricL es rs).length ≤ 100000000) (v u : Value) (w : World) (h : EnSl w v es) (hrb : RbSl w u rs) : Calls Tryd.prog 15 #[v, u] w (RetStr (pricL es rs) w) := by
  obtain ⟨A, cap, rfl, hc1, hc2, hat⟩ := en_at h
  obtain ⟨A1, cap1, rfl, hb1, hb2, hrat⟩ := rb_at hrb
  have HAT := Lib.hid hat
  have HRT := Lib.hid hrat
  have HIN := Lib.hid hin
  have HRN := Lib.hid hrn
  have q1 : (⟨#[108, 111, 116, 32]⟩ : ByteArray).size = 4 := rfl
  have q2 : (⟨#[32]⟩ : ByteArray).size = 1 := rfl
  have q3 : (⟨#[10]⟩ : ByteArray).size = 1 := rfl
  have q4 : (⟨#[114, 101, 98, 97, 116, 101, 32]⟩ : ByteArray).size = 7 := rfl
  have hel := textG_ge (pLines es rs)
  have hel2 : (pLines es rs).length = es.length + rs.length := by unfold pLines; simp
  have hlen : es.length + rs.length ≤ 100000000 := by
    have h3 : (pricL es rs).length = (textG (pLines es rs)).length := rfl
    omega
  clear hat hrat h hrb hin hrn hel hel2
  go_enter Tryd.func15, Tryd.ntmps15
  go_wp2_with fail
  go_loopw [5, 6] (fun v i wr => ∃ (k : Nat) (s : ByteArray), v = .string s ∧ i = .int .i64 k ∧ k ≤ es.length ∧ s.data.toList = textG ((es.take k).map pLine) ∧ Only NoneOf w wr) (fun _ i _ => es.length - (intOf i).toNat)
  case atStart => exact ⟨0, ⟨#[]⟩, rfl, rfl, Nat.zero_le _, rfl, Only.refl _ _⟩
  case round =>
    obtain ⟨k, s, rfl, rfl, hk, hs, ho⟩ := hrel
    have HS := Lib.hid hs
    have HO := Lib.hid ho
    clear hs ho
    by_cases hlt : k < es.length
    · obtain ⟨x, hx⟩ : ∃ x, es[k]? = some x := ⟨_, List.getElem?_eq_getElem hlt⟩
      obtain ⟨g, o, u, rfl, hg, c0, c1, c2, c3, c4, hvs⟩ := HAT.out k x hx
      have HXI := Lib.hid (HIN.out x (List.mem_of_getElem? hx))
      have HX := Lib.hid (p_text_snoc hx)
      have hsz : s.size ≤ 100000000 := by
        rw [size_list, HS.out]
        exact Nat.le_trans (pl_take_le es rs k) hl
      have ik : (k : Int) < es.length := by omega
      have k0 : (0 : Int) ≤ (k : Int) := by omega
      have wk : IntKind.i64.wrap ((k : Int) + 1) = (k : Int) + 1 := IntWalk.i64_in _ (by omega)
      obtain ⟨ta, eta⟩ : ∃ t : ByteArray, t = ⟨(Lib.itoa x.lot).toArray⟩ := ⟨_, rfl⟩
      obtain ⟨tb, etb⟩ : ∃ t : ByteArray, t = ⟨(Lib.itoa x.price).toArray⟩ := ⟨_, rfl⟩
      have hta : ta.size ≤ 21 := by rw [size_list, eta]; exact itoa_len HXI.out.1.1 HXI.out.1.2
      have htb : tb.size ≤ 21 := by rw [size_list, etb]; exact itoa_len HXI.out.2.1.1 HXI.out.2.1.2
      have s1 : s.size + 4 ≤ 9223372036854775807 := by omega
      have s2 : s.size + 4 + ta.size ≤ 9223372036854775807 := by omega
      have s3 : s.size + 4 + ta.size + 1 ≤ 9223372036854775807 := by omega
      have s4 : s.size + 4 + ta.size + 1 + tb.size ≤ 9223372036854775807 := by omega
      have s5 : s.size + 4 + ta.size + 1 + tb.size + 1 ≤ 9223372036854775807 := by omega
      obtain ⟨s6, e6⟩ : ∃ s6 : ByteArray, s6 = s ++ ⟨#[108, 111, 116, 32]⟩ ++ ta ++ ⟨#[32]⟩ ++ tb ++ ⟨#[10]⟩ := ⟨_, rfl⟩
      have hs6 : s6.data.toList = textG ((es.take (k + 1)).map pLine) := by
        rw [HX.out]
        show _ = _ ++ lineOf (wLot, [x.lot, x.price])
        rw [e6, ← price_text, ← HS.out, eta, etb]
        simp
      have HS6 := Lib.hid hs6
      have HE6 := Lib.hid e6
      clear hx hvs c0 c2 c4 hs6 e6
      go_upto_region 5 with (fail)
      obtain ⟨ft, hfx⟩ := family (fun W => Only NoneOf w W) (W0 := wr.drew) HO.out.drew
      obtain ⟨F, hI, hF0, hF, hFS⟩ := hfx
      have D1 : Hid (∀ q, Calls Tryd.prog 26 #[.int .i64 x.lot] (F q) fun e w' => e = .returned (.string ta) ∧ ∃ z, w' = F z) := Lib.hid (fun q => (rdec16_any x.lot HXI.out.1 (F q)).mono (fun e w' hh => by
        obtain ⟨t, rfl, ht, ho⟩ := hh
        exact ⟨by rw [eta, bytes_of ht], (hF w').1 ((hFS q).trans ho)⟩))
      have D2 : Hid (∀ q, Calls Tryd.prog 26 #[.int .i64 x.price] (F q) fun e w' => e = .returned (.string tb) ∧ ∃ z, w' = F z) := Lib.hid (fun q => (rdec16_any x.price HXI.out.2.1 (F q)).mono (fun e w' hh => by
        obtain ⟨t, rfl, ht, ho⟩ := hh
        exact ⟨by rw [etb, bytes_of ht], (hF w').1 ((hFS q).trans ho)⟩))
      have L1 : ∀ q, (F q).cell? ⟨g, o + k * 5 + 1, none⟩ = some (.int .i64 x.lot) := fun q => (hFS q).cell_some c1 (fun e => e)
      have L3 : ∀ q, (F q).cell? ⟨g, o + k * 5 + 3, none⟩ = some (.int .i64 x.price) := fun q => (hFS q).cell_some c3 (fun e => e)
      have HF := Lib.hid hF
      have HF0 := Lib.hid hF0
      clear hF hF0 hFS eta etb c1 c3
      refine wp_region_family F (by kernel_rfl) (by kernel_rfl) HF0.out ?_
      repeat (go_big_quiet_step (first | (with_reducible exact D1.out _) | (with_reducible exact D2.out _)))
      refine wpQuiet_nil ?_
      intro w9 hw9
      have HO9 := Lib.hid ((HF.out w9).2 hw9)
      clear hw9
      go_wp2_with fail
      go_roundw
      case rel => exact ⟨k + 1, s6, by rw [HE6.out], by go_num, by omega, HS6.out, HO9.out⟩
      case measure => simp [intOf]; omega
    · obtain rfl : k = es.length := by omega
      have ik : ¬ (es.length : Int) < es.length := by omega
      have hall := HS.out
      rw [List.take_of_length_le (Nat.le_refl _)] at hall
      have HG := Lib.hid hall
      clear hall
      go_wp2_with fail
      go_loopw [5, 7] (fun v i wr => ∃ (k : Nat) (s : ByteArray), v = .string s ∧ i = .int .i64 k ∧ k ≤ rs.length ∧ s.data.toList = textG (es.map pLine) ++ textG ((rs.take k).map rLine) ∧ Only NoneOf w wr) (fun _ i _ => rs.length - (intOf i).toNat)
      case atStart => exact ⟨0, s, rfl, rfl, Nat.zero_le _, by rw [HG.out]; simp [textG], HO.out⟩
      case round =>
        obtain ⟨k, s, rfl, rfl, hk, hs, ho⟩ := hrel
        have HS := Lib.hid hs
        have HO := Lib.hid ho
        clear hs ho
        by_cases hlt : k < rs.length
        · obtain ⟨x, hx⟩ : ∃ x, rs[k]? = some x := ⟨_, List.getElem?_eq_getElem hlt⟩
          obtain ⟨g, o, u, rfl, hg, c0, c1, hvs⟩ := HRT.out k x hx
          obtain ⟨A2, cap2, rfl, hiat⟩ := in_at hvs
          have hxm := List.mem_of_getElem? hx
          have HXI := Lib.hid (HRN.out x hxm)
          have hll := lots_le (es := es) hxm
          have HX := Lib.hid (r_text_snoc hx)
          have HIAT := Lib.hid hiat
          have HC0 := Lib.hid c0
          have hsz : s.size ≤ 100000000 := by
            rw [size_list, HS.out]
            exact Nat.le_trans (rl_take_le es rs k) hl
          have d1 := HO.out.cell_some c1 (fun e => e)
          have ik : (k : Int) < rs.length := by omega
          have k0 : (0 : Int) ≤ (k : Int) := by omega
          have wk : IntKind.i64.wrap ((k : Int) + 1) = (k : Int) + 1 := IntWalk.i64_in _ (by omega)
          have s1 : s.size + 7 ≤ 9223372036854775807 := by omega
          have hwl := wordsN_len x.lots HXI.out.2
          clear hx hvs c0 c1 hiat hxm
          go_wp2_with fail
          refine (rdec16_any x.pc HXI.out.1 _).mono ?_
          rintro e w2 ⟨t, rfl, ht, ho2⟩
          have htz : t.size ≤ 21 := by rw [size_list, ht]; exact itoa_len HXI.out.1.1 HXI.out.1.2
          have HO2 := Lib.hid (HO.out.trans ho2)
          have s2 : s.size + 7 + t.size ≤ 9223372036854775807 := by omega
          obtain ⟨s4, e4⟩ : ∃ s4 : ByteArray, s4 = s ++ ⟨#[114, 101, 98, 97, 116, 101, 32]⟩ ++ t := ⟨_, rfl⟩
          have hs4 : s4.data.toList = s.data.toList ++ [114, 101, 98, 97, 116, 101, 32] ++ Lib.itoa x.pc := by
            rw [e4, ← ht]
            simp
          have hz4 : s4.size = s.size + 7 + t.size := by rw [e4]; simp [q4]
          have HS4 := Lib.hid hs4
          have HE4 := Lib.hid e4
          clear ht ho2 hs4 e4
          go_wp2_with fail
          rw [← HE4.out]
          go_loopw [5, 8] (fun v i wr => ∃ (j : Nat) (r : ByteArray), v = .string r ∧ i = .int .i64 j ∧ j ≤ x.lots.length ∧ r.data.toList = s4.data.toList ++ wordsN (x.lots.take j) ∧ Only NoneOf w wr) (fun _ i _ => x.lots.length - (intOf i).toNat)
          case atStart => exact ⟨0, s4, rfl, rfl, Nat.zero_le _, by simp [wordsN], HO2.out⟩
          case round =>
            obtain ⟨j, r, rfl, rfl, hj, hs, ho⟩ := hrel
            have HS5 := Lib.hid hs
            have HO5 := Lib.hid ho
            have d0 := ho.cell_some HC0.out (fun e => e)
            have hrz : r.size ≤ 3000000000 := by
              have h1 := words_take_le x.lots j
              rw [size_list, hs, List.length_append, ← size_list]
              omega
            have r1 : r.size + 1 ≤ 9223372036854775807 := by omega
            clear hs ho d1
            by_cases hlj : j < x.lots.length
            · obtain ⟨y, hy⟩ : ∃ y, x.lots[j]? = some y := ⟨_, List.getElem?_eq_getElem hlj⟩
              obtain ⟨g2, o2, rfl, hg2, e0⟩ := HIAT.out j y hy
              have HYI := Lib.hid (HXI.out.2 y (List.mem_of_getElem? hy))
              have f0 := HO5.out.cell_some e0 (fun e => e)
              have HWT := Lib.hid (words_step hy)
              have ij : (j : Int) < x.lots.length := by omega
              have j0 : (0 : Int) ≤ (j : Int) := by omega
              have wj : IntKind.i64.wrap ((j : Int) + 1) = (j : Int) + 1 := IntWalk.i64_in _ (by omega)
              clear hy e0
              go_wp2_with fail
              refine (rdec16_any y HYI.out _).mono ?_
              rintro e w6 ⟨t6, rfl, ht6, ho6⟩
              have htz6 : t6.size ≤ 21 := by rw [size_list, ht6]; exact itoa_len HYI.out.1 HYI.out.2
              have r2 : r.size + 1 + t6.size ≤ 9223372036854775807 := by omega
              have hnew : (r ++ ⟨#[32]⟩ ++ t6).data.toList = s4.data.toList ++ wordsN (x.lots.take (j + 1)) := by
                rw [HWT.out, ← ht6, ← List.append_assoc, ← List.append_assoc, ← HS5.out]
                simp
              have HNW := Lib.hid hnew
              have HO6 := Lib.hid (HO5.out.trans ho6)
              clear hnew ht6 ho6
              go_wp2_with fail
              go_roundw
              case rel => exact ⟨j + 1, _, rfl, by go_num, by omega, HNW.out, HO6.out⟩
              case measure => simp [intOf]; omega
            · obtain rfl : j = x.lots.length := by omega
              have ij : ¬ (x.lots.length : Int) < x.lots.length := by omega
              have hnew : (r ++ ⟨#[10]⟩).data.toList = textG (es.map pLine) ++ textG ((rs.take (k + 1)).map rLine) := by
                have h1 := HS5.out
                rw [List.take_of_length_le (Nat.le_refl _)] at h1
                rw [HX.out, ← List.append_assoc, ← rebate_text, ← HS.out]
                have h2 := HS4.out
                rw [h2] at h1
                rw [ByteArray.data_append, Array.toList_append, h1]
              have HNW := Lib.hid hnew
              clear hnew
              go_wp2_with fail
              go_roundw
              case rel => exact ⟨k + 1, _, rfl, by go_num, by omega, HNW.out, HO5.out⟩
              case measure => simp [intOf]; omega
        · obtain rfl : k = rs.length := by omega
          have ik : ¬ (rs.length : Int) < rs.length := by omega
          have hall := HS.out
          rw [List.take_of_length_le (Nat.le_refl _), ← pric_split] at hall
          have HG := Lib.hid hall
          clear hall
          go_wp2_with fail
          go_ret
          exact RetStr.mk HG.out HO.out
end Go.Proofs.YtpdlbmieciabmaaDoor
