/- What is proved here: the reference seals and opens a text as the program does; the laws of boxes and of opening return true. Conditions: the table of powers of ten reads as its initialiser lays it; the texts are short. -/
import Derived.Test.YtdgapomeenigbaaDoorRefI
import Derived.Test.YtdgapomeenigbaaDoorKeys
namespace Go.Proofs.YtdgapomeenigbaaDoor
open Go.RowKit Go.Shelf
set_option maxRecDepth 100000 in
theorem rseal_any (key : Int) (h0 : -9223372036854775808 ≤ key) (h1 : key ≤ 9223372036854775807) (s : ByteArray) (hs : s.size ≤ 8796093022208) (w : World) :
    Calls Tryd.prog 13 #[.int .i64 key, .string s] w (RetStr (sealS key s.data.toList) w) := by
  have H0 := Lib.hid h0
  have H1 := Lib.hid h1
  clear h0 h1
  go_enter Tryd.func13, Tryd.ntmps13
  go_wp2_with fail
  refine (rcheck_any key H0.out H1.out s (by omega) w).mono ?_
  rintro e w1 ⟨t1, rfl, ht1, ho1⟩
  have hz1 : t1.size ≤ 17592186044416 := by
    have := itoa_len H0.out H1.out
    rw [size_list, ht1]
    simp only [checkS, List.length_append, List.length_cons, List.length_nil]
    rw [← size_list]; omega
  have HT1 := Lib.hid ht1
  have HO1 := Lib.hid ho1
  have HZ1 := Lib.hid hz1
  clear ht1 ho1 hz1
  go_wp2_with fail
  refine (rsum_any _ _ (Nat.le_trans HZ1.out (by omega))).mono ?_
  rintro e w2 ⟨rfl, ho2⟩
  rw [HT1.out]
  obtain ⟨h, eh⟩ : ∃ h, h = shaL (checkS key s.data.toList) := ⟨_, rfl⟩
  rw [← eh]
  have hl : h.length = 32 := by rw [eh]; exact shaL_len _
  have EH := Lib.hid eh
  have hi41 : (Tryd.prog.info? 41).map (·.size) = some (h.map bv).toArray.size := by rw [List.size_toArray, List.length_map, hl]; kernel_rfl
  have hone : (h.map bv).toArray.all (·.oneCell') = true := all_oneCell_toArray (bvs_one _)
  have hthr : (w2.alloc (.cells (Array.replicate 32 (.int .u8 0)) 41)).there w2.heap.size 0 (h.map bv).toArray.size := (Blk.new w2 _ _).there 0 _ (by rw [List.size_toArray, List.length_map, hl]; simp)
  obtain ⟨X, eX⟩ : ∃ X, X = (w2.alloc (.cells (Array.replicate 32 (.int .u8 0)) 41)).setCells w2.heap.size 0 (h.map bv).toArray.toList := ⟨_, rfl⟩
  have hX : Only NoneOf w X := by rw [eX]; exact only_setCells (HO1.out.trans (ho2.alloc _)) _ _ (.inr (Nat.le_trans HO1.out.size ho2.size)) _
  have hby : BytesAt X w2.heap.size 0 h := by rw [eX]; exact blk_bytes (by simpa using (Blk.new w2 41 (Array.replicate 32 (.int .u8 0))).filled (h.map bv).toArray.toList (by simp [hl]))
  have HI41 := Lib.hid hi41
  have HONE := Lib.hid hone
  have HTH := Lib.hid hthr
  have HL := Lib.hid hl
  have HX := Lib.hid hX
  have HBY := Lib.hid hby
  have HEX := Lib.hid eX
  clear eh hl hi41 hone hthr hX hby ho2 eX
  have tok1 : True := trivial
  go_wp2_with (have _t := tok1; refine wpList_store_mid rfl 41 (.tmp 5) (.tmp 9) rfl w2.heap.size 0 (h.map bv).toArray rfl rfl HTH.out HI41.out HONE.out ?_; clear tok1 _t)
  refine wp_world HEX.out ?_
  clear HEX
  have hr0 := run_back (W := X.drew) (cap := 32) HBY.out HL.out
  go_region_law (first
    | (go_simp; go_at_call 24; (with_reducible refine (combined_any key H0.out H1.out s (by omega) _).mono ?_); rintro e w9 ⟨t, rfl, htl, ho9⟩; have hr9 := run_back (W := w9) (cap := 32) (BytesAt.only (S := NoneOf) (w := X.drew) HBY.out ho9 (fun h => h)) HL.out; have hz9 : ¬ 9223372036854775807 < h.length + t.size := sum_fits (by omega) HL.out htl; have HTL := Lib.hid htl; have HO9 := Lib.hid ho9; clear htl ho9))
  all_goals
    go_wp2_with fail
    go_ret
    refine ⟨_, rfl, ?_, HX.out.drew.trans HO9.out⟩
    rw [append_list, HTL.out, sealS, EH.out]
theorem openS_alt {key : Int} {l : List UInt8} (h : 32 ≤ l.length) : openS key l = if sealS key (combL key (l.drop 32)) = l then (combL key (l.drop 32), true) else ([], false) := by
  unfold openS
  rw [if_neg (by omega)]
  have e : sealS key (combL key (l.drop 32)) = l ↔ shaL (checkS key (combL key (l.drop 32))) = l.take 32 := by
    rw [sealS, combL_back]
    conv => lhs; rhs; rw [← List.take_append_drop 32 l]
    exact List.append_left_inj _
  by_cases hc : shaL (checkS key (combL key (l.drop 32))) = l.take 32
  · rw [if_pos hc, if_pos (e.2 hc)]
  · rw [if_neg hc, if_neg (fun x => hc (e.1 x))]
theorem ropen_any (key : Int) (h0 : -9223372036854775808 ≤ key) (h1 : key ≤ 9223372036854775807) (s : ByteArray) (hs : s.size ≤ 8796093022208) (w : World) :
    Calls Tryd.prog 15 #[.int .i64 key, .string s] w (RetOpen (openS key s.data.toList) w) := by
  have H0 := Lib.hid h0
  have H1 := Lib.hid h1
  clear h0 h1
  by_cases hlt : s.size < 32
  · have e := openS_short (key := key) (l := s.data.toList) (by rw [← size_list]; omega)
    rw [e]
    clear e
    have hlt2 : (s.size : Int) < 32 := by omega
    go_enter Tryd.func15, Tryd.ntmps15
    go_wp2_with fail
    go_ret2
    exact ⟨⟨#[]⟩, rfl, rfl, Only.refl _ _⟩
  · have hge : 32 ≤ s.data.toList.length := by rw [← size_list]; omega
    have hlt2 : ¬ (s.size : Int) < 32 := by omega
    have hx : (s.extract 32 s.size).data.toList = s.data.toList.drop 32 := extract_from s 32
    have hxs : (s.extract 32 s.size).size ≤ 8796093022208 := by rw [size_list, hx, List.length_drop, ← size_list]; omega
    have hsz : 32 ≤ s.size := by omega
    have HX := Lib.hid hx
    have HXS := Lib.hid hxs
    have HGE := Lib.hid hge
    clear hx hxs hge hlt
    go_enter Tryd.func15, Tryd.ntmps15
    go_wp2_with fail
    refine (combined_any key H0.out H1.out _ (Nat.le_trans HXS.out (by omega)) _).mono ?_
    rintro e w1 ⟨t, rfl, htl, ho1⟩
    rw [HX.out] at htl
    have hts : t.size ≤ 8796093022208 := by rw [size_list, htl, combL_len, ← HX.out, ← size_list]; exact HXS.out
    have HTL := Lib.hid htl
    have HTS := Lib.hid hts
    have HO1 := Lib.hid ho1
    clear htl hts ho1
    go_wp2_with fail
    refine (rseal_any key H0.out H1.out t HTS.out _).mono ?_
    rintro e w2 ⟨u, rfl, hul, ho2⟩
    rw [HTL.out] at hul
    have HUL := Lib.hid hul
    have HO2 := Lib.hid (HO1.out.trans ho2)
    clear hul ho2
    by_cases hc : sealS key (combL key (s.data.toList.drop 32)) = s.data.toList
    · have hu : u = s := by rw [bytes_eq (HUL.out.trans hc)]
      subst hu
      go_wp2_with fail
      go_ret2
      rw [openS_alt HGE.out, if_pos hc]
      exact ⟨t, rfl, HTL.out, HO2.out⟩
    · have hq : (u.toList == s.toList) = false := by
        rw [Lib.toList_data, Lib.toList_data, HUL.out]; exact beq_eq_false_iff_ne.2 hc
      have HC := Lib.hid hc
      clear hc
      go_wp2_with fail
      go_ret2
      rw [openS_alt HGE.out, if_neg HC.out]
      exact ⟨⟨#[]⟩, rfl, rfl, HO2.out⟩
end Go.Proofs.YtdgapomeenigbaaDoor
