/- What is proved here: the laws of boxes and of opening return true. Conditions: the table of powers of ten reads as its initialiser lays it; the texts are short. -/
import Derived.Test.YtdgapomeenigbaaDoorRefK
namespace Go.Proofs.YtdgapomeenigbaaDoor
open Go.RowKit Go.Shelf
theorem sbytes_any (key : Int) (h0 : -9223372036854775808 ≤ key) (h1 : key ≤ 9223372036854775807) (s : ByteArray) (hs : s.size ≤ 1048576) (w : World) (ht : Tab w) :
    Calls Tryd.prog 3 #[.int .i64 key, .string s] w fun e w' => e = .returned (.bool true) ∧ Only NoneOf w w' := by
  have HT := Lib.hid ht
  have H0 := Lib.hid h0
  have H1 := Lib.hid h1
  clear ht h0 h1
  go_enter Tryd.func3, Tryd.ntmps3
  go_wp2_with fail
  refine (sanity_any w HT.out).mono ?_
  rintro e w1 ⟨rfl, ho1⟩
  have HO1 := Lib.hid ho1
  clear ho1
  go_wp2_with fail
  refine (seal_any key H0.out H1.out s (by omega) w1 (HT.out.none HO1.out)).mono ?_
  rintro e w2 ⟨t, rfl, htl, ho2⟩
  have HTL := Lib.hid htl
  have HO2 := Lib.hid (HO1.out.trans ho2)
  clear htl ho2
  go_wp2_with fail
  refine (rseal_any key H0.out H1.out s (by omega) w2).mono ?_
  rintro e w3 ⟨u, rfl, hul, ho3⟩
  have hu : t = u := by rw [bytes_eq hul, bytes_eq HTL.out]
  subst hu
  have HO3 := Lib.hid (HO2.out.trans ho3)
  clear hul ho3
  go_wp2_with fail
  go_ret
  exact ⟨rfl, HO3.out⟩
set_option maxHeartbeats 400000 in
theorem sopens_any (key : Int) (h0 : -9223372036854775808 ≤ key) (h1 : key ≤ 9223372036854775807) (s b : ByteArray) (hs : s.size ≤ 1048576) (hb : b.size ≤ 1048576) (w : World) (ht : Tab w) :
    Calls Tryd.prog 4 #[.int .i64 key, .string s, .string b] w fun e w' => e = .returned (.bool true) ∧ Only NoneOf w w' := by
  have HT := Lib.hid ht
  have H0 := Lib.hid h0
  have H1 := Lib.hid h1
  clear ht h0 h1
  go_enter Tryd.func4, Tryd.ntmps4
  go_wp2_with fail
  refine (sanity_any w HT.out).mono ?_
  rintro e w1 ⟨rfl, ho1⟩
  have HO1 := Lib.hid ho1
  clear ho1
  go_wp2_with fail
  refine (seal_any key H0.out H1.out s (by omega) w1 (HT.out.none HO1.out)).mono ?_
  rintro e w2 ⟨t, rfl, htl, ho2⟩
  have hts : t.size ≤ 2097152 := by rw [size_list, htl, sealS_len, ← size_list]; omega
  have HTL := Lib.hid htl
  have HTS := Lib.hid hts
  have HO2 := Lib.hid (HO1.out.trans ho2)
  clear htl hts ho2
  go_wp2_with fail
  refine (open_any key H0.out H1.out t (Nat.le_trans HTS.out (by omega)) w2 (HT.out.none HO2.out)).mono ?_
  rintro e w3 ⟨u, rfl, hul, ho3⟩
  rw [HTL.out, open_seal] at hul ⊢
  have hu : u = s := by rw [bytes_eq hul]
  subst hu
  have HO3 := Lib.hid (HO2.out.trans ho3)
  clear hul ho3
  go_wp2_with fail
  refine (open_any key H0.out H1.out b (by omega) w3 (HT.out.none HO3.out)).mono ?_
  rintro e w4 ⟨x, rfl, hxl, ho4⟩
  have HXL := Lib.hid hxl
  have HO4 := Lib.hid (HO3.out.trans ho4)
  clear hxl ho4
  obtain ⟨v, ev⟩ : ∃ v, v = (openS key b.data.toList).2 := ⟨_, rfl⟩
  have EV := Lib.hid ev
  rw [← ev]
  clear ev
  go_wp2_with fail
  refine (ropen_any key H0.out H1.out b (by omega) w4).mono ?_
  rintro e w5 ⟨y, rfl, hyl, ho5⟩
  have hy : x = y := by rw [bytes_eq hyl, bytes_eq HXL.out]
  subst hy
  rw [← EV.out]
  have HO5 := Lib.hid (HO4.out.trans ho5)
  clear hyl ho5
  cases v
  · have hx : x = ⟨#[]⟩ := by
      have h := HXL.out
      rw [open_none EV.out.symm] at h
      exact bytes_eq h
    subst hx
    go_wp2_with fail
    go_ret
    exact ⟨rfl, HO5.out⟩
  · have hop : openS key b.data.toList = (x.data.toList, true) := by rw [HXL.out, EV.out]
    have hbx := open_box hop
    have hxz : x.size ≤ 1048576 := by
      rw [size_list, HXL.out]
      exact Nat.le_trans openS_len (by rw [← size_list]; exact hb)
    have HBX := Lib.hid hbx
    have HXZ := Lib.hid hxz
    clear hop hbx hxz
    go_wp2_with fail
    refine (seal_any key H0.out H1.out x (Nat.le_trans HXZ.out (by omega)) w5 (HT.out.none HO5.out)).mono ?_
    rintro e w6 ⟨z, rfl, hzl, ho6⟩
    rw [HBX.out] at hzl
    have hz : z = b := by rw [bytes_eq hzl]
    subst hz
    have HO6 := Lib.hid (HO5.out.trans ho6)
    clear hzl ho6
    go_wp2_with fail
    go_ret
    exact ⟨rfl, HO6.out⟩
end Go.Proofs.YtdgapomeenigbaaDoor
