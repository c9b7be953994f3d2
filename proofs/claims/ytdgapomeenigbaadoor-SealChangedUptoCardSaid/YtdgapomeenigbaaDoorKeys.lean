/- What is proved here: the law of other keys returns true. Conditions: the table of powers of ten reads as its initialiser lays it; the text is short. -/
import Derived.Test.YtdgapomeenigbaaDoorRefH
import Derived.Test.YtdgapomeenigbaaDoorPlainB
import Derived.Test.YtdgapomeenigbaaDoorSanity
namespace Go.Proofs.YtdgapomeenigbaaDoor
open Go.RowKit Go.Shelf
theorem openS_len {key : Int} {l : List UInt8} : (openS key l).1.length ≤ l.length := by
  unfold openS
  split
  · simp
  · split
    · rw [combL_len, List.length_drop]; omega
    · simp
theorem skeys_self (key : Int) (h0 : -9223372036854775808 ≤ key) (h1 : key ≤ 9223372036854775807) (s : ByteArray) (hs : s.size ≤ 1048576) (w : World) (ht : Tab w) :
    Calls Tryd.prog 5 #[.int .i64 key, .int .i64 key, .string s] w fun e w' => e = .returned (.bool true) ∧ Only NoneOf w w' := by
  have HT := Lib.hid ht
  have H0 := Lib.hid h0
  have H1 := Lib.hid h1
  clear ht h0 h1
  go_enter Tryd.func5, Tryd.ntmps5
  go_wp2_with fail
  refine (sanity_any w HT.out).mono ?_
  rintro e w1 ⟨rfl, ho1⟩
  have HO1 := Lib.hid ho1
  clear ho1
  go_wp2_with fail
  refine (seal_any key H0.out H1.out s (by omega) w1 (HT.out.none HO1.out)).mono ?_
  rintro e w2 ⟨t, rfl, htl, ho2⟩
  have hts : t.size ≤ 17592186044416 := by rw [size_list, htl, sealS_len, ← size_list]; omega
  have HTL := Lib.hid htl
  have HTS := Lib.hid hts
  have HO2 := Lib.hid (HO1.out.trans ho2)
  clear htl hts ho2
  go_wp2_with fail
  refine (open_any key H0.out H1.out t HTS.out w2 (HT.out.none HO2.out)).mono ?_
  rintro e w3 ⟨u, rfl, hul, ho3⟩
  rw [HTL.out, open_seal] at hul ⊢
  have hu : u = s := by rw [bytes_eq hul]
  subst hu
  have HO3 := Lib.hid (HO2.out.trans ho3)
  clear hul ho3
  go_wp2_with fail
  go_ret
  exact ⟨rfl, HO3.out⟩
set_option maxHeartbeats 400000 in
theorem skeys_other (key other : Int) (h0 : -9223372036854775808 ≤ key) (h1 : key ≤ 9223372036854775807) (k0 : -9223372036854775808 ≤ other) (k1 : other ≤ 9223372036854775807) (hne : key ≠ other) (s : ByteArray) (hs : s.size ≤ 1048576) (w : World) (ht : Tab w) :
    Calls Tryd.prog 5 #[.int .i64 key, .int .i64 other, .string s] w fun e w' => e = .returned (.bool true) ∧ Only NoneOf w w' := by
  have HT := Lib.hid ht
  have H0 := Lib.hid h0
  have H1 := Lib.hid h1
  have K0 := Lib.hid k0
  have K1 := Lib.hid k1
  have HNE := Lib.hid hne
  have hq : (key == other) = false := beq_eq_false_iff_ne.2 hne
  clear ht h0 h1 k0 k1 hne
  go_enter Tryd.func5, Tryd.ntmps5
  go_wp2_with fail
  refine (sanity_any w HT.out).mono ?_
  rintro e w1 ⟨rfl, ho1⟩
  have HO1 := Lib.hid ho1
  clear ho1
  go_wp2_with fail
  refine (seal_any key H0.out H1.out s (by omega) w1 (HT.out.none HO1.out)).mono ?_
  rintro e w2 ⟨t, rfl, htl, ho2⟩
  have hts : t.size ≤ 2097152 := by rw [size_list, htl, sealS_len, ← size_list]; omega
  have HTL := Lib.hid htl
  have HTS := Lib.hid hts
  have HO2 := Lib.hid (HO1.out.trans ho2)
  clear htl hts ho2
  go_wp2_with fail
  refine (open_any other K0.out K1.out t (Nat.le_trans HTS.out (by omega)) w2 (HT.out.none HO2.out)).mono ?_
  rintro e w3 ⟨u, rfl, hul, ho3⟩
  have HO3 := Lib.hid (HO2.out.trans ho3)
  have huz : u.size ≤ 2097152 := by
    rw [size_list, hul]
    exact Nat.le_trans openS_len (by rw [← size_list]; exact HTS.out)
  obtain ⟨b, eb⟩ : ∃ b, b = (openS other t.data.toList).2 := ⟨_, rfl⟩
  rw [← eb]
  clear ho3
  cases b
  · have hn := open_none eb.symm
    rw [hn] at hul
    have hu : u = ⟨#[]⟩ := bytes_eq hul
    subst hu
    clear hul eb hn huz
    go_wp2_with fail
    go_ret
    exact ⟨rfl, HO3.out⟩
  · have hc := open_clash (key := key) (other := other) (l := t.data.toList) (s := u.data.toList) (t := s.data.toList) (by rw [hul, eb]) (by rw [HTL.out]) (.inl HNE.out)
    have HC := Lib.hid hc
    clear hul eb hc
    go_wp2_with fail
    refine (rcheck_any key H0.out H1.out s (by omega) w3).mono ?_
    rintro e w4 ⟨c1, rfl, hc1, ho4⟩
    have hz1 : c1.size ≤ 4194304 := by
      have := itoa_len H0.out H1.out
      rw [size_list, hc1]
      simp only [checkS, List.length_append, List.length_cons, List.length_nil]
      rw [← size_list]; omega
    have HC1 := Lib.hid hc1
    have HZ1 := Lib.hid hz1
    have HO4 := Lib.hid (HO3.out.trans ho4)
    clear hc1 hz1 ho4
    go_wp2_with fail
    refine (rcheck_any other K0.out K1.out u (by omega) w4).mono ?_
    rintro e w5 ⟨c2, rfl, hc2, ho5⟩
    have hz2 : c2.size ≤ 4194304 := by
      have := itoa_len K0.out K1.out
      rw [size_list, hc2]
      simp only [checkS, List.length_append, List.length_cons, List.length_nil]
      rw [← size_list]; omega
    have HC2 := Lib.hid hc2
    have HZ2 := Lib.hid hz2
    have HO5 := Lib.hid (HO4.out.trans ho5)
    clear hc2 hz2 ho5
    go_wp2_with fail
    refine (clash_yes c1 c2 (Nat.le_trans HZ1.out (by omega)) (Nat.le_trans HZ2.out (by omega)) (by rw [HC1.out, HC2.out]; exact HC.out.1) (by rw [HC1.out, HC2.out]; exact HC.out.2) w5).mono ?_
    rintro e w6 ⟨rfl, ho6⟩
    have HO6 := Lib.hid (HO5.out.trans ho6)
    clear ho6
    go_wp2_with fail
    go_ret
    exact ⟨rfl, HO6.out⟩
end Go.Proofs.YtdgapomeenigbaaDoor
