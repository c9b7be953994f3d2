/- What is proved here: the check that each law runs first holds. Condition: the table of powers of ten reads as its initialiser lays it. -/
import Derived.Test.YtdgapomeenigbaaDoorPlain
namespace Go.Proofs.YtdgapomeenigbaaDoor
open Go.RowKit Go.Shelf
theorem bytes_eq {t : ByteArray} {l : List UInt8} (h : t.data.toList = l) : t = ⟨l.toArray⟩ := by
  subst h; rfl
theorem coefs_none (s : ByteArray) (k : Int) (hk : k < 1 ∨ 13 < k) (w : World) :
    Calls Tryd.prog 19 #[.string s, .int .i64 k] w fun e w' => e = .returned (.slice none 0 0) ∧ w' = w := by
  go_enter Tryd.func19, Tryd.ntmps19
  by_cases h : k < 1
  · go_wp2_with fail
    go_ret
    exact ⟨rfl, rfl⟩
  · have h2 : 13 < k := by omega
    go_wp2_with fail
    go_ret
    exact ⟨rfl, rfl⟩
set_option maxRecDepth 100000 in
set_option maxHeartbeats 1000000 in
theorem sanity_any (w : World) (ht : Tab w) :
    Calls Tryd.prog 11 #[] w fun e w' => e = .returned (.bool true) ∧ Only NoneOf w w' := by
  have HT := Lib.hid ht
  have z3 : (⟨#[97, 98, 99]⟩ : ByteArray).size ≤ 17592186044416 := by show 3 ≤ _; omega
  have z0 : (⟨#[]⟩ : ByteArray).size ≤ 17592186044416 := by show 0 ≤ _; omega
  have Z3 := Lib.hid z3
  have Z0 := Lib.hid z0
  clear ht z3 z0
  go_enter Tryd.func11, Tryd.ntmps11
  go_wp2_with fail
  refine (seal_any 7 (by omega) (by omega) ⟨#[97, 98, 99]⟩ Z3.out w HT.out).mono ?_
  rintro e w1 ⟨t, rfl, htl, ho1⟩
  have hts : t.size ≤ 17592186044416 := by rw [size_list, htl, sealS_len]; show 32 + 3 ≤ _; omega
  have HTL := Lib.hid htl
  have HTS := Lib.hid hts
  have HO1 := Lib.hid ho1
  have HT1 := Lib.hid (HT.out.none ho1)
  clear htl hts ho1
  go_wp2_with fail
  refine (open_any 7 (by omega) (by omega) t HTS.out w1 HT1.out).mono ?_
  rintro e w2 ⟨u, rfl, hul, ho2⟩
  rw [HTL.out, open_seal] at hul ⊢
  obtain rfl := bytes_eq hul
  have HO2 := Lib.hid (HO1.out.trans ho2)
  have HT2 := Lib.hid (HT.out.none HO2.out)
  clear hul ho2 HTL HTS HO1 HT1
  go_wp2_with fail
  refine (seal_any 7 (by omega) (by omega) ⟨#[97, 98, 99]⟩ Z3.out w2 HT2.out).mono ?_
  rintro e w3 ⟨t, rfl, htl, ho3⟩
  have hts : t.size ≤ 17592186044416 := by rw [size_list, htl, sealS_len]; show 32 + 3 ≤ _; omega
  have HTL := Lib.hid htl
  have HTS := Lib.hid hts
  have HO3 := Lib.hid (HO2.out.trans ho3)
  have HT3 := Lib.hid (HT.out.none HO3.out)
  clear htl hts ho3 HO2 HT2
  go_wp2_with fail
  refine (open_any 8 (by omega) (by omega) t HTS.out w3 HT3.out).mono ?_
  rintro e w4 ⟨u, rfl, hul, ho4⟩
  have hwk : openS 8 t.data.toList = ([], false) := by rw [HTL.out]; exact wrong_key
  rw [hwk] at hul ⊢
  obtain rfl := bytes_eq hul
  have HO4 := Lib.hid (HO3.out.trans ho4)
  have HT4 := Lib.hid (HT.out.none HO4.out)
  clear hul ho4 HTL HTS HO3 HT3 hwk
  go_wp2_with fail
  refine (open_any 7 (by omega) (by omega) ⟨#[]⟩ Z0.out w4 HT4.out).mono ?_
  rintro e w5 ⟨u, rfl, hul, ho5⟩
  have hwk : openS 7 (⟨#[]⟩ : ByteArray).data.toList = ([], false) := openS_short (by decide)
  rw [hwk] at hul ⊢
  obtain rfl := bytes_eq hul
  have HO5 := Lib.hid (HO4.out.trans ho5)
  have HT5 := Lib.hid (HT.out.none HO5.out)
  clear hul ho5 HO4 HT4 hwk
  go_wp2_with fail
  refine (seal_any 7 (by omega) (by omega) ⟨#[]⟩ Z0.out w5 HT5.out).mono ?_
  rintro e w6 ⟨t, rfl, htl, ho6⟩
  have hts : t.size = 32 := by rw [size_list, htl, sealS_len]; rfl
  have htsi : (t.size : Int) = 32 := by omega
  have HO6 := Lib.hid (HO5.out.trans ho6)
  have HT6 := Lib.hid (HT.out.none HO6.out)
  clear htl ho6 HO5 HT5
  go_wp2_with fail
  refine (coefs_none ⟨#[115]⟩ 0 (.inl (by omega)) w6).mono ?_
  rintro e w7 ⟨rfl, hw7⟩
  rw [hw7]
  clear hw7
  go_wp2_with fail
  refine (coefs_any ⟨#[115]⟩ (by show 1 ≤ _; omega) 3 (by omega) (by omega) w6 HT6.out).mono ?_
  rintro e w8 ⟨g, c, rfl, _, _, _, ho8⟩
  have HO8 := Lib.hid (HO6.out.trans ho8)
  clear ho8
  go_wp2_with fail
  go_ret
  exact ⟨rfl, HO8.out⟩
end Go.Proofs.YtdgapomeenigbaaDoor
