/- What is proved here: the law of sealed texts returns true. Conditions: the table of powers of ten reads as its initialiser lays it; the texts are short. -/
import Derived.Test.YtdgapomeenigbaaDoorSanity
namespace Go.Proofs.YtdgapomeenigbaaDoor
open Go.RowKit Go.Shelf
set_option maxRecDepth 100000 in
set_option maxHeartbeats 1000000 in
theorem texts_any (key : Int) (h0 : -9223372036854775808 ≤ key) (h1 : key ≤ 9223372036854775807) (a b : ByteArray) (ha : a.size ≤ 17592186044416) (hb : b.size ≤ 17592186044416) (w : World) (ht : Tab w) :
    Calls Tryd.prog 7 #[.int .i64 key, .string a, .string b] w fun e w' => e = .returned (.bool true) ∧ Only NoneOf w w' := by
  have HT := Lib.hid ht
  clear ht
  go_enter Tryd.func7, Tryd.ntmps7
  go_wp2_with fail
  refine (sanity_any w HT.out).mono ?_
  rintro e w1 ⟨rfl, ho1⟩
  have HO1 := Lib.hid ho1
  have HT1 := Lib.hid (HT.out.none ho1)
  clear ho1
  go_wp2_with fail
  refine (seal_any key h0 h1 a ha w1 HT1.out).mono ?_
  rintro e w2 ⟨t, rfl, htl, ho2⟩
  have HTL := Lib.hid htl
  have HO2 := Lib.hid (HO1.out.trans ho2)
  have HT2 := Lib.hid (HT.out.none HO2.out)
  clear htl ho2
  go_wp2_with fail
  refine (seal_any key h0 h1 b hb w2 HT2.out).mono ?_
  rintro e w3 ⟨u, rfl, hul, ho3⟩
  have HO3 := Lib.hid (HO2.out.trans ho3)
  have s1 : (t.size : Int) = 32 + (a.size : Int) := by rw [size_list, HTL.out, sealS_len, ← size_list]; omega
  have s2 : (u.size : Int) = 32 + (b.size : Int) := by rw [size_list, hul, sealS_len, ← size_list]; omega
  have w1 : IntKind.i64.wrap (32 + (a.size : Int)) = 32 + (a.size : Int) := IntWalk.i64_in _ (by omega)
  have w2 : IntKind.i64.wrap (32 + (b.size : Int)) = 32 + (b.size : Int) := IntWalk.i64_in _ (by omega)
  have hq : (t.toList == u.toList) = (a.toList == b.toList) := by
    rw [Lib.toList_data, Lib.toList_data, Lib.toList_data, Lib.toList_data, HTL.out, hul]
    by_cases hab : a.data.toList = b.data.toList
    · rw [hab]; simp
    · rw [beq_eq_false_iff_ne.2 hab, beq_eq_false_iff_ne.2 (fun e => hab (seal_inj key e))]
  clear hul ho3
  go_wp2_with fail
  go_ret
  exact ⟨rfl, HO3.out⟩
end Go.Proofs.YtdgapomeenigbaaDoor
