/- What is proved here: the reference's number and its quoted text. Conditions: texts are short. -/
import Derived.Test.YtclpebgjmgfigaaGreatDoorEvK
import Derived.Test.YtclpebgjmgfigaaGreatDoorM9
namespace Go.Proofs.YtclpebgjmgfigaaGreatDoor
open Go.RowKit Go.Shelf
theorem rnumber_any (n : Int) (h0 : -9223372036854775808 ≤ n) (h1 : n ≤ 9223372036854775807) (w : World) : Calls Tryz.prog 34 #[.int .i64 n] w (RetStr (Lib.itoa n) w) := by
  have ht := fun W => text_one n h0 h1 W
  have HT := Lib.hid ht
  clear ht h0 h1
  go_enter Tryz.func34, Tryz.ntmps34
  go_wp2_with fail
  refine (HT.out w).mono ?_
  rintro e1 w1 ⟨t, rfl, htl, ho⟩
  have HO := Lib.hid ho
  have HL := Lib.hid htl
  clear ho htl
  go_wp2_with fail
  refine ⟨rfl, _, results_tmp rfl _ _ _, ?_⟩
  exact RetStr.mk HL.out HO.out
theorem rstr_any (s : ByteArray) (hs : s.size ≤ 8796093022208) (w : World) : Calls Tryz.prog 36 #[.string s] w (RetStr (quoL s.data.toList) w) := by
  have hn := fun W => rnumber_any (s.size : Int) (by omega) (by omega) W
  have HN := Lib.hid hn
  have HS := Lib.hid hs
  clear hn hs
  go_enter Tryz.func36, Tryz.ntmps36
  go_wp2_with fail
  refine (HN.out w).mono ?_
  rintro e1 w1 ⟨t, rfl, htl, ho⟩
  have HO := Lib.hid ho
  have HL := Lib.hid htl
  have hil := itoa_len (n := (s.size : Int)) (by have := HS.out; omega) (by have := HS.out; omega)
  rw [← htl, ← size_list] at hil
  have hs1 : t.size + 1 ≤ 9223372036854775807 := by omega
  have hs2 : t.size + 1 + s.size ≤ 9223372036854775807 := by have := HS.out; omega
  clear ho htl hil
  go_wp2_with fail
  refine ⟨rfl, _, results_tmp rfl _ _ _, ?_⟩
  refine RetStr.mk ?_ HO.out
  unfold quoL
  rw [← size_list, ← HL.out]
  simp
end Go.Proofs.YtclpebgjmgfigaaGreatDoor
