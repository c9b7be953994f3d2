/- What is proved here: keys, by the reference. Condition: the texts are short. -/
import Derived.Test.YtmgbcjjemlcfgaaDoorSignC
namespace Go.Proofs.YtmgbcjjemlcfgaaDoor
open Go.RowKit Go.Shelf
set_option maxRecDepth 100000 in
set_option maxHeartbeats 400000 in
theorem rkey_any (s : ByteArray) (w : World) (hs : s.size ≤ 17592186044416) : Calls Tryd.prog 12 #[.string s] w fun e w' => e = .returned (.tuple #[.int .i64 (keyOf s.data.toList : Int), .int .i64 (pub (keyOf s.data.toList) : Int)]) ∧ Only NoneOf w w' := by
  have hk := keyOf_eq s.data.toList
  have hk2 := (keyOf_lt s.data.toList).2
  rw [Q0_val] at hk2
  rw [Q0_int] at hk
  obtain ⟨k, ek⟩ : ∃ k, k = keyOf s.data.toList := ⟨_, rfl⟩
  rw [← ek] at hk hk2 ⊢
  obtain ⟨L, eL⟩ : ∃ L : ByteArray, L = ⟨#[107]⟩ := ⟨_, rfl⟩
  have hL : L.size = 1 := by rw [eL]; rfl
  have hh : hashF 1152921504606845788 (L ++ s).data.toList = (k : Int) - 1 := by
    rw [ByteArray.data_append, Array.toList_append, eL, hk]; simp
  have hsz : (L ++ s).size ≤ 35184372088832 := by rw [ByteArray.size_append]; omega
  have hsum : L.size + s.size ≤ 9223372036854775807 := by omega
  have HH := Lib.hid hh
  have HSZ := Lib.hid hsz
  have EL := Lib.hid eL
  clear ek hk hh hsz eL hL
  go_enter Tryd.func12, Tryd.ntmps12
  rw [← EL.out]
  go_wp2_with fail
  refine (rhash_any _ 1152921504606845788 HSZ.out (by omega) (by omega) w).mono ?_
  rintro e w1 ⟨rfl, ho⟩
  have HO := Lib.hid ho
  clear ho
  rw [HH.out]
  have e1 : IntKind.i64.wrap ((k : Int) - 1 + 1) = (k : Int) := by rw [show (k : Int) - 1 + 1 = (k : Int) by omega]; exact IntWalk.i64_in _ (by omega)
  go_wp2_with fail
  refine (rpub_any k w1).mono ?_
  rintro e w2 ⟨rfl, hw⟩
  subst hw
  go_wp2_with fail
  go_ret2
  exact ⟨rfl, HO.out⟩
end Go.Proofs.YtmgbcjjemlcfgaaDoor
