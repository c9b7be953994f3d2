/- What is proved here: the reference of sealing: numbers, checks, the combined text and the sealed one. Conditions: the texts are short. -/
import Derived.Test.YtdgapomeenigbaaDoorRefG
import Derived.Test.YtdgapomeenigbaaDoorSealE
import Derived.Stop.BytesEq
namespace Go.Proofs.YtdgapomeenigbaaDoor
open Go.RowKit Go.Shelf
theorem number14_any (n : Int) (h0 : -9223372036854775808 ≤ n) (h1 : n ≤ 9223372036854775807) (w : World) :
    Calls Tryd.prog 25 #[.int .i64 n] w (RetStr (Lib.itoa n) w) := by
  have HN := Lib.hid (text_one n h0 h1 w)
  clear h0 h1
  go_enter Tryd.func25, Tryd.ntmps25
  go_wp2_with fail
  refine HN.out.mono ?_
  rintro e w1 ⟨t, rfl, ht, ho⟩
  have HT := Lib.hid ht
  have HO := Lib.hid ho
  clear ht ho
  go_wp2_with fail
  go_ret
  exact RetStr.mk HT.out HO.out
theorem rcheck_any (key : Int) (h0 : -9223372036854775808 ≤ key) (h1 : key ≤ 9223372036854775807) (s : ByteArray) (hs : s.size ≤ 17592186044416) (w : World) :
    Calls Tryd.prog 17 #[.int .i64 key, .string s] w (RetStr (checkS key s.data.toList) w) := by
  have HN := Lib.hid (number14_any key h0 h1 w)
  have HL := Lib.hid (itoa_len h0 h1)
  clear h0 h1
  go_enter Tryd.func17, Tryd.ntmps17
  go_wp2_with fail
  refine HN.out.mono ?_
  rintro e w1 ⟨t, rfl, ht, ho⟩
  have zt : t.size ≤ 21 := by rw [size_list, ht]; exact HL.out
  have HT := Lib.hid ht
  have HO := Lib.hid ho
  clear ht ho
  go_wp2_with fail
  go_ret
  refine RetStr.mk ?_ HO.out
  rw [append_list, append_list, append_list, HT.out]
  rfl
theorem size_u8 (w : World) : (sizeOf 5).run Tryd.prog w = .ok 1 w := by kernel_rfl
theorem eql_hash (xs ys : List UInt8) (hx : xs.length = 32) (hy : ys.length = 32) (w : World) : (binOp .eql 41 (.agg (xs.map bv).toArray) (.agg (ys.map bv).toArray)).run Tryd.prog w = .ok (.bool (xs == ys)) w :=
  run_eql_bytes w 41 5 32 Tryd.underlying41 Tryd.underlying5 size_u8 xs ys hx hy
attribute [local go_sem ↓] eql_hash
set_option maxHeartbeats 400000 in
theorem clash_yes (a b : ByteArray) (ha : a.size ≤ 35184372088832) (hb : b.size ≤ 35184372088832) (hne : a.data.toList ≠ b.data.toList) (heq : shaL a.data.toList = shaL b.data.toList) (w : World) :
    Calls Tryd.prog 16 #[.string a, .string b] w fun e w' => e = .returned (.bool true) ∧ Only NoneOf w w' := by
  have hq : (a.toList == b.toList) = false := by
    rw [Lib.toList_data, Lib.toList_data]; exact beq_eq_false_iff_ne.2 hne
  have HA := Lib.hid (rsum_any a w ha)
  have HB := Lib.hid (fun w => rsum_any b w hb)
  have HEQ := Lib.hid heq
  clear heq hne
  go_enter Tryd.func16, Tryd.ntmps16
  go_wp2_with fail
  refine HA.out.mono ?_
  rintro e w1 ⟨rfl, ho1⟩
  have HO1 := Lib.hid ho1
  obtain ⟨h, eh⟩ : ∃ h, h = shaL a.data.toList := ⟨_, rfl⟩
  rw [← eh]
  have hl : h.length = 32 := by rw [eh]; exact shaL_len _
  have EH := Lib.hid eh
  clear ho1 eh
  go_wp2_with fail
  refine (HB.out _).mono ?_
  rintro e w2 ⟨rfl, ho2⟩
  have HO2 := Lib.hid (HO1.out.trans ho2)
  rw [← HEQ.out, ← EH.out]
  clear ho2
  go_wp2_with fail
  go_ret
  exact ⟨rfl, HO2.out⟩
end Go.Proofs.YtdgapomeenigbaaDoor
