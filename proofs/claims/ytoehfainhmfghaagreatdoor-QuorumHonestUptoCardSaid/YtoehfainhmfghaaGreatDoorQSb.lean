/- What is proved here: two equal lists of blames are the same to the reference's comparison. No conditions. -/
import Derived.Test.YtoehfainhmfghaaGreatDoorQCl
import Derived.Test.YtoehfainhmfghaaGreatDoorN0
import Derived.BigQuiet
namespace Go.Proofs.YtoehfainhmfghaaGreatDoor
open Go.RowKit Go.Shelf
theorem agg_errno (w : World) : (isAgg 65).run Tryz.prog w = .ok false w := by kernel_rfl
theorem fields_blm : (Tryz.prog.fieldsOf 67).toList.map (fun f => (f.name, f.type, f.offset)) = [("Who", 3, 0), ("Kind", 65, 1), ("A", 9, 2), ("B", 9, 3)] := by kernel_rfl
set_option maxRecDepth 100000 in
theorem neq_blm (a : Int) (s t : ByteArray) (w : World) : (binOp .neq 67 (.agg #[.int .i64 a, .int .i64 44, .string s, .string t]) (.agg #[.int .i64 a, .int .i64 44, .string s, .string t])).run Tryz.prog w = .ok (.bool false) w := by
  have key := eq_struct (P := Tryz.prog) (w := w) (d := 9999) (t := 67) (xs := #[.int .i64 a, .int .i64 44, .string s, .string t]) (ys := #[.int .i64 a, .int .i64 44, .string s, .string t]) (by kernel_rfl) (by kernel_rfl) fields_blm
    (eqT_cons (by decide) (part_one (agg_int w) rfl) (part_one (agg_int w) rfl) (eq_int (d := 9998) a a w)
      (eqT_cons (by decide) (part_one (agg_errno w) rfl) (part_one (agg_errno w) rfl) (run_equalIn_int w 9998 65 .i64 .i64 44 44 Tryz.underlying65)
        (eqT_cons (by decide) (part_one (agg_string w) rfl) (part_one (agg_string w) rfl) (eq_string (d := 9998) s s w)
          (eqT_cons (by decide) (part_one (agg_string w) rfl) (part_one (agg_string w) rfl) (eq_string (d := 9998) t t w) eqT_nil))))
  rw [run_neq_struct, key]
  simp
set_option maxRecDepth 100000 in
set_option maxHeartbeats 2000000 in
theorem same_any (L : List Blm) (av bv : Value) (w : World) (ha : BlSl w av L) (hb : BlSl w bv L) : Calls Tryz.prog 19 #[av, bv] w fun e w' => e = .returned (.bool true) ∧ Only NoneOf w w' := by
  obtain ⟨A, cap, rfl, hlc, hcm, hA⟩ := ha
  obtain ⟨A2, cap2, rfl, hlc2, hcm2, hA2⟩ := hb
  have HA := Lib.hid hA
  have HA2 := Lib.hid hA2
  have hne : ((L.length : Int) != (L.length : Int)) = false := by simp
  clear hA hA2
  go_enter Tryz.func19, Tryz.ntmps19
  go_wp2_with fail
  go_loopw [5] (fun i wr => ∃ k : Nat, i = .int .i64 k ∧ k ≤ L.length ∧ Only NoneOf w wr) (fun i _ => L.length - (intOf i).toNat)
  case atStart => exact ⟨0, rfl, Nat.zero_le _, Only.refl _ _⟩
  case round =>
    obtain ⟨k, rfl, hk, ho⟩ := hrel
    have HO := Lib.hid ho
    clear ho
    by_cases hlt : k < L.length
    · obtain ⟨b, hb⟩ : ∃ b, L[k]? = some b := ⟨_, List.getElem?_eq_getElem hlt⟩
      obtain ⟨g, o, e1, _, hr⟩ := HA.out k b hb
      obtain ⟨g2, o2, e2, _, hr2⟩ := HA2.out k b hb
      subst e1
      subst e2
      have ik : (k : Int) < (L.length : Int) := by omega
      have ik0 : (0 : Int) ≤ (k : Int) := by omega
      have q := neq_blm b.who (vtT b.a) (vtT b.b)
      obtain ⟨sa, esa⟩ : ∃ s, s = vtT b.a := ⟨_, rfl⟩
      obtain ⟨sb, esb⟩ : ∃ s, s = vtT b.b := ⟨_, rfl⟩
      have a0 : wr.cell? ⟨g, o + k * 4, none⟩ = some (.int .i64 b.who) := HO.out.cell_some (hr 0 _ rfl) (fun e => e)
      have a1 : wr.cell? ⟨g, o + k * 4 + 1, none⟩ = some (.int .i64 44) := HO.out.cell_some (hr 1 _ rfl) (fun e => e)
      have a2 : wr.cell? ⟨g, o + k * 4 + 2, none⟩ = some (.string sa) := by rw [esa]; exact HO.out.cell_some (hr 2 _ rfl) (fun e => e)
      have a3 : wr.cell? ⟨g, o + k * 4 + 3, none⟩ = some (.string sb) := by rw [esb]; exact HO.out.cell_some (hr 3 _ rfl) (fun e => e)
      have b0 : wr.cell? ⟨g2, o2 + k * 4, none⟩ = some (.int .i64 b.who) := HO.out.cell_some (hr2 0 _ rfl) (fun e => e)
      have b1 : wr.cell? ⟨g2, o2 + k * 4 + 1, none⟩ = some (.int .i64 44) := HO.out.cell_some (hr2 1 _ rfl) (fun e => e)
      have b2 : wr.cell? ⟨g2, o2 + k * 4 + 2, none⟩ = some (.string sa) := by rw [esa]; exact HO.out.cell_some (hr2 2 _ rfl) (fun e => e)
      have b3 : wr.cell? ⟨g2, o2 + k * 4 + 3, none⟩ = some (.string sb) := by rw [esb]; exact HO.out.cell_some (hr2 3 _ rfl) (fun e => e)
      rw [← esa, ← esb] at q
      clear hr hr2 hb esa esb
      go_upto_region 6 with (fail)
      go_quiet (fail)
      go_wp2_with fail
      go_roundw
      case rel => exact ⟨k + 1, by go_num, by omega, HO.out.drewN _⟩
      case measure => simp [intOf]; omega
    · obtain rfl : k = L.length := by omega
      go_wp2_with fail
      go_ret
      exact ⟨rfl, HO.out⟩
end Go.Proofs.YtoehfainhmfghaaGreatDoor
