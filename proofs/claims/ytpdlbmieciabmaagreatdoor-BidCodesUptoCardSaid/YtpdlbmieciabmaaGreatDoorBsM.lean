/- What is proved here: a remainder, a name by a number, and a text that is bent, by the reference's code. Conditions: the numbers are ints, the text is short. -/
import Derived.Test.YtpdlbmieciabmaaGreatDoorBrR
import Derived.Test.YtpdlbmieciabmaaGreatDoorBrC
import Derived.Test.YtpdlbmieciabmaaGreatDoorM6
namespace Go.Proofs.YtpdlbmieciabmaaGreatDoor
open Go.RowKit Go.Shelf
theorem mod04_any (n m : Int) (_hn : In n) (hm : 0 < m) (hm2 : m ≤ 2000000000000000000) (w : World) : Calls Tryz.prog 33 #[.int .i64 n, .int .i64 m] w fun e w' => e = .returned (.int .i64 (n % m)) ∧ w' = w := by
  obtain ⟨r, er⟩ : ∃ r, r = n.tmod m := ⟨_, rfl⟩
  have hr1 : -m < r ∧ r < m := by
    rw [er]; exact ⟨Int.lt_tmod_of_pos n hm, Int.tmod_lt_of_pos n hm⟩
  have hr2 : n % m = if r < 0 then r + m else r := by
    rw [er, Int.tmod_eq_emod]
    have := Int.emod_nonneg n (show m ≠ 0 by omega)
    have := Int.emod_lt_of_pos n hm
    have hab : (m.natAbs : Int) = m := by omega
    split <;> split <;> omega
  have hr3 : (r + m).tmod m = n % m := by
    rw [Int.tmod_eq_emod_of_nonneg (by omega), hr2]
    split
    · exact Int.emod_eq_of_lt (by omega) (by omega)
    · rw [Int.add_emod_right]; exact Int.emod_eq_of_lt (by omega) (by omega)
  have hr4 : 0 ≤ n % m ∧ n % m < m := ⟨Int.emod_nonneg n (by omega), Int.emod_lt_of_pos n hm⟩
  obtain ⟨g, eg⟩ : ∃ g, g = n % m := ⟨_, rfl⟩
  rw [← eg] at hr3 hr4 ⊢
  have e1 : IntKind.i64.wrap (n.tmod m) = r := by rw [← er]; exact IntWalk.i64_in _ (by omega)
  have e2 : IntKind.i64.wrap (r + m) = r + m := IntWalk.i64_in _ (by omega)
  have e3 : IntKind.i64.wrap ((r + m).tmod m) = g := by rw [hr3]; exact IntWalk.i64_in _ (by omega)
  have e4 : IntKind.i64.wrap r = r := IntWalk.i64_in _ (by omega)
  have e5 : IntKind.i64.wrap g = g := IntWalk.i64_in _ (by omega)
  have e0 : ¬ m = 0 := by omega
  have er' := er.symm
  clear eg er hr2 hr1 hr4 hm hm2
  go_enter Tryz.func33, Tryz.ntmps33
  go_wp2_with fail
  exact ⟨rfl, _, results_tmp rfl _ _ _, rfl, rfl⟩
def names10 : List UInt8 → Value := fun l => .string ⟨l.toArray⟩
theorem name_cell (m : Nat) (h : m < 10) : (#[.string ⟨#[100, 97, 121, 115]⟩, .string ⟨#[115, 116, 97, 102, 102]⟩, .string ⟨#[115, 105, 122, 101]⟩, .string ⟨#[113, 117, 97, 108, 105, 116, 121]⟩, .string ⟨#[97]⟩, .string ⟨#[100, 97, 121, 115]⟩, .string ⟨#[108, 111, 116]⟩, .string ⟨#[116, 119, 111, 32, 119, 111, 114, 100, 115]⟩, .string ⟨#[]⟩, .string ⟨#[65]⟩] : Array Value)[m]? = some (.string ⟨(nameN m).toArray⟩) := by
  match m, h with
  | 0, _ => rfl
  | 1, _ => rfl
  | 2, _ => rfl
  | 3, _ => rfl
  | 4, _ => rfl
  | 5, _ => rfl
  | 6, _ => rfl
  | 7, _ => rfl
  | 8, _ => rfl
  | 9, _ => rfl
set_option maxRecDepth 100000 in
set_option maxHeartbeats 1000000 in
theorem name_any (n : Int) (hn : In n) (w : World) : Calls Tryz.prog 34 #[.int .i64 n] w fun e w' => e = .returned (.string (nameT n)) ∧ Only NoneOf w w' := by
  obtain ⟨m, em⟩ : ∃ m : Nat, n % 10 = (m : Int) := ⟨(n % 10).toNat, by have := Int.emod_nonneg n (show (10 : Int) ≠ 0 by omega); omega⟩
  have hm : m < 10 := by
    have := Int.emod_lt_of_pos n (show (0 : Int) < 10 by omega)
    omega
  have hc : (w.alloc (.cells #[.string ⟨#[100, 97, 121, 115]⟩, .string ⟨#[115, 116, 97, 102, 102]⟩, .string ⟨#[115, 105, 122, 101]⟩, .string ⟨#[113, 117, 97, 108, 105, 116, 121]⟩, .string ⟨#[97]⟩, .string ⟨#[100, 97, 121, 115]⟩, .string ⟨#[108, 111, 116]⟩, .string ⟨#[116, 119, 111, 32, 119, 111, 114, 100, 115]⟩, .string ⟨#[]⟩, .string ⟨#[65]⟩] 9)).cell? ⟨w.heap.size, m, none⟩ = some (.string (nameT n)) := by
    rw [(Blk.new w _ _).cell, name_cell m hm]
    unfold nameT
    rw [em, Int.toNat_natCast]
  have m4 : ∀ W, Calls Tryz.prog 33 #[.int .i64 n, .int .i64 10] W fun e w' => e = .returned (.int .i64 (m : Int)) ∧ w' = W := fun W => by rw [← em]; exact mod04_any n 10 hn (by omega) (by omega) W
  have M4 := Lib.hid m4
  have im : (m : Int) < 10 := by omega
  have im0 : (0 : Int) ≤ (m : Int) := by omega
  obtain ⟨X, eX⟩ : ∃ X, X = w.alloc (.cells #[.string ⟨#[100, 97, 121, 115]⟩, .string ⟨#[115, 116, 97, 102, 102]⟩, .string ⟨#[115, 105, 122, 101]⟩, .string ⟨#[113, 117, 97, 108, 105, 116, 121]⟩, .string ⟨#[97]⟩, .string ⟨#[100, 97, 121, 115]⟩, .string ⟨#[108, 111, 116]⟩, .string ⟨#[116, 119, 111, 32, 119, 111, 114, 100, 115]⟩, .string ⟨#[]⟩, .string ⟨#[65]⟩] 9) := ⟨_, rfl⟩
  rw [← eX] at hc
  have HX := Lib.hid (show Only NoneOf w X by rw [eX]; exact (Only.refl _ _).alloc _)
  have EX := Lib.hid eX
  clear m4 em eX
  go_enter Tryz.func34, Tryz.ntmps34
  go_wp2_with fail
  rw [← EX.out]
  refine (M4.out _).mono ?_
  rintro e w1 ⟨rfl, rfl⟩
  go_wp2_with fail
  go_ret
  exact ⟨rfl, HX.out⟩
/-- A byte of an int. -/
theorem byte_of (n : Int) : ∃ c : UInt8, IntKind.u8.wrap n = (c.toNat : Int) := by
  have h : 0 ≤ IntKind.u8.wrap n ∧ IntKind.u8.wrap n < 256 := by
    simp only [IntKind.wrap, IntKind.bits, IntKind.signed]
    simp
    omega
  exact ⟨UInt8.ofNat (IntKind.u8.wrap n).toNat, by rw [UInt8.toNat_ofNat']; omega⟩
theorem conv_byte {W : World} {g : Nat} {c : UInt8} (h : Blk W g 5 #[.int .u8 (c.toNat : Int)]) : (convert 100 9 (.slice (some ⟨g, 0, none⟩) 1 1)).run Tryz.prog W = .ok (.string ⟨#[c]⟩) W :=
  run_back (l := [c]) (fun j x hx => by
    match j, hx with
    | 0, hx =>
      simp only [List.getElem?_cons_zero, Option.some.injEq] at hx
      subst hx
      exact h.cell 0) rfl
abbrev tQ : TypeId := 62
set_option maxRecDepth 100000 in
set_option maxHeartbeats 2000000 in
theorem bent16_any (s : ByteArray) (hs : s.size ≤ 1000000000) (q0 q1 q2 : Int) (h0 : In q0) (h1 : In q1) (w : World) : Calls Tryz.prog 25 #[.string s, .agg #[.int .i64 q0, .int .i64 q1, .int .i64 q2]] w fun e w' => ∃ t, e = .returned (.string t) ∧ t.size ≤ s.size + 1 ∧ Only NoneOf w w' := by
  obtain ⟨Q, eQ⟩ : ∃ Q, Q = w.heap.size := ⟨_, rfl⟩
  obtain ⟨X, eX⟩ : ∃ X, X = w.alloc (.cells #[.int .i64 q0, .int .i64 q1, .int .i64 q2] tQ) := ⟨_, rfl⟩
  have hb : Blk X Q tQ #[.int .i64 q0, .int .i64 q1, .int .i64 q2] := by rw [eX, eQ]; exact Blk.new w _ _
  have hX : Only NoneOf w X := by rw [eX]; exact (Only.refl _ _).alloc _
  have c0 : X.cell? ⟨Q, 0, none⟩ = some (.int .i64 q0) := hb.cell 0
  have c1 : X.cell? ⟨Q, 1, none⟩ = some (.int .i64 q1) := hb.cell 1
  have c2 : X.cell? ⟨Q, 2, none⟩ = some (.int .i64 q2) := hb.cell 2
  obtain ⟨c, ec⟩ := byte_of q2
  have HB := Lib.hid hb
  have HX := Lib.hid hX
  have EX := Lib.hid eX
  have EQ := Lib.hid eQ
  have z1 : (⟨#[c]⟩ : ByteArray).size = 1 := rfl
  clear hb hX eX eQ
  by_cases hz : s.size = 0
  · have d0 : ((s.size : Int) == 0) = true := by rw [hz]; rfl
    have hcv := conv_byte (Blk.new X 5 #[.int .u8 (c.toNat : Int)])
    go_enter Tryz.func25, Tryz.ntmps25
    go_upto_region 1 with (fail)
    rw [← EX.out, ← EQ.out]
    go_wp2_with fail
    go_ret
    exact ⟨_, rfl, by rw [z1]; omega, HX.out.alloc _⟩
  · have d0 : ((s.size : Int) == 0) = false := by
      rw [beq_eq_false_iff_ne]
      omega
    obtain ⟨a, ea⟩ : ∃ a : Nat, q0 % (s.size : Int) = (a : Int) := ⟨(q0 % (s.size : Int)).toNat, by have := Int.emod_nonneg q0 (show (s.size : Int) ≠ 0 by omega); omega⟩
    have ha : a < s.size := by
      have := Int.emod_lt_of_pos q0 (show (0 : Int) < (s.size : Int) by omega)
      omega
    obtain ⟨b, eb⟩ : ∃ b : Nat, q1 % 4 = (b : Int) := ⟨(q1 % 4).toNat, by have := Int.emod_nonneg q1 (show (4 : Int) ≠ 0 by omega); omega⟩
    have hb4 : b < 4 := by
      have := Int.emod_lt_of_pos q1 (show (0 : Int) < 4 by omega)
      omega
    have M1 := Lib.hid (fun W => (by rw [← ea]; exact mod04_any q0 s.size h0 (by omega) (by omega) W : Calls Tryz.prog 33 #[.int .i64 q0, .int .i64 (s.size : Int)] W fun e w' => e = .returned (.int .i64 (a : Int)) ∧ w' = W))
    have M2 := Lib.hid (fun W => (by rw [← eb]; exact mod04_any q1 4 h1 (by omega) (by omega) W : Calls Tryz.prog 33 #[.int .i64 q1, .int .i64 4] W fun e w' => e = .returned (.int .i64 (b : Int)) ∧ w' = W))
    have i0 : (0 : Int) ≤ (a : Int) := by omega
    have i1 : (a : Int) ≤ (s.size : Int) := by omega
    have i2 : (a : Int) + 1 ≤ (s.size : Int) := by omega
    have i3 : (0 : Int) ≤ (a : Int) + 1 := by omega
    have wa : IntKind.i64.wrap ((a : Int) + 1) = (a : Int) + 1 := IntWalk.i64_in _ (by omega)
    clear ea eb h0 h1
    go_enter Tryz.func25, Tryz.ntmps25
    go_upto_region 1 with (fail)
    rw [← EX.out, ← EQ.out]
    go_wp2_with fail
    refine (M1.out _).mono ?_
    rintro e w1 ⟨rfl, rfl⟩
    go_wp2_with fail
    refine (M2.out _).mono ?_
    rintro e w2 ⟨rfl, rfl⟩
    have hcv := conv_byte (Blk.drew (Blk.new w2 5 #[.int .u8 (c.toNat : Int)]))
    have hx : Only NoneOf w2 (w2.alloc (.cells #[.int .u8 (c.toNat : Int)] 5)).drew := ((Only.refl _ _).alloc _).drew
    have d2 := hx.cell_some c2 (fun e => e)
    have e1 : (s.extract 0 a).size = a := by rw [ByteArray.size_extract]; omega
    have e2 : (s.extract (a + 1) s.size).size = s.size - (a + 1) := by rw [ByteArray.size_extract]; omega
    have e3 : (s.extract a s.size).size = s.size - a := by rw [ByteArray.size_extract]; omega
    have s1 : (s.extract 0 a).size + 1 ≤ 9223372036854775807 := by omega
    have s2 : (s.extract 0 a).size + 1 + (s.extract (a + 1) s.size).size ≤ 9223372036854775807 := by omega
    have s3 : (s.extract 0 a).size + (s.extract (a + 1) s.size).size ≤ 9223372036854775807 := by omega
    have s4 : (s.extract 0 a).size + 1 + (s.extract a s.size).size ≤ 9223372036854775807 := by omega
    have E1 := Lib.hid e1
    have E2 := Lib.hid e2
    have E3 := Lib.hid e3
    clear e1 e2 e3 hx
    match b, hb4 with
    | 0, _ =>
      go_wp2_with fail
      go_region
      go_wp2_with fail
      go_ret
      refine ⟨_, rfl, ?_, ((HX.out.alloc _).drew)⟩
      rw [ByteArray.size_append, ByteArray.size_append, E1.out, E2.out, z1]
      omega
    | 1, _ =>
      go_wp2_with fail
      go_region
      go_wp2_with fail
      go_ret
      refine ⟨_, rfl, ?_, HX.out.drew⟩
      rw [ByteArray.size_append, E1.out, E2.out]
      omega
    | 2, _ =>
      go_wp2_with fail
      go_region
      go_wp2_with fail
      go_ret
      refine ⟨_, rfl, ?_, ((HX.out.alloc _).drew)⟩
      rw [ByteArray.size_append, ByteArray.size_append, E1.out, E3.out, z1]
      omega
    | 3, _ =>
      go_wp2_with fail
      go_ret
      refine ⟨_, rfl, ?_, HX.out⟩
      rw [E1.out]
      omega
end Go.Proofs.YtpdlbmieciabmaaGreatDoor
