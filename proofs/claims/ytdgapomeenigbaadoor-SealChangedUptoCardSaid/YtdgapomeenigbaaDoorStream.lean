/- What is proved here: the law of the streams returns true. Conditions: the table of powers of ten reads as its initialiser lays it; the texts are short. -/
import Derived.Test.YtdgapomeenigbaaDoorTexts
import Derived.Test.YtdgapomeenigbaaDoorPlainB
import Derived.Deep.OwnRows
namespace Go.Proofs.YtdgapomeenigbaaDoor
open Go.RowKit Go.Shelf
theorem info_u8 : (Tryd.prog.info? 5).map (fun i => (i.zero, i.size, i.bytes)) = some (some (.int .u8 0), 1, 1) := by kernel_rfl
theorem madeBytes (n : Nat) : madeCells #[Value.int .u8 0] n = Array.replicate n (bv 0) := by
  apply Array.ext'
  apply List.ext_getElem?
  intro i
  by_cases h : i < n
  · simp [madeCells, h, Nat.mod_one, bv]
  · simp [madeCells, h]
def zerosS (n : Nat) : ByteArray := ⟨(List.replicate n (0 : UInt8)).toArray⟩
theorem zerosS_size (n : Nat) : (zerosS n).size = n := by simp [zerosS, ByteArray.size]
theorem zerosS_list (n : Nat) : (zerosS n).data.toList = List.replicate n 0 := by simp [zerosS]
theorem zeros_new (n : Nat) (W : World) : BytesAt (W.alloc (.cells (Array.replicate n (bv 0)) 5)) W.heap.size 0 (List.replicate n 0) := by
  have h := BytesAt.new W 5 (List.replicate n 0)
  simpa using h
theorem run_zeros (n : Nat) (W : World) : (convert 32 9 (.slice (some ⟨W.heap.size, 0, none⟩) n n)).run Tryd.prog (W.alloc (.cells (Array.replicate n (bv 0)) 5)) = .ok (.string (zerosS n)) (W.alloc (.cells (Array.replicate n (bv 0)) 5)) :=
  run_back (zeros_new n W) (by simp)
theorem zeros_later {n : Nat} {W W' : World} (ho : Only NoneOf (W.alloc (.cells (Array.replicate n (bv 0)) 5)) W') : BytesAt W' W.heap.size 0 (List.replicate n 0) :=
  (zeros_new n W).only ho (fun h => h)
theorem only_of_drew {S : Nat → Prop} {w w' : World} (h : Only S w.drew w') : Only S w w' := ⟨h.os, h.tape, h.output, h.size, h.block⟩
theorem run_zeros_at {n g : Nat} {W : World} (h : BytesAt W g 0 (List.replicate n 0)) : (convert 32 9 (.slice (some ⟨g, 0, none⟩) n n)).run Tryd.prog W = .ok (.string (zerosS n)) W :=
  run_back h (by simp)
theorem run_zeros_d (n : Nat) (W : World) : (convert 32 9 (.slice (some ⟨W.heap.size, 0, none⟩) n n)).run Tryd.prog (W.alloc (.cells (Array.replicate n (bv 0)) 5)).drew = .ok (.string (zerosS n)) (W.alloc (.cells (Array.replicate n (bv 0)) 5)).drew :=
  run_zeros_at (W := (W.alloc (.cells (Array.replicate n (bv 0)) 5)).drew) (zeros_new n W)
theorem str_at {X s : ByteArray} {key : Int} (hX : X.data.toList = combL key s.data.toList) (k : Nat) (h1 : k < X.size) (h2 : k < s.size) : X[k] = s[k] ^^^ sbyte key k := by
  have e := combL_get key s.data.toList k
  rw [← hX] at e
  have e1 : X.data.toList[k]? = some X[k] := by rw [List.getElem?_eq_getElem (by simpa using h1)]; rfl
  have e2 : s.data.toList[k]? = some s[k] := by rw [List.getElem?_eq_getElem (by simpa using h2)]; rfl
  rw [e1, e2] at e
  exact Option.some.inj e
theorem two_at {X Y a b : ByteArray} {key : Int} (hX : X.data.toList = combL key a.data.toList) (hY : Y.data.toList = combL key b.data.toList) (k : Nat) (h1 : k < X.size) (h2 : k < Y.size) (h3 : k < a.size) (h4 : k < b.size) :
    bits .xor .u8 (X[k].toNat : Int) (Y[k].toNat : Int) = bits .xor .u8 (a[k].toNat : Int) (b[k].toNat : Int) := by
  rw [b_xor, b_xor, str_at hX k h1 h3, str_at hY k h2 h4]
  congr 2
  rw [UInt8.xor_comm b[k], UInt8.xor_assoc, ← UInt8.xor_assoc (sbyte key k), UInt8.xor_self, UInt8.zero_xor]
theorem zero_at {Z X a : ByteArray} {key : Int} (n : Nat) (hZ : Z.data.toList = combL key (zerosS n).data.toList) (hX : X.data.toList = combL key a.data.toList) (k : Nat) (h1 : k < Z.size) (h2 : k < X.size) (h3 : k < a.size) (h4 : k < n) :
    bits .xor .u8 (Z[k].toNat : Int) (a[k].toNat : Int) = (X[k].toNat : Int) := by
  have hz : (zerosS n)[k]'(by rw [zerosS_size]; exact h4) = 0 := by
    have e2 : (zerosS n).data.toList[k]? = some ((zerosS n)[k]'(by rw [zerosS_size]; exact h4)) := by rw [List.getElem?_eq_getElem (by rw [← size_list, zerosS_size]; exact h4)]; rfl
    rw [zerosS_list, List.getElem?_replicate, if_pos h4] at e2
    exact (Option.some.inj e2).symm
  rw [b_xor, str_at hX k h2 h3, str_at hZ k h1 (by rw [zerosS_size]; exact h4), hz, UInt8.zero_xor, UInt8.xor_comm]
set_option maxRecDepth 100000 in
set_option maxHeartbeats 1000000 in
theorem sstream_any (key : Int) (h0 : -9223372036854775808 ≤ key) (h1 : key ≤ 9223372036854775807) (a b : ByteArray) (ha : a.size ≤ 1048576) (hb : b.size ≤ 1048576) (w : World) (ht : Tab w) :
    Calls Tryd.prog 8 #[.int .i64 key, .string a, .string b] w fun e w' => e = .returned (.bool true) ∧ Only NoneOf w w' := by
  have HT := Lib.hid ht
  have hmk := fun w => run_make_row' (P := Tryd.prog) 32 5 (.int .u8 0) 1 Tryd.underlying32 info_u8 rfl .i64 .i64 a.size (by omega) (by omega) w
  rw [madeBytes a.size] at hmk
  have hcv := run_zeros a.size
  have HMK := Lib.hid hmk
  have HCV := Lib.hid hcv
  clear ht hmk hcv
  go_enter Tryd.func8, Tryd.ntmps8
  go_wp2_with fail
  refine (sanity_any w HT.out).mono ?_
  rintro e w1 ⟨rfl, ho1⟩
  have HO1 := Lib.hid ho1
  have HT1 := Lib.hid (HT.out.none ho1)
  clear ho1
  go_wp2_with fail
  have hmk := HMK.out
  have hcv := HCV.out
  have hcvd := run_zeros_d a.size
  have HZ := Lib.hid (zerosS_size a.size)
  go_region_law (first
    | (go_simp; go_at_call 12; (with_reducible refine (seal_any key h0 h1 a (by omega) _ (HT.out.none (by first | exact HO1.out.drew | exact (HO1.out.alloc _).drew))).mono ?_); rintro e w2 ⟨t, rfl, htl, ho2⟩; have HTL1 := Lib.hid htl; have HO2 : Hid (Only NoneOf w w2) := Lib.hid (by first | exact HO1.out.drew.trans ho2 | exact ((HO1.out.alloc _).drew).trans ho2); (try (have hby2 := zeros_later (only_of_drew ho2); have hq2 := run_zeros_at hby2)); clear htl ho2)
    | (go_simp; go_at_call 12; (with_reducible refine (seal_any key h0 h1 b (by omega) _ (HT.out.none (by first | exact HO2.out | exact HO2.out.alloc _))).mono ?_); rintro e w3 ⟨u, rfl, hul, ho3⟩; have HUL := Lib.hid hul; have HO3 : Hid (Only NoneOf w w3) := Lib.hid (by first | exact HO2.out.trans ho3 | exact (HO2.out.alloc _).trans ho3); (first | (have hby3 := BytesAt.only hby2 ho3 (fun h => h); have hq3 := run_zeros_at hby3) | (have hby3 := zeros_later ho3; have hq3 := run_zeros_at hby3) | skip); clear hul ho3)
    | (go_simp; go_at_call 12; (with_reducible refine (seal_any key h0 h1 (zerosS a.size) (by have := HZ.out; omega) _ (HT.out.none (by first | exact HO3.out | exact HO3.out.alloc _))).mono ?_); rintro e w4 ⟨z, rfl, hzl, ho4⟩; have HZL := Lib.hid hzl; have HO4 : Hid (Only NoneOf w w4) := Lib.hid (by first | exact HO3.out.trans ho4 | exact (HO3.out.alloc _).trans ho4); clear hzl ho4))
  all_goals clear hmk hcv hcvd
  all_goals (try clear hq2)
  all_goals (try clear hq3)
  all_goals
    have st : (t.size : Int) = 32 + (a.size : Int) := by rw [size_list, HTL1.out, sealS_len, ← size_list]; omega
    have su : (u.size : Int) = 32 + (b.size : Int) := by rw [size_list, HUL.out, sealS_len, ← size_list]; omega
    have sz : (z.size : Int) = 32 + (a.size : Int) := by rw [size_list, HZL.out, sealS_len, ← size_list, HZ.out]; omega
    have wa : IntKind.i64.wrap (32 + (a.size : Int)) = 32 + (a.size : Int) := IntWalk.i64_in _ (by omega)
    have wb : IntKind.i64.wrap (32 + (b.size : Int)) = 32 + (b.size : Int) := IntWalk.i64_in _ (by omega)
    go_wp2_with fail
    go_region
    go_wp2_with fail
  all_goals
    obtain ⟨X, eX⟩ : ∃ X, X = t.extract 32 t.size := ⟨_, rfl⟩
    obtain ⟨Y, eY⟩ : ∃ Y, Y = u.extract 32 u.size := ⟨_, rfl⟩
    obtain ⟨Z, eZ⟩ : ∃ Z, Z = z.extract 32 z.size := ⟨_, rfl⟩
    rw [← eX, ← eY, ← eZ]
    have hX : X.data.toList = combL key a.data.toList := by rw [eX, extract_from, HTL1.out, seal_drop]
    have hY : Y.data.toList = combL key b.data.toList := by rw [eY, extract_from, HUL.out, seal_drop]
    have hZ : Z.data.toList = combL key (zerosS a.size).data.toList := by rw [eZ, extract_from, HZL.out, seal_drop]
    have sX : X.size = a.size := by rw [size_list, hX, combL_len, ← size_list]
    have sY : Y.size = b.size := by rw [size_list, hY, combL_len, ← size_list]
    have sZ : Z.size = a.size := by rw [size_list, hZ, combL_len, ← size_list, HZ.out]
    have HX := Lib.hid hX
    have HY := Lib.hid hY
    have HZZ := Lib.hid hZ
    have SX := Lib.hid sX
    have SY := Lib.hid sY
    have SZ := Lib.hid sZ
    clear eX eY eZ hX hY hZ sX sY sZ st su sz wa wb
    go_loopw [12] (fun v wr => ∃ k : Nat, v = .int .i64 k ∧ k ≤ min a.size b.size ∧ Only NoneOf w wr) (fun v _ => min a.size b.size - (intOf v).toNat)
    case atStart => exact ⟨0, rfl, by omega, HO4.out.drew⟩
    case round =>
      obtain ⟨k, rfl, hk, ho⟩ := hrel
      by_cases hlt : k < min a.size b.size
      · have ka : k < a.size := by omega
        have kb : k < b.size := by omega
        have kX : k < X.size := by have := SX.out; omega
        have kY : k < Y.size := by have := SY.out; omega
        have km : (k : Int) < min (a.size : Int) (b.size : Int) := by omega
        have k0 : 0 ≤ (k : Int) := by omega
        have hxx := two_at HX.out HY.out k kX kY ka kb
        have HO := Lib.hid ho
        clear ho
        go_wp2_with fail
        go_region
        go_wp2_with fail
        go_roundw
        case rel => exact ⟨k + 1, by go_num, by omega, HO.out.drew⟩
        case measure => simp [intOf]; omega
      · have km : ¬ (k : Int) < min (a.size : Int) (b.size : Int) := by omega
        have HO := Lib.hid ho
        clear ho
        go_wp2_with fail
        go_loopw [13] (fun v wr => ∃ k : Nat, v = .int .i64 k ∧ k ≤ a.size ∧ Only NoneOf w wr) (fun v _ => a.size - (intOf v).toNat)
        case atStart => exact ⟨0, rfl, by omega, HO.out⟩
        case round =>
          obtain ⟨j, rfl, hj, ho⟩ := hrel
          by_cases hlt : j < a.size
          · have kX : j < X.size := by have := SX.out; omega
            have kZ : j < Z.size := by have := SZ.out; omega
            have km : (j : Int) < (a.size : Int) := by omega
            have k0 : 0 ≤ (j : Int) := by omega
            have hxx := zero_at a.size HZZ.out HX.out j kZ kX hlt hlt
            have HO := Lib.hid ho
            clear ho
            go_wp2_with fail
            go_region
            go_wp2_with fail
            go_roundw
            case rel => exact ⟨j + 1, by go_num, by omega, HO.out.drew⟩
            case measure => simp [intOf]; omega
          · have km : ¬ (j : Int) < (a.size : Int) := by omega
            have HO := Lib.hid ho
            clear ho
            go_wp2_with fail
            go_ret
            exact ⟨rfl, HO.out⟩
end Go.Proofs.YtdgapomeenigbaaDoor
