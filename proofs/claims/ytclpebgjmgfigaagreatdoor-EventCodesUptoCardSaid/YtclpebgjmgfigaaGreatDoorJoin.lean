/- What is proved here: texts are joined with blanks, by Go's library. Conditions: there are two texts or more, a thousand at most, and they are short. -/
import Derived.Test.YtclpebgjmgfigaaGreatDoorB1
import Derived.Lib.Join
namespace Go.Proofs.YtclpebgjmgfigaaGreatDoor
open Go.RowKit Go.Shelf
/-- Texts with blanks between them. -/
def joinW : List (List UInt8) → List UInt8
  | [] => []
  | x :: l => x ++ l.flatMap (fun y => 32 :: y)
/-- The lengths of texts together. -/
def lenAll (l : List (List UInt8)) : Nat := (l.map List.length).foldl (· + ·) 0
theorem foldl_add (l : List Nat) : ∀ a, l.foldl (· + ·) a = a + l.foldl (· + ·) 0 := by
  induction l with
  | nil => intro a; simp
  | cons x l ih => intro a; rw [List.foldl_cons, List.foldl_cons, ih, ih (0 + x)]; omega
theorem lenAll_cons (x : List UInt8) (l : List (List UInt8)) : lenAll (x :: l) = x.length + lenAll l := by
  unfold lenAll
  rw [List.map_cons, List.foldl_cons, foldl_add]
  omega
theorem lenAll_snoc (l : List (List UInt8)) (x : List UInt8) : lenAll (l ++ [x]) = lenAll l + x.length := by
  unfold lenAll
  rw [List.map_append, List.foldl_append]
  rfl
theorem lenAll_take (l : List (List UInt8)) (k : Nat) : lenAll (l.take k) ≤ lenAll l := by
  induction l generalizing k with
  | nil => simp
  | cons x l ih =>
    cases k with
    | zero => simp [lenAll]
    | succ k => rw [List.take_succ_cons, lenAll_cons, lenAll_cons]; have := ih k; omega
theorem tail_len (l : List (List UInt8)) : (l.flatMap (fun y => 32 :: y)).length = l.length + lenAll l := by
  induction l with
  | nil => rfl
  | cons x l ih => rw [List.flatMap_cons, List.length_append, ih, lenAll_cons, List.length_cons, List.length_cons]; omega
theorem joinW_len (x : List UInt8) (l : List (List UInt8)) : (joinW (x :: l)).length = lenAll (x :: l) + l.length := by
  rw [joinW, List.length_append, tail_len, lenAll_cons]; omega
/-- Where strings lie one behind the other. -/
def StrsAt (w : World) (b o : Nat) (xs : List ByteArray) : Prop := ∀ (j : Nat) (x : ByteArray), xs[j]? = some x → w.cell? ⟨b, o + j, none⟩ = some (.string x)
theorem StrsAt.only {w w' : World} {b o : Nat} {xs : List ByteArray} (h : StrsAt w b o xs) (ho : Only NoneOf w w') : StrsAt w' b o xs := fun j x hx => ho.cell_some (h j x hx) (fun e => e)
set_option maxRecDepth 100000 in
set_option maxHeartbeats 2000000 in
theorem sjoin_any (x0 : ByteArray) (r : List ByteArray) (bk o c n : Nat) (w : World) (hx : StrsAt w bk o (x0 :: r)) (hn : n = r.length + 1) (h2 : 1 ≤ r.length) (hN : r.length ≤ 1000) (hcap : n ≤ c) (hc : c ≤ 9223372036854775807) (hlen : lenAll ((x0 :: r).map (·.data.toList)) ≤ 35184372088832) :
    Calls Tryz.prog 54 #[.slice (some ⟨bk, o, none⟩) n c, .string ⟨#[32]⟩] w (RetStr (joinW ((x0 :: r).map (·.data.toList))) w) := by
  have hcell := fun (j : Nat) (x : ByteArray) (h : (x0 :: r)[j]? = some x) => hx j x h
  have hdv : ¬ (9223372036854775807 / ((n : Int) - 1) ≤ 1) := by
    have h1 : (2 : Int) ≤ 9223372036854775807 / ((n : Int) - 1) := by
      rw [Int.le_ediv_iff_mul_le (by omega)]
      omega
    omega
  have hne0 : ((n : Int) == 0) = false := beq_eq_false_iff_ne.2 (by omega)
  have hne1 : ((n : Int) == 1) = false := beq_eq_false_iff_ne.2 (by omega)
  have n1 : (1 : Int) ≤ (n : Int) - 1 := by omega
  have n2 : (n : Int) - 1 ≤ 1000 := by omega
  have e1 : (⟨#[32]⟩ : ByteArray).size = 1 := rfl
  have hlc : ((x0 :: r).map (·.data.toList)).length = n := by rw [List.length_map, List.length_cons, hn]
  obtain ⟨L, eL⟩ : ∃ L, L = (x0 :: r).map (·.data.toList) := ⟨_, rfl⟩
  rw [← eL] at hlen hlc
  have HX := Lib.hid hx
  have HCELL := Lib.hid hcell
  have HLC := Lib.hid hlc
  have HLEN := Lib.hid hlen
  have EL := Lib.hid eL
  have HN := Lib.hid hn
  clear hx hcell hlc hlen hn
  go_enter Tryz.func54, Tryz.ntmps54
  go_wp2_with fail
  go_loop [5, 41] (fun v i => ∃ k : Nat, k ≤ n ∧ i = .int .i64 k ∧ v = .int .i64 ((n : Int) - 1 + (lenAll (L.take k) : Int))) (fun _ i => n - (intOf i).toNat)
  case atStart => exact ⟨0, Nat.zero_le _, rfl, by simp [lenAll]⟩
  case round =>
    obtain ⟨k, hk, rfl, rfl⟩ := hrel
    have hle := lenAll_take L k
    have hlen := HLEN.out
    by_cases hkn : k < n
    · obtain ⟨x, hx⟩ : ∃ x, (x0 :: r)[k]? = some x := ⟨_, List.getElem?_eq_getElem (by rw [List.length_cons, ← HN.out]; exact hkn)⟩
      have hc0 := HCELL.out k x hx
      have hstep : lenAll (L.take (k + 1)) = lenAll (L.take k) + x.size := by
        rw [List.take_add_one, EL.out, List.getElem?_map, hx, Option.map_some, Option.toList_some, lenAll_snoc, size_list]
      have hle2 := lenAll_take L (k + 1)
      obtain ⟨a, ea⟩ : ∃ a, a = lenAll (L.take k) := ⟨_, rfl⟩
      rw [← ea] at hle hstep
      rw [← ea]
      have ik : (k : Int) < (n : Int) := by omega
      have hsz : x.size ≤ 35184372088832 := by omega
      have HST := Lib.hid hstep
      clear hstep hx ea hle2
      go_wp2_with fail
      go_round
      case rel => exact ⟨k + 1, by omega, by go_num, by rw [HST.out]; congr 1; omega⟩
      case measure => simp [intOf]; omega
    · obtain rfl : k = n := by omega
      have hall : L.take k = L := List.take_of_length_le (by rw [HLC.out]; exact Nat.le_refl _)
      rw [hall] at hle ⊢
      clear hall
      obtain ⟨T, eT⟩ : ∃ T, T = lenAll L := ⟨_, rfl⟩
      rw [← eT] at hle hlen ⊢
      have ET := Lib.hid eT
      clear eT
      obtain ⟨M, eM⟩ : ∃ M : Nat, M = k - 1 + T := ⟨_, rfl⟩
      have eM2 : (k : Int) - 1 + (T : Int) = (M : Int) := by omega
      have hM : M ≤ 140737488355328 := by omega
      go_wp2_with fail
      rw [show ((k - 1 : Nat) : Int) + (T : Int) = (M : Int) by omega]
      clear eM2
      refine (Tryz.Builder_Grow_fresh w.heap.size w.heap.size M _ (Nat.le_refl _) (heap_alloc_new w _) (by simp) (by omega)).mono ?_
      rintro e w1 ⟨rfl, h1, hb1⟩
      have ho1 : Only NoneOf w w1 := ((Only.refl NoneOf w).alloc _).below' hb1 (Nat.le_refl _)
      have hx1 := HCELL.out 0 x0 rfl
      rw [Nat.add_zero] at hx1
      have hc1 : w1.cell? ⟨bk, o, none⟩ = some (.string x0) := ho1.cell_some hx1 (fun e => e)
      have H1 : Hid (Lib.IsBuilder 99 5 w.heap.size w.heap.size (Lib.byteCells []) w1) := Lib.hid (Or.inr h1)
      have HO1 := Lib.hid ho1
      have hT0 : T = x0.size + lenAll (r.map (·.data.toList)) := by rw [ET.out, EL.out, List.map_cons, lenAll_cons, size_list]
      clear h1 hb1 ho1 hx1
      go_wp2_with fail
      refine (bwrite_any H1.out (by simp; omega) HO1.out.size).mono ?_
      rintro e w2 ⟨rfl, h2', hb2⟩
      rw [List.nil_append] at h2'
      have H2 := Lib.hid h2'
      have HO2 := Lib.hid (HO1.out.below' hb2 (Nat.le_refl _))
      have hrk : r.length = k - 1 := by have := HN.out; omega
      obtain ⟨R, eR⟩ : ∃ R, R = r.map (·.data.toList) := ⟨_, rfl⟩
      rw [← eR] at hT0
      have ER := Lib.hid eR
      have HT0 := Lib.hid hT0
      have hTR : x0.size + lenAll R ≤ 35184372088832 := by omega
      have hRl : R.length = k - 1 := by rw [eR, List.length_map, hrk]
      have HRL := Lib.hid hRl
      have HRK := Lib.hid hrk
      clear hT0 eR hRl hrk
      have i2 : (1 : Int) ≤ (k : Int) := by omega
      have i3 : (k : Int) ≤ (c : Int) := by omega
      have i4 : ¬ (c : Int) = 1 := by omega
      have i5 : ¬ c = 1 := by omega
      clear h2' hb2
      go_wp2_with fail
      go_loopw [65] (fun i wr => ∃ j : Nat, j ≤ k - 1 ∧ i = .int .i64 j ∧ Lib.IsBuilder 99 5 w.heap.size w.heap.size (Lib.byteCells (x0.data.toList ++ (R.take j).flatMap (fun y => 32 :: y))) wr ∧ Only NoneOf w wr) (fun i _ => k - 1 - (intOf i).toNat)
      case atStart => exact ⟨0, Nat.zero_le _, rfl, by simpa using H2.out, HO2.out⟩
      case round =>
        obtain ⟨j, hj, rfl, hb, ho⟩ := hrel
        have HB := Lib.hid hb
        have HO := Lib.hid ho
        clear hb ho
        have hpl : (x0.data.toList ++ (R.take j).flatMap (fun y => 32 :: y)).length ≤ x0.size + (k - 1) + lenAll R := by
          rw [List.length_append, tail_len, List.length_take, ← size_list]
          have := lenAll_take R j
          have := HRL.out
          omega
        by_cases hjr : j < k - 1
        · obtain ⟨y, hy⟩ : ∃ y, r[j]? = some y := ⟨_, List.getElem?_eq_getElem (by rw [HRK.out]; exact hjr)⟩
          have hcy := HCELL.out (j + 1) y (by simpa using hy)
          have hcy2 : wr.cell? ⟨bk, o + 1 + j, none⟩ = some (.string y) := by
            rw [show o + 1 + j = o + (j + 1) by omega]
            exact HO.out.cell_some hcy (fun e => e)
          have hRy : R[j]? = some y.data.toList := by rw [ER.out, List.getElem?_map, hy]; rfl
          have hnx : (R.take (j + 1)).flatMap (fun y => 32 :: y) = (R.take j).flatMap (fun y => 32 :: y) ++ (32 :: y.data.toList) := by
            rw [List.take_add_one, hRy, Option.toList_some, List.flatMap_append]; simp
          have hys : (x0.data.toList ++ (R.take j).flatMap (fun y => 32 :: y)).length + 1 + y.size ≤ 140737488355328 := by
            have h1 := lenAll_take R (j + 1)
            rw [List.take_add_one, hRy, Option.toList_some, lenAll_snoc, ← size_list] at h1
            rw [List.length_append, tail_len, List.length_take, ← size_list]
            have := HRL.out
            omega
          have ij : (j : Int) < ((k - 1 : Nat) : Int) := by omega
          have HNX := Lib.hid hnx
          clear hy hcy hRy hnx
          go_wp2_with fail
          refine (bwrite_any HB.out (by rw [e1]; omega) HO.out.size).mono ?_
          rintro e w3 ⟨rfl, h3, hb3⟩
          have H3 := Lib.hid h3
          have HO3 := Lib.hid (HO.out.below' hb3 (Nat.le_refl _))
          clear h3 hb3
          go_wp2_with fail
          refine (bwrite_any H3.out (by rw [List.length_append]; show _ + 1 + _ ≤ _; omega) HO3.out.size).mono ?_
          rintro e w4 ⟨rfl, h4, hb4⟩
          have hcat : x0.data.toList ++ (R.take j).flatMap (fun y => 32 :: y) ++ (⟨#[32]⟩ : ByteArray).data.toList ++ y.data.toList = x0.data.toList ++ (R.take (j + 1)).flatMap (fun y => 32 :: y) := by
            rw [HNX.out]
            simp
          rw [hcat] at h4
          have H4 := Lib.hid h4
          have HO4 := Lib.hid (HO3.out.below' hb4 (Nat.le_refl _))
          clear h4 hb4 hcat
          go_wp2_with fail
          go_roundw
          case rel => exact ⟨j + 1, by omega, by go_num, H4.out, HO4.out⟩
          case measure => simp [intOf]; omega
        · obtain rfl : j = k - 1 := by omega
          have hall : R.take (k - 1) = R := List.take_of_length_le (by rw [HRL.out]; exact Nat.le_refl _)
          rw [hall] at HB
          clear hall hpl
          go_wp2_with fail
          refine (Tryz.Builder_String_any w.heap.size w.heap.size _ wr HB.out HO.out.size).mono ?_
          rintro e w5 ⟨rfl, hbel⟩
          have HO5 := Lib.hid (HO.out.below' hbel (Nat.le_refl _))
          clear hbel
          go_wp2_with fail
          go_ret
          exact RetStr.mk (by rw [List.map_cons, joinW, ← ER.out]) HO5.out
end Go.Proofs.YtclpebgjmgfigaaGreatDoor
