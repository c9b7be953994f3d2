/- What is proved here: the reference's text of an event. Conditions: name and text are short. -/
import Derived.Test.YtclpebgjmgfigaaGreatDoorEvP
namespace Go.Proofs.YtclpebgjmgfigaaGreatDoor
open Go.RowKit Go.Shelf
attribute [local go_sem ↓ high] evStore_eq evLoad_eq
/-- Numbers, each with a blank ahead of it. -/
def preL (ns : List Int) : List UInt8 := ns.flatMap fun n => 32 :: Lib.itoa n
theorem preL_nums : ∀ ns : List Int, ns ≠ [] → preL ns = 32 :: numsL ns
  | [], h => absurd rfl h
  | [n], _ => by simp [preL, numsL]
  | n :: m :: l, _ => by
    have ih := preL_nums (m :: l) (by simp)
    unfold preL at ih ⊢
    rw [List.flatMap_cons, ih, numsL]
    simp
theorem preL_len (ns : List Int) (h : ∀ n ∈ ns, In n) : (preL ns).length ≤ 22 * ns.length := by
  induction ns with
  | nil => simp [preL]
  | cons n l ih =>
    have h1 := itoa_len (h n (by simp)).1 (h n (by simp)).2
    have h2 := ih (fun x hx => h x (by simp [hx]))
    unfold preL at h2 ⊢
    rw [List.flatMap_cons, List.length_append, List.length_cons, List.length_cons]
    omega
theorem preL_snoc (ns : List Int) (k : Nat) (x : Int) (hx : ns[k]? = some x) : preL (ns.take (k + 1)) = preL (ns.take k) ++ 32 :: Lib.itoa x := by
  unfold preL
  rw [List.take_add_one, hx, Option.toList_some, List.flatMap_append]
  simp
set_option maxRecDepth 100000 in
set_option maxHeartbeats 2000000 in
theorem rtext_any (e : Ev) (he : e.Ok) (hn : e.name.size ≤ 8796093022208) (hx : e.text.size ≤ 8796093022208) (w : World) : Calls Tryz.prog 12 #[.agg (evC e).toArray] w (RetStr (evText e) w) := by
  have hat : EvAt (w.alloc (.cells (evC e).toArray tEv)) w.heap.size e := Blk.new w _ _
  have hox : Only NoneOf w (w.alloc (.cells (evC e).toArray tEv)) := (Only.refl _ _).alloc _
  have hld := ev_load hat he.prev
  have HAT := Lib.hid hat
  have HOX := Lib.hid hox
  have HE := Lib.hid he
  have HN := Lib.hid hn
  have HX := Lib.hid hx
  clear hat hox he hn hx
  go_enter Tryz.func12, Tryz.ntmps12
  go_wp2_with fail
  refine (rnumbers_any e _).mono ?_
  rintro e1 w1 ⟨g, rfl, hg, hi, ho⟩
  have hat1 := HAT.out.only ho (fun e => e)
  obtain ⟨B, eB⟩ : ∃ B, B = w.heap.size := ⟨_, rfl⟩
  rw [← eB] at hat1 ⊢
  have HAT1 := Lib.hid hat1
  have HI := Lib.hid hi
  have HO1 := Lib.hid (HOX.out.trans ho)
  clear hat1 hi ho HAT HOX hld eB
  go_wp2_with fail
  go_loopw [3, 5] (fun v i wr => ∃ (k : Nat) (s : ByteArray), i = .int .i64 k ∧ v = .string s ∧ k ≤ 10 ∧ s.data.toList = evWord.data.toList ++ preL (e.nums.take k) ∧ Only NoneOf w1 wr) (fun _ i _ => 10 - (intOf i).toNat)
  case atStart => exact ⟨0, evWord, rfl, rfl, by omega, by simp [preL], Only.refl _ _⟩
  case round =>
    obtain ⟨k, s, rfl, rfl, hk, hs, ho⟩ := hrel
    have HO := Lib.hid ho
    have HS := Lib.hid hs
    clear ho hs
    by_cases hlt : k < 10
    · obtain ⟨x, hx⟩ : ∃ x, e.nums[k]? = some x := ⟨_, List.getElem?_eq_getElem hlt⟩
      have hc := HO.out.cell_some (HI.out k x hx) (fun e => e)
      have hix := HE.out.nums_in x (List.mem_of_getElem? hx)
      have hsl : s.size ≤ 300 := by
        have h1 := preL_len (e.nums.take k) (fun y hy => HE.out.nums_in y (List.mem_of_mem_take hy))
        have h2 := List.length_take_le k e.nums
        rw [size_list, HS.out, List.length_append]
        have h3 : evWord.data.toList.length = 5 := rfl
        omega
      have HNX := Lib.hid (preL_snoc e.nums k x hx)
      have ik : (k : Int) < 10 := by omega
      have hs1 : s.size + 1 ≤ 9223372036854775807 := by omega
      have HIX := Lib.hid hix
      clear hx hix
      go_wp2_with fail
      refine (rnumber_any x (HIX.out).1 (HIX.out).2 wr).mono ?_
      rintro e2 w2 ⟨t, rfl, htl, ho2⟩
      have hil := itoa_len (HIX.out).1 (HIX.out).2
      rw [← htl, ← size_list] at hil
      have hs2 : s.size + 1 + t.size ≤ 9223372036854775807 := by omega
      have HT := Lib.hid htl
      have HO2 := Lib.hid (HO.out.trans ho2)
      clear htl ho2 hil
      go_wp2_with fail
      go_roundw
      case rel =>
        refine ⟨k + 1, _, by go_num, rfl, by omega, ?_, HO2.out⟩
        rw [HNX.out, ← HT.out, ByteArray.data_append, ByteArray.data_append, Array.toList_append, Array.toList_append, HS.out]
        simp
      case measure => simp [intOf]; omega
    · obtain rfl : k = 10 := by omega
      have ik : ¬ ((10 : Nat) : Int) < 10 := by omega
      have hall : e.nums.take 10 = e.nums := List.take_of_length_le (Nat.le_refl _)
      rw [hall, preL_nums _ (by simp [Ev.nums])] at HS
      have hsl : s.size ≤ 300 := by
        have h1 := numsL_len e.nums HE.out.nums_in
        have h2 : e.nums.length = 10 := rfl
        have h3 : evWord.data.toList.length = 5 := rfl
        rw [size_list, HS.out, List.length_append, List.length_cons]
        omega
      have hat2 := HAT1.out.only HO.out (fun e => e)
      have hS : EvAt wr B e ∧ wr.rangeAt B 12 (e.prev.map bv) ∧ Only NoneOf w wr := ⟨hat2, ev_range hat2, HO1.out.trans HO.out⟩
      have c8 : ∀ W, EvAt W B e ∧ W.rangeAt B 12 (e.prev.map bv) ∧ Only NoneOf w W → W.cell? ⟨B, 8, none⟩ = some (.string e.name) := fun W h => ev_cell h.1 8
      have c9 : ∀ W, EvAt W B e ∧ W.rangeAt B 12 (e.prev.map bv) ∧ Only NoneOf w W → W.cell? ⟨B, 9, none⟩ = some (.string e.text) := fun W h => ev_cell h.1 9
      have HS2 := Lib.hid hS
      clear hat2 hS
      have hu := Tryz.underlying25
      have hi := (show (Tryz.prog.info? 25).map (·.size) = some (e.prev.map bv).length by rw [List.length_map, HE.out.prev]; kernel_rfl)
      have HKEEP : Hid (∀ W W', EvAt W B e ∧ W.rangeAt B 12 (e.prev.map bv) ∧ Only NoneOf w W → Only NoneOf W W' → EvAt W' B e ∧ W'.rangeAt B 12 (e.prev.map bv) ∧ Only NoneOf w W') := Lib.hid (fun W W' h ho => ⟨h.1.only ho (fun e => e), ev_range (h.1.only ho (fun e => e)), h.2.2.trans ho⟩)
      have hS := HKEEP.out _ _ HS2.out (Only.refl _ _).drew
      have hN := HN.out
      have hX := HX.out
      obtain ⟨A2, hA2⟩ : ∃ A : ByteArray, A.data.toList = hexL e.prev := ⟨⟨(hexL e.prev).toArray⟩, by simp⟩
      obtain ⟨A3, hA3⟩ : ∃ A : ByteArray, A.data.toList = quoL e.name.data.toList := ⟨⟨(quoL e.name.data.toList).toArray⟩, by simp⟩
      obtain ⟨A4, hA4⟩ : ∃ A : ByteArray, A.data.toList = quoL e.text.data.toList := ⟨⟨(quoL e.text.data.toList).toArray⟩, by simp⟩
      have z2 : A2.size = 64 := by rw [size_list, hA2, hexL_len, HE.out.prev]
      have z3 : A3.size ≤ e.name.size + 22 := by
        have h := quoL_len e.name.data.toList (by rw [← size_list]; omega)
        rw [← hA3, ← size_list, ← size_list] at h; exact h
      have z4 : A4.size ≤ e.text.size + 22 := by
        have h := quoL_len e.text.data.toList (by rw [← size_list]; omega)
        rw [← hA4, ← size_list, ← size_list] at h; exact h
      have y1 : ¬ 9223372036854775807 < s.size + 1 := by omega
      have y2 : ¬ 9223372036854775807 < s.size + 1 + A2.size := by omega
      have y3 : ¬ 9223372036854775807 < s.size + 1 + A2.size + 1 := by omega
      have y4 : ¬ 9223372036854775807 < s.size + 1 + A2.size + 1 + A3.size := by omega
      have y5 : ¬ 9223372036854775807 < s.size + 1 + A2.size + 1 + A3.size + 1 := by omega
      have y6 : ¬ 9223372036854775807 < s.size + 1 + A2.size + 1 + A3.size + 1 + A4.size := by omega
      have f2 : ∀ W, Calls Tryz.prog 35 #[.agg (e.prev.map bv).toArray] W (fun e' w' => e' = .returned (.string A2) ∧ Only NoneOf W w') := fun W => (rtext09_any e.prev HE.out.prev W).mono (by rintro e' w' ⟨t, rfl, ht, ho⟩; exact ⟨by rw [bytes_ext (ht.trans hA2.symm)], ho⟩)
      have f3 : ∀ W, Calls Tryz.prog 36 #[.string e.name] W (fun e' w' => e' = .returned (.string A3) ∧ Only NoneOf W w') := fun W => (rstr_any e.name hN W).mono (by rintro e' w' ⟨t, rfl, ht, ho⟩; exact ⟨by rw [bytes_ext (ht.trans hA3.symm)], ho⟩)
      have f4 : ∀ W, Calls Tryz.prog 36 #[.string e.text] W (fun e' w' => e' = .returned (.string A4) ∧ Only NoneOf W w') := fun W => (rstr_any e.text hX W).mono (by rintro e' w' ⟨t, rfl, ht, ho⟩; exact ⟨by rw [bytes_ext (ht.trans hA4.symm)], ho⟩)
      have F2 := Lib.hid f2
      have F3 := Lib.hid f3
      have F4 := Lib.hid f4
      have HA2 := Lib.hid hA2
      have HA3 := Lib.hid hA3
      have HA4 := Lib.hid hA4
      clear f2 f3 f4 hA2 hA3 hA4 z2 z3 z4 hN hX hsl
      go_upto_region 7 with (fail)
      go_region_held3 (fun w' => EvAt w' B e ∧ w'.rangeAt B 12 (e.prev.map bv) ∧ Only NoneOf w w') (first | assumption)
        (first
          | (go_at_call 35; refine (F2.out _).mono ?_; rintro e2 w2 ⟨rfl, ho2⟩; have hS2 := HKEEP.out _ _ (by assumption) ho2; clear ho2)
          | (go_at_call 36; (with_reducible refine (F3.out _).mono ?_); rintro e3 w3 ⟨rfl, ho3⟩; have hS3 := HKEEP.out _ _ (by assumption) ho3; clear ho3)
          | (go_at_call 36; (with_reducible refine (F4.out _).mono ?_); rintro e4 w4 ⟨rfl, ho4⟩; have hS4 := HKEEP.out _ _ (by assumption) ho4; clear ho4))
      go_wp2_with fail
      refine ⟨rfl, _, results_tmp rfl _ _ _, ?_⟩
      refine RetStr.mk ?_ hS4.2.2
      rw [evText]
      simp only [ByteArray.data_append, Array.toList_append, HA2.out, HA3.out, HA4.out, HS.out]
      simp [evWord]
end Go.Proofs.YtclpebgjmgfigaaGreatDoor
