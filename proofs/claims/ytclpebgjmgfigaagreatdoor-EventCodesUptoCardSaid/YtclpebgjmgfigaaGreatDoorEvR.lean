/- What is proved here: codes of events, by the reference. Conditions: names and texts are short. -/
import Derived.Test.YtclpebgjmgfigaaGreatDoorEvQ
namespace Go.Proofs.YtclpebgjmgfigaaGreatDoor
open Go.RowKit Go.Shelf
attribute [local go_sem ↓ high] evLoad_eq
set_option maxRecDepth 100000 in
set_option maxHeartbeats 4000000 in
theorem rencode_any (e : Ev) (he : e.Ok) (hn : e.name.size ≤ 8796093022208) (hx : e.text.size ≤ 8796093022208) (w : World) : Calls Tryz.prog 14 #[.agg (evC e).toArray] w (RetStr (evCode e) w) := by
  obtain ⟨B, eB⟩ : ∃ B, B = w.heap.size := ⟨_, rfl⟩
  obtain ⟨X, eX⟩ : ∃ X, X = w.alloc (.cells (evC e).toArray tEv) := ⟨_, rfl⟩
  have hat : EvAt X B e := by rw [eX, eB]; exact Blk.new w _ _
  have hox : Only NoneOf w X := by rw [eX]; exact (Only.refl _ _).alloc _
  have hS : EvAt X.drew B e ∧ Only NoneOf w X.drew := ⟨hat.drew, hox.drew⟩
  have c44 : ∀ W, EvAt W B e ∧ Only NoneOf w W → W.cell? ⟨B, 44, none⟩ = some (.int .i64 e.r) := fun W h => (ev_sig h.1 he.prev).1
  have c45 : ∀ W, EvAt W B e ∧ Only NoneOf w W → W.cell? ⟨B, 45, none⟩ = some (.int .i64 e.s) := fun W h => (ev_sig h.1 he.prev).2
  have cld : ∀ W, EvAt W B e ∧ Only NoneOf w W → (evLoad (.pointer (some ⟨B, 0, none⟩))).run Tryz.prog W = .ok (.agg (evC e).toArray) W := fun W h => ev_load h.1 he.prev
  obtain ⟨A2, hA2⟩ : ∃ A : ByteArray, A.data.toList = Lib.itoa e.r := ⟨⟨(Lib.itoa e.r).toArray⟩, by simp⟩
  obtain ⟨A3, hA3⟩ : ∃ A : ByteArray, A.data.toList = Lib.itoa e.s := ⟨⟨(Lib.itoa e.s).toArray⟩, by simp⟩
  obtain ⟨A4, hA4⟩ : ∃ A : ByteArray, A.data.toList = evText e := ⟨⟨(evText e).toArray⟩, by simp⟩
  have z2 : A2.size ≤ 21 := by rw [size_list, hA2]; exact itoa_len he.r.1 he.r.2
  have z3 : A3.size ≤ 21 := by rw [size_list, hA3]; exact itoa_len he.s.1 he.s.2
  have z4 : A4.size ≤ 17592186044416 + 400 := by
    rw [size_list, hA4]
    have l1 := numsL_len e.nums he.nums_in
    have l2 := hexL_len e.prev
    have l3 := quoL_len e.name.data.toList (by rw [← size_list]; omega)
    have l4 := quoL_len e.text.data.toList (by rw [← size_list]; omega)
    rw [← size_list] at l3 l4
    rw [he.prev] at l2
    have l5 : e.nums.length = 10 := rfl
    unfold evText
    simp only [List.length_append, List.length_cons, List.length_nil]
    omega
  have y1 : ¬ 9223372036854775807 < A2.size + 1 := by omega
  have y2 : ¬ 9223372036854775807 < A2.size + 1 + A3.size := by omega
  have y3 : ¬ 9223372036854775807 < A2.size + 1 + A3.size + 1 := by omega
  have y4 : ¬ 9223372036854775807 < A2.size + 1 + A3.size + 1 + A4.size := by omega
  have f2 : ∀ W, Calls Tryz.prog 34 #[.int .i64 e.r] W (fun e' w' => e' = .returned (.string A2) ∧ Only NoneOf W w') := fun W => (rnumber_any e.r he.r.1 he.r.2 W).mono (by rintro e' w' ⟨t, rfl, ht, ho⟩; exact ⟨by rw [bytes_ext (ht.trans hA2.symm)], ho⟩)
  have f3 : ∀ W, Calls Tryz.prog 34 #[.int .i64 e.s] W (fun e' w' => e' = .returned (.string A3) ∧ Only NoneOf W w') := fun W => (rnumber_any e.s he.s.1 he.s.2 W).mono (by rintro e' w' ⟨t, rfl, ht, ho⟩; exact ⟨by rw [bytes_ext (ht.trans hA3.symm)], ho⟩)
  have f4 : ∀ W, Calls Tryz.prog 12 #[.agg (evC e).toArray] W (fun e' w' => e' = .returned (.string A4) ∧ Only NoneOf W w') := fun W => (rtext_any e he hn hx W).mono (by rintro e' w' ⟨t, rfl, ht, ho⟩; exact ⟨by rw [bytes_ext (ht.trans hA4.symm)], ho⟩)
  have hcode : A2.data.toList ++ [32] ++ A3.data.toList ++ [32] ++ A4.data.toList = evCode e := by
    rw [hA2, hA3, hA4]
    simp [evCode, numsL]
  have HCODE := Lib.hid hcode
  have HS := Lib.hid hS
  have F2 := Lib.hid f2
  have F3 := Lib.hid f3
  have F4 := Lib.hid f4
  have EX := Lib.hid eX
  have EB := Lib.hid eB
  have HKEEP : Hid (∀ W W', EvAt W B e ∧ Only NoneOf w W → Only NoneOf W W' → EvAt W' B e ∧ Only NoneOf w W') := Lib.hid (fun W W' h ho => ⟨h.1.only ho (fun e => e), h.2.trans ho⟩)
  clear hat hox hS f2 f3 f4 eX eB he hn hx z2 z3 z4 hA2 hA3 hA4 hcode
  go_enter Tryz.func14, Tryz.ntmps14
  go_wp2_with fail
  rw [← EX.out, ← EB.out]
  clear EX EB
  have hS := HS.out
  go_region_held3 (fun w' => EvAt w' B e ∧ Only NoneOf w w') (first | assumption)
    (first
      | (go_at_call 34; (with_reducible refine (F2.out _).mono ?_); rintro e2 w2 ⟨rfl, ho2⟩; have hS2 := HKEEP.out _ _ (by assumption) ho2; clear ho2)
      | (go_at_call 34; (with_reducible refine (F3.out _).mono ?_); rintro e3 w3 ⟨rfl, ho3⟩; have hS3 := HKEEP.out _ _ (by assumption) ho3; clear ho3)
      | (go_at_call 12; refine (F4.out _).mono ?_; rintro e4 w4 ⟨rfl, ho4⟩; have hS4 := HKEEP.out _ _ (by assumption) ho4; clear ho4))
  go_wp2_with fail
  refine ⟨rfl, _, results_tmp rfl _ _ _, ?_⟩
  refine RetStr.mk ?_ hS4.2
  rw [← HCODE.out]
  simp only [ByteArray.data_append, Array.toList_append]
end Go.Proofs.YtclpebgjmgfigaaGreatDoor
