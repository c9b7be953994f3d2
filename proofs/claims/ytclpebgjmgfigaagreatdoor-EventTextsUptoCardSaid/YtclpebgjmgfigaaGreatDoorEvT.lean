/- What is proved here: the law on texts, codes and hashes of events answers true. Conditions: the library's table reads as its initialiser lays it; name and text are short. -/
import Derived.Test.YtclpebgjmgfigaaGreatDoorEvS
namespace Go.Proofs.YtclpebgjmgfigaaGreatDoor
open Go.RowKit Go.Shelf
attribute [local go_sem ↓ high] evLoad_eq
set_option maxRecDepth 100000 in
set_option maxHeartbeats 4000000 in
theorem etexts_law (e : Ev) (he : e.Ok) (hb : e.name.size + e.text.size ≤ 1048576) (w : World) (hE : Env3 w) : Calls Tryz.prog 3 #[.agg (evC e).toArray] w fun e' w' => e' = .returned (.bool true) ∧ Only NoneOf w w' := by
  have hn : e.name.size ≤ 8796093022208 := by omega
  have hx : e.text.size ≤ 8796093022208 := by omega
  obtain ⟨B, eB⟩ : ∃ B, B = w.heap.size := ⟨_, rfl⟩
  obtain ⟨X, eX⟩ : ∃ X, X = w.alloc (.cells (evC e).toArray tEv) := ⟨_, rfl⟩
  have hat : EvAt X B e := by rw [eX, eB]; exact Blk.new w _ _
  have hox : Only NoneOf w X := by rw [eX]; exact (Only.refl _ _).alloc _
  have hS : EvAt X B e ∧ Only NoneOf w X := ⟨hat, hox⟩
  have cld : ∀ W, EvAt W B e ∧ Only NoneOf w W → (evLoad (.pointer (some ⟨B, 0, none⟩))).run Tryz.prog W = .ok (.agg (evC e).toArray) W := fun W h => ev_load h.1 he.prev
  obtain ⟨A2, hA2⟩ : ∃ A : ByteArray, A.data.toList = evText e := ⟨⟨(evText e).toArray⟩, by simp⟩
  obtain ⟨A3, hA3⟩ : ∃ A : ByteArray, A.data.toList = evCode e := ⟨⟨(evCode e).toArray⟩, by simp⟩
  have zh := fun W => eql_hash (hashE e) (hashE e) (hashE_len e) (hashE_len e) W
  rw [show (hashE e == hashE e) = true from by simp] at zh
  have tab : ∀ W, EvAt W B e ∧ Only NoneOf w W → Tab W := fun W h => hE.tab.none h.2
  have f1 : ∀ W, EvAt W B e ∧ Only NoneOf w W → Calls Tryz.prog 11 #[.agg (evC e).toArray] W (fun e' w' => e' = .returned (.string A2) ∧ Only NoneOf W w') := fun W h => (etext_any e he hn hx W (tab W h)).mono (by rintro e' w' ⟨t, rfl, ht, ho⟩; exact ⟨by rw [bytes_ext (ht.trans hA2.symm)], ho⟩)
  have f2 : ∀ W, Calls Tryz.prog 12 #[.agg (evC e).toArray] W (fun e' w' => e' = .returned (.string A2) ∧ Only NoneOf W w') := fun W => (rtext_any e he hn hx W).mono (by rintro e' w' ⟨t, rfl, ht, ho⟩; exact ⟨by rw [bytes_ext (ht.trans hA2.symm)], ho⟩)
  have f3 : ∀ W, EvAt W B e ∧ Only NoneOf w W → Calls Tryz.prog 13 #[.agg (evC e).toArray] W (fun e' w' => e' = .returned (.string A3) ∧ Only NoneOf W w') := fun W h => (eencode_any e he hn hx W (tab W h)).mono (by rintro e' w' ⟨t, rfl, ht, ho⟩; exact ⟨by rw [bytes_ext (ht.trans hA3.symm)], ho⟩)
  have f4 : ∀ W, Calls Tryz.prog 14 #[.agg (evC e).toArray] W (fun e' w' => e' = .returned (.string A3) ∧ Only NoneOf W w') := fun W => (rencode_any e he hn hx W).mono (by rintro e' w' ⟨t, rfl, ht, ho⟩; exact ⟨by rw [bytes_ext (ht.trans hA3.symm)], ho⟩)
  have f5 : ∀ W, EvAt W B e ∧ Only NoneOf w W → Calls Tryz.prog 15 #[.agg (evC e).toArray] W (fun e' w' => e' = .returned (.agg ((hashE e).map bv).toArray) ∧ Only NoneOf W w') := fun W h => ehash_any e he hn hx W (tab W h)
  have f6 : ∀ W, Calls Tryz.prog 16 #[.agg (evC e).toArray] W (fun e' w' => e' = .returned (.agg ((hashE e).map bv).toArray) ∧ Only NoneOf W w') := fun W => rhash_any e he hn hx W
  have HS := Lib.hid hS
  have HE := Lib.hid hE
  have F1 := Lib.hid f1
  have F2 := Lib.hid f2
  have F3 := Lib.hid f3
  have F4 := Lib.hid f4
  have F5 := Lib.hid f5
  have F6 := Lib.hid f6
  have EX := Lib.hid eX
  have EB := Lib.hid eB
  have HKEEP : Hid (∀ W W', EvAt W B e ∧ Only NoneOf w W → Only NoneOf W W' → EvAt W' B e ∧ Only NoneOf w W') := Lib.hid (fun W W' h ho => ⟨h.1.only ho (fun e => e), h.2.trans ho⟩)
  clear hat hox hS f1 f2 f3 f4 f5 f6 eX eB he hn hx hA2 hA3 tab hE hb
  go_enter Tryz.func3, Tryz.ntmps3
  go_wp2_with fail
  rw [← EX.out, ← EB.out]
  clear EX EB
  refine (sanity_any X (HE.out.none HS.out.2)).mono ?_
  rintro e1 w1 ⟨rfl, ho1⟩
  have hS := HKEEP.out _ _ (HKEEP.out _ _ HS.out ho1) (Only.refl _ _).drew
  clear ho1
  go_upto_region 2 with (fail)
  go_region_held3 (fun w' => EvAt w' B e ∧ Only NoneOf w w') (first | assumption)
    (first
      | (go_at_call 11; refine (F1.out _ (by assumption)).mono ?_; rintro e2 w2 ⟨rfl, ho2⟩; have hS2 := HKEEP.out _ _ (by assumption) ho2; clear ho2)
      | (go_at_call 12; refine (F2.out _).mono ?_; rintro e2 w2 ⟨rfl, ho2⟩; have hS2 := HKEEP.out _ _ (by assumption) ho2; clear ho2)
      | (go_at_call 13; refine (F3.out _ (by assumption)).mono ?_; rintro e2 w2 ⟨rfl, ho2⟩; have hS2 := HKEEP.out _ _ (by assumption) ho2; clear ho2)
      | (go_at_call 14; refine (F4.out _).mono ?_; rintro e2 w2 ⟨rfl, ho2⟩; have hS2 := HKEEP.out _ _ (by assumption) ho2; clear ho2)
      | (go_at_call 15; refine (F5.out _ (by assumption)).mono ?_; rintro e2 w2 ⟨rfl, ho2⟩; have hS2 := HKEEP.out _ _ (by assumption) ho2; clear ho2)
      | (go_at_call 16; refine (F6.out _).mono ?_; rintro e2 w2 ⟨rfl, ho2⟩; have hS2 := HKEEP.out _ _ (by assumption) ho2; clear ho2))
  go_wp2_with fail
  go_ret
  exact ⟨rfl, hS2.2⟩
end Go.Proofs.YtclpebgjmgfigaaGreatDoor
