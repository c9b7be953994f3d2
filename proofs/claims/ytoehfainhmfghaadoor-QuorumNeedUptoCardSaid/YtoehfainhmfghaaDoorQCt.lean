/- What is proved here: which votes count, by the program's closures and by the reference. Conditions: the numbers are ints, roots have 32 bytes; for the program the table of powers of ten reads as its initialiser lays it. -/
import Derived.Test.YtoehfainhmfghaaDoorQOf
import Derived.Test.YtoehfainhmfghaaDoorQTx
import Derived.Test.YtoehfainhmfghaaDoorM8
import Derived.BigQuiet
import Derived.Deep.QuietTactic
namespace Go.Proofs.YtoehfainhmfghaaDoor
open Go.RowKit Go.Shelf
attribute [local go_sem ↓ high] hdLoad_eq vtLoad_eq sgLoad_eq hdStore_eq hdNew_eq
/-- What lies there of a person and a vote. -/
structure CtS (w : World) (B : Nat) (p : Pers) (v : Vt) (W : World) : Prop where
  p : Blk W B 45 #[.int .i64 p.id, .int .i64 p.role, .int .i64 p.pub]
  v : VtAt W (B + 1) v
  only : Only NoneOf w W
/-- A vote counts for one of these officers. -/
noncomputable def cntO (O : List Pers) (v : Vt) : Bool :=
  match O.find? (fun p => p.id == v.who) with
  | some p => goodB p.pub (hdText v.head) v.r v.s
  | none => false
/-- The keys by the Ids. -/
noncomputable def keyF (O : List Pers) : Value → Option Value := fun x => (O.find? (fun p => eqv x (.int .i64 p.id))).map (fun p => .int .i64 p.pub)
theorem eqv_int (a b : Int) : eqv (.int .i64 a) (.int .i64 b) = (b == a) := by
  rw [Bool.eq_iff_iff, eqv_true, beq_iff_eq]
  constructor
  · intro h; cases h; rfl
  · rintro rfl; rfl
theorem keyF_int (O : List Pers) (id : Int) : keyF O (.int .i64 id) = (O.find? (fun p => p.id == id)).map (fun p => .int .i64 p.pub) := by
  unfold keyF
  congr 2
  funext p
  exact eqv_int id p.id
theorem keyF_nil : keyF [] = fun _ => none := rfl
theorem keyF_put {O : List Pers} {p : Pers} (h : ∀ q ∈ O, q.id ≠ p.id) (x : Value) : put1 (keyF O) (.int .i64 p.id) (.int .i64 p.pub) x = keyF (O ++ [p]) x := by
  unfold keyF
  rw [List.find?_append]
  by_cases e : x = .int .i64 p.id
  · subst e
    rw [put1_same]
    have hn : O.find? (fun q => eqv (.int .i64 p.id) (.int .i64 q.id)) = none := by
      rw [List.find?_eq_none]
      intro q hq
      rw [eqv_int]
      simpa using h q hq
    rw [hn]
    simp [eqv_self]
  · rw [put1_other e]
    have : [p].find? (fun q => eqv x (.int .i64 q.id)) = none := by simp [eqv_false.2 e]
    rw [this, Option.or_none]
theorem zero_int (w : World) : (zeroValue 3).run Tryd.prog w = .ok (.int .i64 0) w := by kernel_rfl
/-- What lies there when a vote is looked at. -/
structure Q1S (w : World) (B kc b : Nat) (v : Vt) (W : World) : Prop where
  v : VtAt W B v
  only : Only NoneOf w W
set_option maxRecDepth 100000 in
set_option maxHeartbeats 2000000 in
theorem qcounts_any (O : List Pers) (hO : PersOk O) (v : Vt) (vo : v.Ok) (kc b n : Nat) (w : World) (hm : MapV w Tryd.prog 3 b n (keyF O)) (hc : w.cell? ⟨kc, 0, none⟩ = some (.map (some b))) (ht : Tab w) :
    Calls Tryd.prog 44 #[.agg (vtC v).toArray, .pointer (some ⟨kc, 0, none⟩)] w fun e w' => e = .returned (.bool (cntO O v)) ∧ Only NoneOf w w' := by
  obtain ⟨B, eB⟩ : ∃ B, B = w.heap.size := ⟨_, rfl⟩
  have hkc := World.block_lt_of_cell? w _ hc
  have hlk : ∀ o, (Instr.lookup 82 (.map (some b)) (.int .i64 v.who) true).run Tryd.prog (w.alloc o) = .ok (.tuple #[((keyF O (.int .i64 v.who)).getD (.int .i64 0)), .bool (keyF O (.int .i64 v.who)).isSome]) (w.alloc o) := fun o =>
    MapV.look_ok (hm.only ((Only.refl NoneOf _).alloc o) (fun e => e)) int_law Tryd.underlying82 (zero_int _) (key_int vo.who)
  have hX : VtAt (w.alloc (.cells (vtC v).toArray tVt)) B v := by rw [eB]; exact Blk.new w _ _
  have cX : (w.alloc (.cells (vtC v).toArray tVt)).cell? ⟨kc, 0, none⟩ = some (.map (some b)) := ((Only.refl NoneOf w).alloc _).cell_some hc (fun e => e)
  have oX : Only NoneOf w (w.alloc (.cells (vtC v).toArray tVt)) := (Only.refl NoneOf w).alloc _
  have x0 : (w.alloc (.cells (vtC v).toArray tVt)).cell? ⟨B, 0, none⟩ = some (.int .i64 v.who) := hX.cell 0
  have hl := vo.head.root
  rw [keyF_int] at hlk
  have HC : Hid (cntO O v = match O.find? (fun p => p.id == v.who) with | some p => goodB p.pub (hdText v.head) v.r v.s | none => false) := Lib.hid rfl
  cases hf : O.find? (fun p => p.id == v.who) with
  | none =>
    rw [hf] at HC hlk
    have hcn : cntO O v = false := HC.out
    rw [hcn]
    simp only [Option.map_none, Option.getD_none, Option.isSome_none] at hlk
    have HOX := Lib.hid oX
    have EB := Lib.hid eB
    clear hcn HC hf hm hc hX ht oX hkc hl vo hO eB
    go_enter Tryd.func44, Tryd.ntmps44
    rw [EB.out] at x0
    go_upto_region 2 with (fail)
    go_quiet (fail)
    all_goals
      go_wp2_with fail
      go_ret
      exact ⟨rfl, HOX.out.drewN _⟩
  | some p =>
    have hpm := List.mem_of_find?_eq_some hf
    have po := hO p hpm
    rw [hf] at HC hlk
    obtain ⟨γ, hγ⟩ : ∃ γ, γ = goodB p.pub (hdText v.head) v.r v.s := ⟨_, rfl⟩
    have hcn : cntO O v = γ := by rw [hγ]; exact HC.out
    rw [hcn]
    simp only [Option.map_some, Option.getD_some, Option.isSome_some] at hlk
    obtain ⟨T1, hT1⟩ : ∃ A : ByteArray, A = hdT v.head := ⟨_, rfl⟩
    have z1 : T1.size ≤ 100 := by rw [hT1]; exact hdT_size vo.head
    have f1 : ∀ W, Only NoneOf w W → Calls Tryd.prog 10 #[.agg (hdC v.head).toArray] W (fun e' w' => e' = .returned (.string T1) ∧ Only NoneOf W w') := fun W ho => by rw [hT1]; exact qtext_any v.head vo.head W (ht.none ho)
    have f2 : ∀ W, Calls Tryd.prog 45 #[.int .i64 p.pub, .string T1, sgv v.r v.s] W (fun e' w' => e' = .returned (.bool γ) ∧ Only NoneOf W w') := fun W => by
      have h := sverify_any p.pub v.r v.s T1 W (by omega) po.pub.1 po.pub.2 vo.r.1 vo.r.2
      rw [hT1, hdT_list, ← hγ] at h
      rw [hT1]; exact h
    have hS : Q1S w B kc b v (w.alloc (.cells (vtC v).toArray tVt)).drew := ⟨hX.drew, oX.drew⟩
    have v1 : ∀ W, Q1S w B kc b v W → (hdLoad (.pointer (some ⟨B, 1, none⟩))).run Tryd.prog W = .ok (.agg (hdC v.head).toArray) W := fun W h => hd_load (range_head (blk_range h.v) hl) hl
    have v2 : ∀ W, Q1S w B kc b v W → (sgLoad (.pointer (some ⟨B, 34, none⟩))).run Tryd.prog W = .ok (sgv v.r v.s) W := fun W h => sg_load (range_sig (blk_range h.v) hl)
    have HA := Lib.hid f1
    have HB := Lib.hid f2
    have EB := Lib.hid eB
    have HOUT : Hid (∀ W, Q1S w B kc b v W → Only NoneOf w W) := Lib.hid (fun W hW => hW.only)
    have HKEEP : Hid (∀ W W', Q1S w B kc b v W → Only NoneOf W W' → Q1S w B kc b v W') := Lib.hid (fun W W' h ho => ⟨Blk.only h.v ho (fun e => e), h.only.trans ho⟩)
    clear f1 f2 hT1 hγ hcn HC hf hm hc hX oX hkc ht z1 hl po hO eB hpm vo
    go_enter Tryd.func44, Tryd.ntmps44
    rw [EB.out] at x0
    go_upto_region 2 with (fail)
    rw [← EB.out]
    go_region_held3 (fun w' => Q1S w B kc b v w') (first | assumption)
      (first
        | (go_at_call 10; refine (HA.out _ (HOUT.out _ (by assumption))).mono ?_; rintro e1 w1 ⟨rfl, ho1⟩; have hS1 := HKEEP.out _ _ (by assumption) ho1; clear ho1)
        | (go_at_call 45; refine (HB.out _).mono ?_; rintro e2 w2 ⟨rfl, ho2⟩; have hS2 := HKEEP.out _ _ (by assumption) ho2; clear ho2))
    all_goals
      go_wp2_with fail
      go_ret
      exact ⟨rfl, HOUT.out _ (by assumption)⟩
end Go.Proofs.YtoehfainhmfghaaDoor
