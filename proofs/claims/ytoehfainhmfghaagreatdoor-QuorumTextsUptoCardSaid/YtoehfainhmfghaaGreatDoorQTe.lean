/- What is proved here: the law on texts of heads and votes answers true. Condition: the table of powers of ten reads as its initialiser lays it. -/
import Derived.Test.YtoehfainhmfghaaGreatDoorQSa
import Derived.Test.YtoehfainhmfghaaGreatDoorQEq
namespace Go.Proofs.YtoehfainhmfghaaGreatDoor
open Go.RowKit Go.Shelf
theorem aggHead (w : World) : (isAgg 25).run Tryz.prog w = .ok true w := by kernel_rfl
theorem sizeHead (w : World) : (sizeOf 25).run Tryz.prog w = .ok 33 w := by kernel_rfl
theorem aggSig (w : World) : (isAgg 28).run Tryz.prog w = .ok true w := by kernel_rfl
theorem sizeSig (w : World) : (sizeOf 28).run Tryz.prog w = .ok 2 w := by kernel_rfl
theorem fieldsSig : (Tryz.prog.fieldsOf 28).toList.map (fun f => (f.name, f.type, f.offset)) = [("R", 3, 0), ("S", 3, 1)] := by kernel_rfl
theorem eqSig {d : Nat} (a b a' b' : Int) (w : World) : (Op.equalIn (d + 2) 28 (.agg #[.int .i64 a, .int .i64 b]) (.agg #[.int .i64 a', .int .i64 b'])).run Tryz.prog w = .ok (a == a' && (b == b' && true)) w :=
  eq_struct (by kernel_rfl) (by kernel_rfl) fieldsSig (eqT_cons (by decide) (part_one (agg_int w) rfl) (part_one (agg_int w) rfl) (eq_int a a' w) (eqT_cons (by decide) (part_one (agg_int w) rfl) (part_one (agg_int w) rfl) (eq_int b b' w) eqT_nil))
theorem fields_vt : (Tryz.prog.fieldsOf 30).toList.map (fun f => (f.name, f.type, f.offset)) = [("Who", 3, 0), ("Head", 25, 1), ("Sig", 28, 34)] := by kernel_rfl
noncomputable def eqVt (a b : Vt) : Bool := @decide (a = b) (Classical.propDecidable _)
theorem eqVt_true {a b : Vt} : eqVt a b = true ↔ a = b := by unfold eqVt; simp
theorem vtC_part (v : Vt) (hl : v.head.root.length = 32) : (vtC v).toArray.extract 1 34 = (hdC v.head).toArray ∧ (vtC v).toArray.extract 34 36 = #[.int .i64 v.r, .int .i64 v.s] := by
  have h33 := hdC_len hl
  constructor
  · apply Array.toList_inj.1
    simp [vtC, List.extract_eq_take_drop]
    rw [List.take_append_of_le_length (by rw [h33]; exact Nat.le_refl _), List.take_of_length_le (by rw [h33]; exact Nat.le_refl _)]
  · apply Array.toList_inj.1
    simp [vtC, List.extract_eq_take_drop]
    rw [List.drop_append, h33, List.drop_of_length_le (by rw [h33]; exact Nat.le_refl _)]
    simp
set_option maxRecDepth 100000 in
theorem equal_vt (a b : Vt) (ha : a.head.root.length = 32) (hb : b.head.root.length = 32) (w : World) : (Op.equalIn 10000 30 (.agg (vtC a).toArray) (.agg (vtC b).toArray)).run Tryz.prog w = .ok (eqVt a b) w := by
  have ph : ∀ v : Vt, v.head.root.length = 32 → (Go.part 25 (vtC v).toArray 1).run Tryz.prog w = .ok (.agg (hdC v.head).toArray) w := fun v hl => by rw [part_agg (aggHead w) (sizeHead w), (vtC_part v hl).1]
  have ps : ∀ v : Vt, v.head.root.length = 32 → (Go.part 28 (vtC v).toArray 34).run Tryz.prog w = .ok (.agg #[.int .i64 v.r, .int .i64 v.s]) w := fun v hl => by rw [part_agg (aggSig w) (sizeSig w), (vtC_part v hl).2]
  have key := eq_struct (P := Tryz.prog) (w := w) (d := 9999) (t := 30) (xs := (vtC a).toArray) (ys := (vtC b).toArray) (by kernel_rfl) (by kernel_rfl) fields_vt
    (eqT_cons (by decide) (part_one (agg_int w) rfl) (part_one (agg_int w) rfl) (eq_int (d := 9998) _ _ w)
      (eqT_cons (by decide) (ph a ha) (ph b hb) (equal_hd (d := 9996) a.head b.head ha hb w)
        (eqT_cons (by decide) (ps a ha) (ps b hb) (eqSig (d := 9997) _ _ _ _ w) eqT_nil)))
  refine key.trans ?_
  congr 1
  rw [Bool.eq_iff_iff, eqVt_true]
  obtain ⟨a1, a2, a3, a4⟩ := a
  obtain ⟨b1, b2, b3, b4⟩ := b
  simp [eqHd_true]
theorem eql_vt (a b : Vt) (ha : a.head.root.length = 32) (hb : b.head.root.length = 32) (w : World) : (binOp .eql 30 (.agg (vtC a).toArray) (.agg (vtC b).toArray)).run Tryz.prog w = .ok (.bool (eqVt a b)) w := by
  rw [run_eql_struct, equal_vt a b ha hb w]
  rfl
attribute [local go_sem ↓ high] hdLoad_eq vtLoad_eq vtNew_eq vtStore_eq
/-- What lies there of the head and its vote. -/
structure TeS (w : World) (B : Nat) (h : Hd) (V : Vt) (W : World) : Prop where
  h : HdAt W B h
  v : ∃ B', VtAt W B' V
  only : Only NoneOf w W
set_option maxRecDepth 100000 in
set_option maxHeartbeats 4000000 in
theorem qtexts_law (h : Hd) (ok : h.Ok) (who sec : Int) (iw : In who) (w : World) (ht : Tab w) : Calls Tryz.prog 3 #[.agg (hdC h).toArray, .int .i64 who, .int .i64 sec] w fun e w' => e = .returned (.bool true) ∧ Only NoneOf w w' := by
  obtain ⟨B, eB⟩ : ∃ B, B = w.heap.size := ⟨_, rfl⟩
  obtain ⟨X, eX⟩ : ∃ X, X = w.alloc (.cells (hdC h).toArray 25) := ⟨_, rfl⟩
  have hb : HdAt X B h := by rw [eX, eB]; exact Blk.new w _ _
  have ho : Only NoneOf w X := by rw [eX]; exact (Only.refl _ _).alloc _
  obtain ⟨V, eV⟩ : ∃ V, V = voteOf who sec h := ⟨_, rfl⟩
  have vo : V.Ok := by rw [eV]; exact vote_ok iw ok
  obtain ⟨T1, eT⟩ : ∃ T1, T1 = hdT h := ⟨_, rfl⟩
  have hsa : ∀ W, Only NoneOf w W → Calls Tryz.prog 11 #[] W fun e w' => e = .returned (.bool true) ∧ Only NoneOf W w' := fun W ho => sanity29 W (ht.none ho)
  have f1 : ∀ W, Only NoneOf w W → Calls Tryz.prog 13 #[.agg (hdC h).toArray] W fun e w' => e = .returned (.string T1) ∧ Only NoneOf W w' := fun W ho => by rw [eT]; exact qtext_any h ok W (ht.none ho)
  have f2 : ∀ W, Calls Tryz.prog 14 #[.agg (hdC h).toArray] W fun e w' => e = .returned (.string T1) ∧ Only NoneOf W w' := fun W => by rw [eT]; exact rqtext_any h ok W
  have f3 : ∀ W, Only NoneOf w W → Calls Tryz.prog 12 #[.int .i64 who, .int .i64 sec, .agg (hdC h).toArray] W fun e w' => e = .returned (.agg (vtC V).toArray) ∧ Only NoneOf W w' := fun W ho => by rw [eV]; exact qvote_any who sec h ok W (ht.none ho)
  have f4 : ∀ W, Calls Tryz.prog 15 #[.int .i64 who, .int .i64 sec, .agg (hdC h).toArray] W fun e w' => e = .returned (.agg (vtC V).toArray) ∧ Only NoneOf W w' := fun W => by rw [eV]; exact rqvote_any who sec h ok W
  have HB := Lib.hid hb
  have HO := Lib.hid ho
  have HSA := Lib.hid hsa
  have F1 := Lib.hid f1
  have F2 := Lib.hid f2
  have F3 := Lib.hid f3
  have F4 := Lib.hid f4
  have HVO := Lib.hid vo
  have HOK := Lib.hid ok
  have EX := Lib.hid eX
  have EB := Lib.hid eB
  clear hb ho hsa f1 f2 f3 f4 vo ok eX eB eV eT iw ht
  go_enter Tryz.func3, Tryz.ntmps3
  go_upto_region 1 with (fail)
  rw [← EX.out, ← EB.out]
  go_wp2_with fail
  refine (HSA.out _ HO.out).mono ?_
  rintro e1 w1 ⟨rfl, ho1⟩
  have hld := hd_load (blk_range (Blk.only HB.out ho1 (fun e => e))) HOK.out.root
  have HO1 := Lib.hid ho1
  clear ho1
  go_wp2_with fail
  refine (F3.out _ (HO.out.trans HO1.out)).mono ?_
  rintro e2 w2 ⟨rfl, ho2⟩
  have HO2 := Lib.hid (HO1.out.trans ho2)
  clear ho2 hld
  obtain ⟨N, eN⟩ : ∃ N, N = w2.heap.size := ⟨_, rfl⟩
  have hb0 : Blk (w2.alloc (.cells vt0C 30)) N tVt vt0C := by rw [eN]; exact Blk.new w2 _ _
  have hst := vt_store hb0 rfl HVO.out.head.root
  rw [eN] at hst
  have hb1 : VtAt ((w2.alloc (.cells vt0C 30)).setCells N 0 (vtC V)) N V := filled_whole hb0 (by rw [vtC_len HVO.out.head.root]; rfl)
  have hO3 : Only NoneOf w2 ((w2.alloc (.cells vt0C 30)).setCells N 0 (vtC V)) := only_setCells ((Only.refl _ _).alloc _) N 0 (.inr (by omega)) _
  have hnw := vtNew_run
  have HB1 := Lib.hid hb1
  have HO3 := Lib.hid (HO2.out.trans hO3)
  have EN := Lib.hid eN
  clear hb0 hb1 hO3 eN
  go_upto_region 3 with (fail)
  rw [← EN.out]
  refine wp_gen (fun Z => VtAt Z N V ∧ HdAt Z B h ∧ Only NoneOf w Z) ⟨HB1.out, Blk.only HB.out HO3.out (fun e => e), HO.out.trans HO3.out⟩ ?_
  rintro Z ⟨zv, zh, zo⟩
  clear hst hnw HB1
  have l1 : ∀ W, Only NoneOf Z W → (hdLoad (.pointer (some ⟨B, 0, none⟩))).run Tryz.prog W = .ok (.agg (hdC h).toArray) W := fun W ho => hd_load (blk_range (Blk.only zh ho (fun e => e))) HOK.out.root
  have l2 : ∀ W, Only NoneOf Z W → (vtLoad (.pointer (some ⟨N, 0, none⟩))).run Tryz.prog W = .ok (.agg (vtC V).toArray) W := fun W ho => vt_load (blk_range (Blk.only zv ho (fun e => e))) HVO.out.head.root
  have q1 : ∀ W, (binOp .eql 30 (.agg (vtC V).toArray) (.agg (vtC V).toArray)).run Tryz.prog W = .ok (.bool true) W := fun W => by rw [eql_vt V V HVO.out.head.root HVO.out.head.root W, eqVt_true.2 rfl]
  have hS0 : Only NoneOf Z Z.drew := (Only.refl _ _).drew
  have HZO := Lib.hid zo
  clear zv zh zo
  go_region_held3 (fun W => Only NoneOf Z W) (first | (with_reducible assumption))
    (first
      | (go_at_call 13; refine (F1.out _ (HZO.out.trans (by with_reducible assumption))).mono ?_; rintro e5 w5 ⟨rfl, ho5⟩; have hS5 := Only.trans (by with_reducible assumption) ho5; clear ho5)
      | (go_at_call 14; refine (F2.out _).mono ?_; rintro e6 w6 ⟨rfl, ho6⟩; have hS6 := Only.trans (by with_reducible assumption) ho6; clear ho6)
      | (go_at_call 15; refine (F4.out _).mono ?_; rintro e7 w7 ⟨rfl, ho7⟩; have hS7 := Only.trans (by with_reducible assumption) ho7; clear ho7))
  all_goals
    go_wp2_with fail
    go_ret
    exact ⟨rfl, HZO.out.trans (by assumption)⟩
end Go.Proofs.YtoehfainhmfghaaGreatDoor
