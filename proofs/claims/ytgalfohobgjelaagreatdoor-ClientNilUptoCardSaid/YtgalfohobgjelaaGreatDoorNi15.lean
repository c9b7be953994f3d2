/- What is proved here: several parts. several parts. heads and votes are compared by '==' as plain ones are. Conditions: roots have 32 bytes. · how many officers certify, by the program and by the reference. Condition: the number is an int. · votes are compared by '==' as plain ones are, and are keys of maps. Conditions: the votes' numbers are ints, their roots have 32 bytes. -/
import Derived.Test.YtgalfohobgjelaaGreatDoorNi09
import Derived.Test.YtgalfohobgjelaaGreatDoorNi10
import Derived.Test.YtgalfohobgjelaaGreatDoorNi14
namespace Go.Proofs.YtgalfohobgjelaaGreatDoor
open Go.RowKit
theorem aggHash (w : World) : (isAgg 35).run Tryz.prog w = .ok true w := by kernel_rfl
theorem sizeHash (w : World) : (sizeOf 35).run Tryz.prog w = .ok 32 w := by kernel_rfl
theorem fields_hd : (Tryz.prog.fieldsOf 37).toList.map (fun f => (f.name, f.type, f.offset)) = [("Size", 3, 0), ("Root", 35, 1)] := by kernel_rfl
theorem sizeU8 (w : World) : (sizeOf 5).run Tryz.prog w = .ok 1 w := by kernel_rfl
set_option maxRecDepth 100000 in
theorem equal_hd {d : Nat} (a b : Hd) (ha : a.root.length = 32) (hb : b.root.length = 32) (w : World) : (Op.equalIn (d + 3) 37 (.agg (hdC a).toArray) (.agg (hdC b).toArray)).run Tryz.prog w = .ok (eqHd a b) w := by
  have pa : ∀ h : Hd, h.root.length = 32 → (hdC h).toArray.extract 1 33 = (h.root.map bv).toArray := fun h hl => by
    apply Array.toList_inj.1
    simp [hdC, List.extract_eq_take_drop]
    exact List.take_of_length_le (by simp [hl])
  have pp : ∀ h : Hd, h.root.length = 32 → (Go.part 35 (hdC h).toArray 1).run Tryz.prog w = .ok (.agg (h.root.map bv).toArray) w := fun h hl => by rw [part_agg (aggHash w) (sizeHash w), pa h hl]
  have key := eq_struct (P := Tryz.prog) (w := w) (d := d + 2) (t := 37) (xs := (hdC a).toArray) (ys := (hdC b).toArray) (by kernel_rfl) (by kernel_rfl) fields_hd
    (eqT_cons (by decide) (part_one (agg_int w) rfl) (part_one (agg_int w) rfl) (eq_int (d := d + 1) _ _ w)
      (eqT_cons (by decide) (pp a ha) (pp b hb) (run_equalIn_bytes w d 35 5 32 Tryz.underlying35 Tryz.underlying5 sizeU8 a.root b.root ha hb) eqT_nil))
  refine key.trans ?_
  congr 1
  rw [Bool.eq_iff_iff, eqHd_true]
  obtain ⟨a1, a2⟩ := a
  obtain ⟨b1, b2⟩ := b
  simp
set_option maxRecDepth 100000 in
theorem eql_hd (a b : Hd) (ha : a.root.length = 32) (hb : b.root.length = 32) (w : World) : (binOp .eql 37 (.agg (hdC a).toArray) (.agg (hdC b).toArray)).run Tryz.prog w = .ok (.bool (eqHd a b)) w := by
  rw [run_eql_struct, equal_hd (d := 9997) a b ha hb w]
  rfl
end Go.Proofs.YtgalfohobgjelaaGreatDoor
namespace Go.Proofs.YtgalfohobgjelaaGreatDoor
open Go.RowKit
def needI (n : Int) : Int := if n ≤ 0 then 1 else 2 * (n / 3) + n % 3 * 2 / 3 + 1
theorem needI_nat (n : Nat) : needI (n : Int) = (need n : Int) := by
  unfold needI need
  split
  · have : n = 0 := by omega
    subst this; rfl
  · omega
set_option maxHeartbeats 1000000 in
theorem qneed_any (n : Int) (hn : In n) (w : World) : Calls Tryz.prog 123 #[.int .i64 n] w fun e w' => e = .returned (.int .i64 (needI n)) ∧ w' = w := by
  obtain ⟨h0, h1⟩ := hn
  go_enter Tryz.func123, Tryz.ntmps123
  go_wp2_with fail
  go_ret
  exact ⟨ret_int (by unfold needI; split <;> omega), rfl⟩
end Go.Proofs.YtgalfohobgjelaaGreatDoor
namespace Go.Proofs.YtgalfohobgjelaaGreatDoor
open Go.RowKit
open Go.Maps (Keyed)
noncomputable def eqVt (a b : Vt) : Bool := @decide (a = b) (Classical.propDecidable _)
theorem eqVt_true {a b : Vt} : eqVt a b = true ↔ a = b := by unfold eqVt; simp
theorem eqVt_false {a b : Vt} : eqVt a b = false ↔ a ≠ b := by unfold eqVt; simp
theorem vt_row : 43 < Tryz.prog.types.size := of_decide_eq_true (by kernel_rfl)
theorem vt_wide : (match Tryz.prog.underlying 43 with | some (.array _ _) | some (.struct _) => true | _ => false) = true := by rw [Tryz.underlying43]
set_option maxRecDepth 100000 in
theorem vt_key : WideMaps.KeyLaw Tryz.prog 43 := deep_law_laid prog_laid (m := 4) (by omega) vt_row (by kernel_rfl) vt_wide
theorem vt_law : Keyed Tryz.prog 43 := Keyed.of_law vt_key
theorem cells_vt : Tryz.prog.cellsOf 43 = 36 := by kernel_rfl
theorem cells_sig : Tryz.prog.cellsOf 41 = 2 := by kernel_rfl
theorem kl_sig (d : Nat) {r s : Int} (hr : In r) (hs : In s) : ∃ ls, Tryz.prog.keyLits (d + 2) 41 [.int .i64 r, .int .i64 s] = some ls := by
  unfold Program.keyLits
  rw [Tryz.underlying41]
  simp [cells_sig, cells_int, kl_int d hr, kl_int d hs]
theorem kl_head (d : Nat) {h : Hd} (ok : h.Ok) : ∃ ls, Tryz.prog.keyLits (d + 3) 37 (hdC h) = some ls := by
  have hl := ok.root
  obtain ⟨r, hr⟩ := kl_hash d hl
  unfold Program.keyLits
  rw [Tryz.underlying37]
  simp [cells_hd, cells_int, cells_hash, kl_int (d + 1) ok.size, hdC]
  exact ⟨hl, by rw [List.take_of_length_le (by simp [hl]), hr]; exact ⟨_, rfl⟩⟩
theorem key_vt {v : Vt} (ok : v.Ok) : ∃ kl, Go.keyOf Tryz.prog 43 (.agg (vtC v).toArray) = some kl := by
  have hl := ok.head.root
  have hsz : 3 ≤ Tryz.prog.types.size := of_decide_eq_true (by kernel_rfl)
  obtain ⟨d, hd⟩ : ∃ d, Tryz.prog.types.size + 1 = d + 4 := ⟨Tryz.prog.types.size - 3, by omega⟩
  have hkt : Tryz.prog.keyType 43 = true := by kernel_rfl
  have hf : (Value.agg (vtC v).toArray).formed Tryz.prog 43 = true := by
    unfold Value.formed
    rw [Tryz.underlying43]
    simp [cells_vt, vtC_len hl]
  obtain ⟨r1, hr1⟩ := kl_head d ok.head
  obtain ⟨r2, hr2⟩ := kl_sig (d + 1) ok.r ok.s
  have h33 := hdC_len hl
  have e1 : ((hdC v.head ++ [Value.int .i64 v.r, Value.int .i64 v.s])).take 33 = hdC v.head := by rw [List.take_append_of_le_length (by omega), List.take_of_length_le (by omega)]
  have e2 : ((hdC v.head ++ [Value.int .i64 v.r, Value.int .i64 v.s])).drop 33 = [Value.int .i64 v.r, Value.int .i64 v.s] := by rw [List.drop_append, h33, List.drop_of_length_le (by omega)]; rfl
  have hkl : ∃ ls, Tryz.prog.keyLits (d + 4) 43 (vtC v) = some ls := by
    unfold Program.keyLits
    rw [Tryz.underlying43]
    simp [cells_vt, cells_hd, cells_int, cells_sig, kl_int (d + 2) ok.who, vtC, h33, e1, e2, hr1, hr2]
  obtain ⟨ls, hls⟩ := hkl
  unfold Go.keyOf
  rw [Tryz.underlying43]
  simp only [hkt, hf, Bool.and_self, if_true, hd, Value.cells]
  exact ⟨_, by rw [hls]; rfl⟩
theorem vtC_inj {a b : Vt} (ha : a.head.root.length = 32) (hb : b.head.root.length = 32) (h : vtC a = vtC b) : a = b := by
  obtain ⟨a1, ⟨a2, a3⟩, a4, a5⟩ := a
  obtain ⟨b1, ⟨b2, b3⟩, b4, b5⟩ := b
  simp only [vtC, hdC, List.cons_append, List.cons.injEq, Value.int.injEq, true_and] at h ha hb
  obtain ⟨rfl, rfl, h3⟩ := h
  have h4 := List.append_inj h3 (by simp [ha, hb])
  have h5 : a3 = b3 := List.map_inj_right (fun x y hxy => by
    have : (x.toNat : Int) = (y.toNat : Int) := by
      simp only [bv, Value.int.injEq, true_and] at hxy; exact hxy
    exact UInt8.toNat_inj.1 (by omega)) |>.1 h4.1
  have h6 := h4.2
  simp at h6
  obtain ⟨rfl, rfl⟩ := h6
  subst h5
  rfl
noncomputable def hasB (M : List Vt) (v : Vt) : Bool := M.any (eqVt v)
theorem hasB_true {M : List Vt} {v : Vt} : hasB M v = true ↔ v ∈ M := by
  unfold hasB
  rw [List.any_eq_true]
  exact ⟨fun ⟨x, hx, e⟩ => by rw [eqVt_true.1 e]; exact hx, fun h => ⟨v, h, eqVt_true.2 rfl⟩⟩
/-- The fresh ones, in their order. -/
noncomputable def freshL (M : List Vt) : List Vt → List Vt
  | [] => []
  | v :: l => if hasB M v then freshL M l else v :: freshL (M ++ [v]) l
noncomputable def takeV (M L : List Vt) : List Vt := M ++ freshL M L
theorem freshL_len : ∀ (L M : List Vt), (freshL M L).length ≤ L.length
  | [], _ => Nat.le_refl _
  | v :: l, M => by
    unfold freshL
    have h1 := freshL_len l M
    have h2 := freshL_len l (M ++ [v])
    split <;> simp only [List.length_cons] <;> omega
theorem freshL_sub : ∀ (L M : List Vt), ∀ v ∈ freshL M L, v ∈ L
  | [], _, _, h => by cases h
  | x :: l, M, v, h => by
    unfold freshL at h
    split at h
    · exact List.mem_cons_of_mem _ (freshL_sub l M v h)
    · rcases List.mem_cons.1 h with rfl | h
      · exact List.mem_cons_self ..
      · exact List.mem_cons_of_mem _ (freshL_sub l _ v h)
/-- One vote more is taken. -/
noncomputable def take1 (M : List Vt) (v : Vt) : List Vt := if hasB M v then M else M ++ [v]
theorem takeV_fold : ∀ (L M : List Vt), takeV M L = L.foldl take1 M
  | [], M => by simp [takeV, freshL]
  | v :: l, M => by
    rw [List.foldl_cons, ← takeV_fold l]
    have e : freshL M (v :: l) = if hasB M v then freshL M l else v :: freshL (M ++ [v]) l := rfl
    unfold takeV take1
    rw [e]
    split <;> simp
theorem freshL_snoc : ∀ (L M : List Vt) (v : Vt), freshL M (L ++ [v]) = freshL M L ++ (if hasB (M ++ freshL M L) v then [] else [v])
  | [], M, v => by simp [freshL]
  | x :: l, M, v => by
    rw [List.cons_append]
    have e : ∀ t, freshL M (x :: t) = if hasB M x then freshL M t else x :: freshL (M ++ [x]) t := fun _ => rfl
    rw [e, e]
    split
    · rw [freshL_snoc l M v]
    · rw [freshL_snoc l (M ++ [x]) v]; simp
/-- What the map of the votes seen holds. -/
noncomputable def seenV (M : List Vt) : Value → Option Value := fun x => if M.any (fun v => eqv x (.agg (vtC v).toArray)) = true then some (.bool true) else none
theorem seenV_nil : seenV [] = fun _ => none := by funext x; unfold seenV; simp
theorem seenV_in {M : List Vt} {v : Vt} (h : v ∈ M) : seenV M (.agg (vtC v).toArray) = some (.bool true) := by
  unfold seenV
  rw [if_pos (List.any_eq_true.2 ⟨v, h, eqv_self _⟩)]
theorem seenV_out {M : List Vt} (hM : VtsOk M) {v : Vt} (vo : v.Ok) (h : v ∉ M) : seenV M (.agg (vtC v).toArray) = none := by
  unfold seenV
  rw [if_neg]
  intro hh
  obtain ⟨u, hu, e⟩ := List.any_eq_true.1 hh
  have e1 := eqv_true.1 e
  simp only [Value.agg.injEq] at e1
  have e2 : vtC v = vtC u := by simpa using congrArg Array.toList e1
  exact h (by rw [vtC_inj vo.head.root (hM u hu).head.root e2]; exact hu)
theorem seenV_put (M : List Vt) (v : Vt) (x : Value) : put1 (seenV M) (.agg (vtC v).toArray) (.bool true) x = seenV (M ++ [v]) x := by
  by_cases e : x = .agg (vtC v).toArray
  · subst e
    rw [put1_same, seenV_in (by simp)]
  · rw [put1_other e]
    unfold seenV
    rw [List.any_append]
    simp [eqv_false.2 e]
end Go.Proofs.YtgalfohobgjelaaGreatDoor
