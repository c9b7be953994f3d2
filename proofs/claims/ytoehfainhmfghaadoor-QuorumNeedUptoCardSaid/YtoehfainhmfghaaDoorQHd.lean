/- What is proved here: heads as keys of maps; heads compared. Conditions: sizes are ints, roots have 32 bytes. -/
import Derived.Test.YtoehfainhmfghaaDoorQGr
namespace Go.Proofs.YtoehfainhmfghaaDoor
open Go.RowKit
open Go.Maps (Keyed)
theorem prog_laid : laidOutB Tryd.prog = true := by kernel_rfl
theorem hd_row : 35 < Tryd.prog.types.size := of_decide_eq_true (by kernel_rfl)
theorem hd_wide : (match Tryd.prog.underlying 35 with | some (.array _ _) | some (.struct _) => true | _ => false) = true := by rw [Tryd.underlying35]
set_option maxRecDepth 100000 in
theorem hd_key : WideMaps.KeyLaw Tryd.prog 35 := deep_law_laid prog_laid (m := 3) (by omega) hd_row (by kernel_rfl) hd_wide
theorem hd_law : Keyed Tryd.prog 35 := Keyed.of_law hd_key
theorem mapM_some {α β : Type} {f : α → Option β} : ∀ l : List α, (∀ x ∈ l, ∃ y, f x = some y) → ∃ r, l.mapM f = some r
  | [], _ => ⟨[], rfl⟩
  | x :: l, h => by
    obtain ⟨y, hy⟩ := h x (by simp)
    obtain ⟨r, hr⟩ := mapM_some l (fun z hz => h z (by simp [hz]))
    exact ⟨y :: r, by rw [List.mapM_cons, hy, hr]; rfl⟩
theorem kl_int (d : Nat) {n : Int} (h : In n) : Tryd.prog.keyLits (d + 1) 3 [.int .i64 n] = some [.int .i64 n] := by
  unfold Program.keyLits
  rw [Tryd.underlying3]
  simp [wf_in h]
theorem kl_u8 (d : Nat) (x : UInt8) : ∃ r, Tryd.prog.keyLits (d + 1) 5 [bv x] = some r := by
  unfold Program.keyLits
  rw [Tryd.underlying5]
  have hw : (Lit.int .u8 (x.toNat : Int)).wf = true := by
    have := x.toNat_lt
    simp [Lit.wf, IntKind.min, IntKind.max, IntKind.signed, IntKind.bits]; omega
  exact ⟨[.int .u8 x.toNat], by simp [bv, hw]⟩
theorem cells_u8 : Tryd.prog.cellsOf 5 = 1 := by kernel_rfl
theorem cells_hash : Tryd.prog.cellsOf 33 = 32 := by kernel_rfl
theorem cells_int : Tryd.prog.cellsOf 3 = 1 := by kernel_rfl
theorem cells_hd : Tryd.prog.cellsOf 35 = 33 := by kernel_rfl
theorem kl_hash (d : Nat) {l : List UInt8} (hl : l.length = 32) : ∃ r, Tryd.prog.keyLits (d + 2) 33 (l.map bv) = some r := by
  unfold Program.keyLits
  rw [Tryd.underlying33]
  simp only [cells_hash, List.length_map, hl, if_true, cells_u8, Nat.mul_one]
  obtain ⟨r, hr⟩ := mapM_some (f := fun i => Tryd.prog.keyLits (d + 1) 5 (((l.map bv).drop i).take 1)) (List.range 32) (fun i hi => by
    have hi2 : i < l.length := by rw [hl]; exact List.mem_range.1 hi
    have e : ((l.map bv).drop i).take 1 = [bv l[i]] := by
      rw [List.drop_eq_getElem_cons (by simpa using hi2)]
      simp
    simp only [e]
    exact kl_u8 d l[i])
  exact ⟨r.flatten, by rw [hr]; rfl⟩
theorem key_hd {h : Hd} (ok : h.Ok) : ∃ kl, Go.keyOf Tryd.prog 35 (.agg (hdC h).toArray) = some kl := by
  have hl := ok.root
  have hsz : 2 ≤ Tryd.prog.types.size := of_decide_eq_true (by kernel_rfl)
  obtain ⟨d, hd⟩ : ∃ d, Tryd.prog.types.size + 1 = d + 3 := ⟨Tryd.prog.types.size - 2, by omega⟩
  have hkt : Tryd.prog.keyType 35 = true := by kernel_rfl
  have hf : (Value.agg (hdC h).toArray).formed Tryd.prog 35 = true := by
    unfold Value.formed
    rw [Tryd.underlying35]
    simp [cells_hd, hdC_len hl]
  obtain ⟨r, hr⟩ := kl_hash d hl
  have hkl : ∃ ls, Tryd.prog.keyLits (d + 3) 35 (hdC h) = some ls := by
    unfold Program.keyLits
    rw [Tryd.underlying35]
    simp [cells_hd, cells_int, cells_hash, kl_int (d + 1) ok.size, hdC]
    exact ⟨hl, by rw [List.take_of_length_le (by simp [hl]), hr]; exact ⟨_, rfl⟩⟩
  obtain ⟨ls, hls⟩ := hkl
  unfold Go.keyOf
  rw [Tryd.underlying35]
  simp only [hkt, hf, Bool.and_self, if_true, hd, Value.cells]
  exact ⟨_, by rw [hls]; rfl⟩
end Go.Proofs.YtoehfainhmfghaaDoor
