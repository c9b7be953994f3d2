/- What is proved here: the program's closures on votes, and the library's Clone, IndexFunc and DeleteFunc at votes. Conditions: the votes' numbers are ints, their roots have 32 bytes. -/
import Derived.Test.YtoehfainhmfghaaDoorQCt
import Derived.Deep.AppendSrc
namespace Go.Proofs.YtoehfainhmfghaaDoor
open Go.RowKit Go.Shelf
attribute [local go_sem ↓ high] hdLoad_eq vtLoad_eq hdStore_eq hdNew_eq vtNew_eq vtStore_eq
abbrev tKm : TypeId := 82
abbrev tKf : TypeId := 85
/-- The keys, the closure that counts, and where both lie. -/
structure KeyS (w : World) (O : List Pers) (kc cc b n : Nat) : Prop where
  map : MapV w Tryd.prog 3 b n (keyF O)
  kb : Blk w kc tKm #[.map (some b)]
  cb : Blk w cc tKf #[.func (.func 44) #[] #[.pointer (some ⟨kc, 0, none⟩)]]
  tab : Tab w
theorem KeyS.only {w w' : World} {O : List Pers} {kc cc b n : Nat} (h : KeyS w O kc cc b n) (ho : Only NoneOf w w') : KeyS w' O kc cc b n :=
  ⟨h.map.only ho (fun e => e), h.kb.only ho (fun e => e), h.cb.only ho (fun e => e), h.tab.none ho⟩
set_option maxRecDepth 100000 in
set_option maxHeartbeats 1000000 in
theorem qdel_any (O : List Pers) (hO : PersOk O) (v : Vt) (vo : v.Ok) (kc cc b n : Nat) (w : World) (hk : KeyS w O kc cc b n) :
    Calls Tryd.prog 48 #[.agg (vtC v).toArray, .pointer (some ⟨cc, 0, none⟩)] w fun e w' => e = .returned (.bool (!cntO O v)) ∧ Only NoneOf w w' := by
  have ho : Only NoneOf w (w.alloc (.cells (vtC v).toArray tVt)) := (Only.refl _ _).alloc _
  have hk2 := hk.only ho
  have cX : (w.alloc (.cells (vtC v).toArray tVt)).cell? ⟨cc, 0, none⟩ = some (.func (.func 44) #[] #[.pointer (some ⟨kc, 0, none⟩)]) := hk2.cb.cell 0
  have hld := vt_load (blk_range (Blk.new w tVt (vtC v).toArray)) vo.head.root
  have hct := qcounts_any O hO v vo kc b n _ hk2.map (hk2.kb.cell 0) hk2.tab
  have HO := Lib.hid ho
  have HCT := Lib.hid hct
  clear hk hk2 ho hct vo hO
  go_enter Tryd.func48, Tryd.ntmps48
  go_wp2_with fail
  refine HCT.out.mono ?_
  rintro e1 w1 ⟨rfl, ho1⟩
  have HO1 := Lib.hid (HO.out.trans ho1)
  clear ho1 HCT hld
  go_wp2_with fail
  go_ret
  exact ⟨rfl, HO1.out⟩
set_option maxRecDepth 100000 in
set_option maxHeartbeats 1000000 in
theorem qwho_any (v : Vt) (w : World) : Calls Tryd.prog 50 #[.agg (vtC v).toArray] w fun e w' => e = .returned (.int .i64 v.who) ∧ Only NoneOf w w' := by
  have ho : Only NoneOf w (w.alloc (.cells (vtC v).toArray tVt)) := (Only.refl _ _).alloc _
  have c0 : (w.alloc (.cells (vtC v).toArray tVt)).cell? ⟨w.heap.size, 0, none⟩ = some (.int .i64 v.who) := (Blk.new w tVt (vtC v).toArray).cell 0
  have HO := Lib.hid ho
  clear ho
  go_enter Tryd.func50, Tryd.ntmps50
  go_wp2_with fail
  go_ret
  exact ⟨rfl, HO.out⟩
set_option maxRecDepth 100000 in
set_option maxHeartbeats 1000000 in
theorem qhead_any (v : Vt) (hl : v.head.root.length = 32) (w : World) : Calls Tryd.prog 32 #[.agg (vtC v).toArray] w fun e w' => e = .returned (.agg (hdC v.head).toArray) ∧ Only NoneOf w w' := by
  obtain ⟨B, eB⟩ : ∃ B, B = w.heap.size := ⟨_, rfl⟩
  obtain ⟨X, eX⟩ : ∃ X, X = (w.alloc (.cells (vtC v).toArray tVt)).alloc (.cells hd0C tHd) := ⟨_, rfl⟩
  have hb : VtAt X B v := by rw [eX, eB]; exact (Blk.new w _ _).alloc _
  have hh : Blk X (B + 1) tHd hd0C := by
    have h2 := Blk.new (w.alloc (.cells (vtC v).toArray tVt)) tHd hd0C
    rw [World.size_alloc, ← eB] at h2
    rw [eX]; exact h2
  have ho : Only NoneOf w X := by rw [eX]; exact ((Only.refl _ _).alloc _).alloc _
  have l1 := hd_load (range_head (blk_range hb) hl) hl
  have s1 := hd_store (h := v.head) hh rfl hl
  have h3 := filled_whole (ds := hdC v.head) hh (by rw [hdC_len hl]; rfl)
  have h4 : Only NoneOf w (X.setCells (B + 1) 0 (hdC v.head)) := only_setCells ho (B + 1) 0 (.inr (by omega)) _
  have hinf : (Tryd.prog.info? tHd).map (·.size) = some (hdC v.head).toArray.size := by rw [List.size_toArray, hdC_len hl]; kernel_rfl
  have hnw := hdNew_run
  have EX := Lib.hid eX
  have EB := Lib.hid eB
  have H3 := Lib.hid h3
  have H4 := Lib.hid h4
  have HINF := Lib.hid hinf
  clear hb hh ho h3 h4 hinf eX eB hl
  go_enter Tryd.func32, Tryd.ntmps32
  go_upto_region 1 with (fail)
  rw [← EX.out, ← EB.out]
  clear hnw
  go_wp2_with fail
  exact bodyPost_ret (v := .agg (hdC v.head).toArray) (results_blk rfl rfl H3.out Tryd.underlying35 rfl HINF.out) rfl ⟨rfl, H4.out⟩
end Go.Proofs.YtoehfainhmfghaaDoor
