/- What is proved here: nothing is decoded of the empty string, by the program. No conditions but that memory has its shape. -/
import Derived.Test.YtclpebgjmgfigaaGreatDoorEvG
import Derived.Deep.RegionHeld3
import Derived.Deep.RegionWith
import Derived.Laws.EntriesVeiled
import Derived.Deep.DeepCutAuto
namespace Go.Proofs.YtclpebgjmgfigaaGreatDoor
open Go.RowKit Go.Shelf
/-- The blank event's cells. -/
def blank0 : Ev := ⟨0, 0, 0, 0, 0, 0, 0, 0, ⟨#[]⟩, ⟨#[]⟩, 0, 0, zeros32, 0, 0⟩
structure DecS (w : World) (b : Nat) (Y : World) : Prop where
  str : Blk Y b 9 #[.string ⟨#[]⟩]
  only : Only NoneOf w Y
  shp : Y.ShapedOpen Tryz.prog
theorem DecS.next {w Y Y' : World} {b : Nat} (h : DecS w b Y) (ho : Only NoneOf Y Y') : DecS w b Y' :=
  ⟨h.str.only ho (fun e => e), h.only.trans ho, h.shp.keptBut ((Only.below ho (Nat.le_refl _) (fun _ e => e.elim)).frame (fun _ => False)) (fun _ e => e.elim)⟩
set_option maxRecDepth 100000 in
set_option maxHeartbeats 1000000 in
theorem decode_none (w : World) (hs : w.ShapedOpen Tryz.prog) : Calls Tryz.prog 40 #[.string ⟨#[]⟩] w fun e w' => e = .panicked wrongP ∧ Only NoneOf w w' := by
  have hmf : ∀ (fn : Fn) (first cap : Array Value) (w : World), (Instr.makeFunc fn first cap).run Tryz.prog w = .ok (.func fn first cap) w := fun _ _ _ _ => rfl
  obtain ⟨b, eb⟩ : ∃ b, b = w.heap.size := ⟨_, rfl⟩
  have h0 : DecS w b (w.alloc (.cells #[.string ⟨#[]⟩] 9)) := ⟨by rw [eb]; exact Blk.new w _ _, (Only.refl _ _).alloc _, by
    have ho : Only NoneOf w (w.alloc (.cells #[.string ⟨#[]⟩] 9)) := (Only.refl _ _).alloc _
    exact hs.keptBut ((Only.below ho (Nat.le_refl _) (fun _ e => e.elim)).frame (fun _ => False)) (fun _ e => e.elim)⟩
  have H0 := Lib.hid h0
  have EB := Lib.hid eb
  clear h0 eb hs
  go_enter Tryz.func40, Tryz.ntmps40
  go_upto_region 1 with (fail)
  rw [← EB.out]
  refine wp_gen (DecS w b) (H0.out.next ((Only.refl _ _).alloc _)) ?_
  intro Y hY
  have HY := Lib.hid hY
  clear hY H0
  go_upto_region 2 with (fail)
  obtain ⟨c, ec⟩ : ∃ c, c = Y.heap.size := ⟨_, rfl⟩
  rw [← ec]
  refine wp_gen (fun Z => DecS w b Z ∧ Blk Z c 68 #[wordF b]) ⟨HY.out.next ((Only.refl _ _).alloc _), by rw [ec]; exact Blk.new _ _ _⟩ ?_
  rintro Z ⟨hZ, hf⟩
  have HZ := Lib.hid hZ
  have HF := Lib.hid hf
  clear hZ hf HY ec
  go_upto_region 3 with (fail)
  obtain ⟨d, ed⟩ : ∃ d, d = Z.heap.size := ⟨_, rfl⟩
  rw [← ed]
  refine wp_gen (fun V => DecS w b V ∧ Blk V c 68 #[wordF b] ∧ Blk V d 122 #[.func (.func 67) #[] #[.pointer (some ⟨c, 0, none⟩)]]) ⟨HZ.out.next ((Only.refl _ _).alloc _), HF.out.alloc _, by rw [ed]; exact Blk.new _ _ _⟩ ?_
  rintro V ⟨hV, hf, hg⟩
  have HV := Lib.hid hV
  have HF := Lib.hid hf
  have HG := Lib.hid hg
  clear hV hf hg HZ ed
  go_upto_region 5 with (fail)
  refine wp_gen (fun U => DecS w b U ∧ Blk U c 68 #[wordF b] ∧ Blk U d 122 #[.func (.func 67) #[] #[.pointer (some ⟨c, 0, none⟩)]]) ⟨HV.out.next ((Only.refl _ _).alloc _), HF.out.alloc _, HG.out.alloc _⟩ ?_
  rintro U ⟨hU, hf, hg⟩
  have k0 := hf.cell 0
  have k1 := hg.cell 0
  have k2 := hU.str.cell 0
  have hd := fun W (ho : Only NoneOf U W) => dnum_none b c W (ho.cell_some k0 (fun e => e)) (ho.cell_some k2 (fun e => e)) (hU.next ho).shp
  have HD := Lib.hid hd
  have HU := Lib.hid hU
  clear hU hf hg hd k0 k2 HV HF HG
  refine wp_region_held_drew (S := fun W => W.cell? ⟨d, 0, none⟩ = some (.func (.func 67) #[] #[.pointer (some ⟨c, 0, none⟩)]) ∧ Only NoneOf U W) (by kernel_rfl) ⟨k1, (Only.refl _ _).drew⟩ (fun hS => ?_)
  refine wpAnyH_take (i := 0) (v := .func (.func 67) #[] #[.pointer (some ⟨c, 0, none⟩)]) rfl (by kernel_rfl) (by kernel_rfl) (by kernel_rfl) (fun _ _ _ h => h) (Or.inl ⟨by rfl, fun W hW => by obtain ⟨hW1, _⟩ := hW; go_simp⟩) hS ?_
  simp only [Act.put, List.setIfInBounds_toArray]
  refine wpAnyH_take (i := 2) (v := .func (.func 67) #[] #[.pointer (some ⟨c, 0, none⟩)]) rfl (by kernel_rfl) (by kernel_rfl) (by kernel_rfl) (fun _ _ _ h => h) (Or.inl ⟨by rfl, fun W hW => by obtain ⟨hW1, _⟩ := hW; go_simp⟩) hS ?_
  simp only [Act.put]
  refine wpAnyH_ready (rs := [1]) (by kernel_rfl) (by simp) ?_
  refine AllReadyH.cons rfl (fun K hK => ?_) AllReadyH.nil
  go_simp
  refine (HD.out _ (Only.refl _ _).drew).mono ?_
  rintro e w2 ⟨rfl, ho⟩
  exact ⟨rfl, rfl, HU.out.only.trans (only_of_drew ho)⟩
end Go.Proofs.YtclpebgjmgfigaaGreatDoor
