/- What is proved here: nothing is decoded of the empty string, by the program: the panics of its inner functions. No conditions but that memory has its shape. -/
import Derived.Test.YtclpebgjmgfigaaGreatDoorEvF
import Derived.Recover
import Derived.Laws.Pointers
namespace Go.Proofs.YtclpebgjmgfigaaGreatDoor
open Go.RowKit Go.Shelf
abbrev wrongP : List PanicEntry := [{ v := .iface 74 (.agg #[]), recovered := false }]
set_option maxRecDepth 100000 in
theorem need_false (w : World) : Calls Tryz.prog 41 #[.bool false] w fun e w' => e = .panicked wrongP ∧ w' = w := by
  go_enter Tryz.func41, Tryz.ntmps41
  go_wp2
  exact ⟨rfl, rfl, rfl⟩
set_option maxRecDepth 100000 in
theorem need_true (w : World) : Calls Tryz.prog 41 #[.bool true] w fun e w' => e = .returned (.tuple #[]) ∧ w' = w := by
  go_enter Tryz.func41, Tryz.ntmps41
  go_wp2
  go_end0
  exact ⟨rfl, rfl⟩
theorem cut_none : Lib.cut [] [32] = ([], [], false) := by decide
set_option maxRecDepth 100000 in
theorem dword_none (b : Nat) (w : World) (hc : w.cell? ⟨b, 0, none⟩ = some (.string ⟨#[]⟩)) (hs : w.ShapedOpen Tryz.prog) : Calls Tryz.prog 65 #[.string ⟨#[32]⟩, .pointer (some ⟨b, 0, none⟩)] w fun e w' => e = .panicked wrongP ∧ Only NoneOf w w' := by
  have hcut := Tryz.strings_Cut_shaped ⟨#[]⟩ ⟨#[32]⟩ w hs (by decide)
  rw [show (⟨#[]⟩ : ByteArray).data.toList = [] from rfl, show (⟨#[32]⟩ : ByteArray).data.toList = [32] from rfl, cut_none] at hcut
  have HCUT := Lib.hid hcut
  clear hcut hs
  go_enter Tryz.func65, Tryz.ntmps65
  go_wp2_with fail
  refine HCUT.out.mono ?_
  rintro e w1 ⟨rfl, n, rfl⟩
  go_wp2_with fail
  refine (need_false _).mono ?_
  rintro e w2 ⟨rfl, hw2⟩
  subst hw2
  go_wp2_with fail
  exact ⟨rfl, rfl, (Only.refl NoneOf w).drewN n⟩
abbrev wordF (b : Nat) : Value := .func (.func 65) #[] #[.pointer (some ⟨b, 0, none⟩)]
set_option maxRecDepth 100000 in
theorem dnum_none (b c : Nat) (w : World) (hf : w.cell? ⟨c, 0, none⟩ = some (wordF b)) (hc : w.cell? ⟨b, 0, none⟩ = some (.string ⟨#[]⟩)) (hs : w.ShapedOpen Tryz.prog) : Calls Tryz.prog 67 #[.string ⟨#[32]⟩, .pointer (some ⟨c, 0, none⟩)] w fun e w' => e = .panicked wrongP ∧ Only NoneOf w w' := by
  have HW := Lib.hid (dword_none b w hc hs)
  clear hc hs
  go_enter Tryz.func67, Tryz.ntmps67
  go_wp2_with fail
  refine HW.out.mono ?_
  rintro e w2 ⟨rfl, ho⟩
  have HO := Lib.hid ho
  clear ho
  go_wp2_with fail
  exact ⟨rfl, rfl, HO.out⟩
end Go.Proofs.YtclpebgjmgfigaaGreatDoor
