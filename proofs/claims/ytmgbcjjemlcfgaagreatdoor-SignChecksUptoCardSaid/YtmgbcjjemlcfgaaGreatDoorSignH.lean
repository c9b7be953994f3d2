/- What is proved here: what a call finds in the library's variables, and a signature's text by the program. Conditions: the library's variables hold what their initialisers lay. -/
import Derived.Test.YtmgbcjjemlcfgaaGreatDoorSignD
import Derived.Test.YtmgbcjjemlcfgaaGreatDoorSigTx
import Derived.Deep.RegionHeld3
import Derived.WalkSmall
import Derived.ChangeAgain
namespace Go.Proofs.YtmgbcjjemlcfgaaGreatDoor
open Go.RowKit Go.Shelf
/-- What a call finds in the library's variables. -/
structure Env (w : World) : Prop where
  tab : Tab w
  syn : ∃ tp p, w.var? Tryz.prog "strconv.ErrSyntax" = some #[.iface tp p]
  rng : ∃ tp p, w.var? Tryz.prog "strconv.ErrRange" = some #[.iface tp p]
  shp : w.ShapedOpen Tryz.prog
theorem var_only {w w' : World} {n : String} {cs : Array Value} (ho : Only NoneOf w w') (h : w.var? Tryz.prog n = some cs) : w'.var? Tryz.prog n = some cs := by
  have hb : Below w.heap.size w w' := Only.below ho (Nat.le_refl _) (fun _ e => e.elim)
  unfold World.var? at h ⊢
  obtain ⟨g, hg, h⟩ := Option.bind_eq_some_iff.1 h
  rw [hg]
  simp only [Option.bind_some]
  have hlt : g < w.heap.size := by
    rcases Nat.lt_or_ge g w.heap.size with h1 | h1
    · exact h1
    · rw [Array.getElem?_eq_none h1] at h; cases h
  rw [hb.block g hlt]
  exact h
theorem Env.none {w w' : World} (h : Env w) (ho : Only NoneOf w w') : Env w' := by
  obtain ⟨t, ⟨a, b, hs⟩, ⟨c, d, hr⟩, hp⟩ := h
  have hb : Below w.heap.size w w' := Only.below ho (Nat.le_refl _) (fun _ e => e.elim)
  exact ⟨t.none ho, ⟨a, b, var_only ho hs⟩, ⟨c, d, var_only ho hr⟩, hp.keptBut (hb.frame (fun _ => False)) (fun _ e => e.elim)⟩
set_option maxRecDepth 100000 in
set_option maxHeartbeats 1000000 in
theorem stext_any (r s : Int) (hr : In r) (hs : In s) (w : World) (ht : Tab w) : Calls Tryz.prog 12 #[sgv r s] w (RetStr (textOf r s) w) := by
  unfold sgv
  obtain ⟨r0, r1⟩ := hr
  obtain ⟨s0, s1⟩ := hs
  have hb := Blk.new w tSig #[.int .i64 r, .int .i64 s]
  have c0 : (w.alloc (.cells #[.int .i64 r, .int .i64 s] tSig)).cell? ⟨w.heap.size, 0, none⟩ = some (.int .i64 r) := hb.cell 0
  have c1 : (w.alloc (.cells #[.int .i64 r, .int .i64 s] tSig)).cell? ⟨w.heap.size, 1, none⟩ = some (.int .i64 s) := hb.cell 1
  have hx : Only NoneOf w (w.alloc (.cells #[.int .i64 r, .int .i64 s] tSig)) := (Only.refl _ _).alloc _
  have htx := ht.none hx
  obtain ⟨B, eB⟩ : ∃ B, B = w.heap.size := ⟨_, rfl⟩
  obtain ⟨X, eX⟩ : ∃ X, X = w.alloc (.cells #[.int .i64 r, .int .i64 s] tSig) := ⟨_, rfl⟩
  rw [← eX, ← eB] at c0 c1
  rw [← eX] at hx htx
  have HX := Lib.hid hx
  have HT := Lib.hid htx
  have HTD := Lib.hid (show Tab X.drew from htx)
  have HR := Lib.hid (fun W hW => itoa_any r r0 r1 W hW)
  have HS := Lib.hid (fun W hW => itoa_any s s0 s1 W hW)
  have hlr := itoa_len r0 r1
  have hls := itoa_len s0 s1
  go_enter Tryz.func12, Tryz.ntmps12
  go_wp2_with fail
  rw [← eX, ← eB]
  clear eX eB hb hx htx ht r0 r1 s0 s1
  go_region_held3 (fun w' => w'.cell? ⟨B, 0, none⟩ = some (.int .i64 r) ∧ w'.cell? ⟨B, 1, none⟩ = some (.int .i64 s)) (first | assumption | exact ⟨c0, c1⟩ | (refine ⟨?_, ?_⟩ <;> assumption) | go_keep)
    (first
      | (go_at_call 31; (with_reducible refine (HR.out _ (by first | exact HT.out | exact HTD.out)).mono ?_); rintro e w4 ⟨t4, rfl, ht4, ho4⟩; have HO4 : Hid (Only NoneOf X w4) := Lib.hid (only_of_drew ho4); have hz4 : t4.size ≤ 21 := (by rw [size_list, ht4]; exact hlr); have hq4 : ¬ 9223372036854775807 < t4.size + 1 := (by omega); have HT4 := Lib.hid ht4; have HTB := Lib.hid (HT.out.none HO4.out); have d0 := HO4.out.cell_some c0 (fun e => e); have d1 := HO4.out.cell_some c1 (fun e => e); clear ho4 ht4)
      | (go_at_call 31; (with_reducible refine (HS.out _ HTB.out).mono ?_); rintro e w5 ⟨t5, rfl, ht5, ho5⟩; have HO5 : Hid (Only NoneOf X w5) := Lib.hid (HO4.out.trans ho5); have hz5 : t5.size ≤ 21 := (by rw [size_list, ht5]; exact hls); have hq5 : ¬ 9223372036854775807 < t4.size + 1 + t5.size := (by omega); have HT5 := Lib.hid ht5; have f0 := HO5.out.cell_some c0 (fun e => e); have f1 := HO5.out.cell_some c1 (fun e => e); clear ho5 ht5))
  all_goals
    go_wp2_with fail
    go_ret
    first
      | exact RetStr.mk (by rw [ByteArray.data_append, ByteArray.data_append, Array.toList_append, Array.toList_append, HT4.out, HT5.out]; simp [textOf]) (HX.out.trans HO5.out)
end Go.Proofs.YtmgbcjjemlcfgaaGreatDoor
