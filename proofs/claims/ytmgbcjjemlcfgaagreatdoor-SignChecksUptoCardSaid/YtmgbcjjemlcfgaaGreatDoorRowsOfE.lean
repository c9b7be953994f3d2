/- What is proved here: what the listed variables give a call: the table of powers and the two errors. No conditions. -/
import Derived.Test.YtmgbcjjemlcfgaaGreatDoorLaw
import Derived.Test.YtmgbcjjemlcfgaaGreatDoorSignH
import Derived.Test.YtmgbcjjemlcfgaaGreatDoorCards
import Derived.Test.YtmgbcjjemlcfgaaGreatDoorTie
import Derived.Deep.DeepHandedRow
import Derived.Lib.LaidTab
import Derived.LaidSub
import Derived.ChangeMaps5
import Derived.OpenShut
import Derived.RowKitTokens
import Derived.LaidLaws
import Derived.Stop.ErrReads
namespace Go.Proofs.YtmgbcjjemlcfgaaGreatDoor
open Go.ChangeShapes Go.WideShapes Go.ChangeAt Go.RowKit
theorem gPow : Tryz.prog.globalNamed pow10 = some 5 := by kernel_rfl
theorem gPowType : (Tryz.prog.globals[5]?).map (·.type) = some 121 := by kernel_rfl
theorem cellsPow : Tryz.prog.cellsOf 121 = 20 := by kernel_rfl
theorem cellsU64 : Tryz.prog.cellsOf 54 = 1 := by kernel_rfl
theorem gRange : Tryz.prog.globalNamed "strconv.ErrRange" = some 2 := by kernel_rfl
theorem gSyntax : Tryz.prog.globalNamed "strconv.ErrSyntax" = some 1 := by kernel_rfl
theorem gRangeType : (Tryz.prog.globals[2]?).map (·.type) = some 46 := by kernel_rfl
theorem gSyntaxType : (Tryz.prog.globals[1]?).map (·.type) = some 46 := by kernel_rfl
theorem cellsErr : Tryz.prog.cellsOf 119 = 1 := by kernel_rfl
theorem cellsStr : Tryz.prog.cellsOf 9 = 1 := by kernel_rfl
theorem starErr : "*" ++ "errors.errorString" = "*errors.errorString" := by decide
theorem rowErr (u : TypeId) (h : Tryz.prog.typeName? 3 u = some "*errors.errorString") : u = 117 :=
  typeName_ptr_named (nm := "errors.errorString") (by rw [starErr]; kernel_rfl) (by kernel_rfl) (by decide) u (by rw [starErr]; exact h)
/-- What every row of this seat lists. -/
def listed : List (String × DataW Unit) := [("math/bits.deBruijn32tab", Rows.laid_math_bits_deBruijn32tab), ("math/bits.deBruijn64tab", Rows.laid_math_bits_deBruijn64tab), ("internal/strconv.uint64pow10", Rows.laid_internal_strconv_uint64pow10), ("strconv.ErrRange", Rows.laid_strconv_ErrRange), ("strconv.ErrSyntax", Rows.laid_strconv_ErrSyntax)]
theorem table {W : World} (h : laidMetH Tryz.prog listed W) : Tab W := by
  have h1 := h.filter (fun x => x.1 == pow10)
  have h2 : laidMetH Tryz.prog [(pow10, Lib.tabData .u64 Lib.pow10Tab)] W := h1
  exact Lib.tabIs_of_head (rest := []) gPow gPowType Tryz.underlying121 Tryz.underlying54 cellsU64 cellsPow h2
set_option maxRecDepth 100000 in
theorem sentinels {W : World} (h : laidMetH Tryz.prog listed W) : (∃ tp p, W.var? Tryz.prog "strconv.ErrRange" = some #[.iface tp p]) ∧ (∃ tp p, W.var? Tryz.prog "strconv.ErrSyntax" = some #[.iface tp p]) := by
  have h1 := h.filter (fun x => x.1 == "strconv.ErrRange" || x.1 == "strconv.ErrSyntax")
  have h2 : laidMet Tryz.prog [("strconv.ErrRange", Rows.laid_strconv_ErrRange), ("strconv.ErrSyntax", Rows.laid_strconv_ErrSyntax)] W := h1
  obtain ⟨ps, ⟨g0, t0, cs0, f0, p0, q0, hg0, ht0, hv0, hd0, ⟨g1, t1, cs1, f1, p1, q1, hg1, ht1, hv1, hd1, hq1, e1⟩, e0⟩, hnd, hrows⟩ := h2
  obtain rfl := Option.some.inj (gRange.symm.trans hg0)
  obtain rfl := Option.some.inj (gSyntax.symm.trans hg1)
  obtain rfl := Option.some.inj (gRangeType.symm.trans ht0)
  obtain rfl := Option.some.inj (gSyntaxType.symm.trans ht1)
  have hq1' : q1 = [] := hq1
  subst hq1'
  subst e1
  subst e0
  obtain ⟨l0⟩ := cs0
  obtain ⟨l1⟩ := cs1
  have ok0 : ∀ u v, l0 = [.iface u v] → Value.okWide Tryz.prog W .any 0 u v := fun u v e => by
    subst e
    exact (hrows 2 0 (by simp [MemPlace.row])).2 u v (by simpa using World.var?_cell hg0 hv0 0)
  have ok1 : ∀ u v, l1 = [.iface u v] → Value.okWide Tryz.prog W .any 0 u v := fun u v e => by
    subst e
    exact (hrows 1 0 (by simp [MemPlace.row])).2 u v (by simpa using World.var?_cell hg1 hv1 0)
  obtain ⟨a0, s0, rfl, _⟩ := errorString_of_trod Tryz.underlying46 rowErr Tryz.underlying117 Tryz.underlying119 rfl rfl Tryz.underlying9 cellsErr cellsStr hd0 ok0
  obtain ⟨a1, s1, rfl, _⟩ := errorString_of_trod Tryz.underlying46 rowErr Tryz.underlying117 Tryz.underlying119 rfl rfl Tryz.underlying9 cellsErr cellsStr hd1 ok1
  exact ⟨⟨_, _, hv0⟩, ⟨_, _, hv1⟩⟩
theorem env_of {W : World} (h : laidMetH Tryz.prog listed W) (hs : W.ShapedOpen Tryz.prog) : Env W := ⟨table h, (sentinels h).2, (sentinels h).1, hs⟩
theorem i64_bd {a : Int} (h : (Lit.int .i64 a).wf = true) : -9223372036854775808 ≤ a ∧ a ≤ 9223372036854775807 := by
  simpa [Lit.wf, IntKind.min, IntKind.max, IntKind.signed, IntKind.bits] using h
end Go.Proofs.YtmgbcjjemlcfgaaGreatDoor
