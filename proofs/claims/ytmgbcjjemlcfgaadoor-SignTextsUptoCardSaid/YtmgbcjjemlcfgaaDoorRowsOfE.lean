/- What is proved here: what the listed variables give a call: the table of powers and the two errors. No conditions. -/
import Derived.Test.YtmgbcjjemlcfgaaDoorLaw
import Derived.Test.YtmgbcjjemlcfgaaDoorSignH
import Derived.Test.YtmgbcjjemlcfgaaDoorCards
import Derived.Test.YtmgbcjjemlcfgaaDoorTie
import Derived.Deep.DeepHandedRow
import Derived.Lib.LaidTab
import Derived.LaidSub
import Derived.ChangeMaps5
import Derived.OpenShut
import Derived.RowKitTokens
import Derived.LaidLaws
import Derived.Stop.ErrReads
namespace Go.Proofs.YtmgbcjjemlcfgaaDoor
open Go.ChangeShapes Go.WideShapes Go.ChangeAt Go.RowKit
theorem gPow : Tryd.prog.globalNamed pow10 = some 5 := by kernel_rfl
theorem gPowType : (Tryd.prog.globals[5]?).map (·.type) = some 124 := by kernel_rfl
theorem cellsPow : Tryd.prog.cellsOf 124 = 20 := by kernel_rfl
theorem cellsU64 : Tryd.prog.cellsOf 70 = 1 := by kernel_rfl
theorem gRange : Tryd.prog.globalNamed "strconv.ErrRange" = some 2 := by kernel_rfl
theorem gSyntax : Tryd.prog.globalNamed "strconv.ErrSyntax" = some 1 := by kernel_rfl
theorem gRangeType : (Tryd.prog.globals[2]?).map (·.type) = some 55 := by kernel_rfl
theorem gSyntaxType : (Tryd.prog.globals[1]?).map (·.type) = some 55 := by kernel_rfl
theorem cellsErr : Tryd.prog.cellsOf 130 = 1 := by kernel_rfl
theorem cellsStr : Tryd.prog.cellsOf 9 = 1 := by kernel_rfl
theorem starErr : "*" ++ "errors.errorString" = "*errors.errorString" := by decide
theorem rowErr (u : TypeId) (h : Tryd.prog.typeName? 3 u = some "*errors.errorString") : u = 128 :=
  typeName_ptr_named (nm := "errors.errorString") (by rw [starErr]; kernel_rfl) (by kernel_rfl) (by decide) u (by rw [starErr]; exact h)
/-- What every row of this seat lists. -/
def listed : List (String × DataW Unit) := [("math/bits.deBruijn32tab", Rows.laid_math_bits_deBruijn32tab), ("math/bits.deBruijn64tab", Rows.laid_math_bits_deBruijn64tab), ("internal/strconv.uint64pow10", Rows.laid_internal_strconv_uint64pow10), ("strconv.ErrRange", Rows.laid_strconv_ErrRange), ("strconv.ErrSyntax", Rows.laid_strconv_ErrSyntax)]
theorem table {W : World} (h : laidMetH Tryd.prog listed W) : Tab W := by
  have h1 := h.filter (fun x => x.1 == pow10)
  have h2 : laidMetH Tryd.prog [(pow10, Lib.tabData .u64 Lib.pow10Tab)] W := h1
  exact Lib.tabIs_of_head (rest := []) gPow gPowType Tryd.underlying124 Tryd.underlying70 cellsU64 cellsPow h2
set_option maxRecDepth 100000 in
theorem sentinels {W : World} (h : laidMetH Tryd.prog listed W) : (∃ tp p, W.var? Tryd.prog "strconv.ErrRange" = some #[.iface tp p]) ∧ (∃ tp p, W.var? Tryd.prog "strconv.ErrSyntax" = some #[.iface tp p]) := by
  have h1 := h.filter (fun x => x.1 == "strconv.ErrRange" || x.1 == "strconv.ErrSyntax")
  have h2 : laidMet Tryd.prog [("strconv.ErrRange", Rows.laid_strconv_ErrRange), ("strconv.ErrSyntax", Rows.laid_strconv_ErrSyntax)] W := h1
  obtain ⟨ps, ⟨g0, t0, cs0, f0, p0, q0, hg0, ht0, hv0, hd0, ⟨g1, t1, cs1, f1, p1, q1, hg1, ht1, hv1, hd1, hq1, e1⟩, e0⟩, hnd, hrows⟩ := h2
  obtain rfl := Option.some.inj (gRange.symm.trans hg0)
  obtain rfl := Option.some.inj (gSyntax.symm.trans hg1)
  obtain rfl := Option.some.inj (gRangeType.symm.trans ht0)
  obtain rfl := Option.some.inj (gSyntaxType.symm.trans ht1)
  have hq1' : q1 = [] := hq1
  subst hq1'
  subst e1
  subst e0
  obtain ⟨l0⟩ := cs0
  obtain ⟨l1⟩ := cs1
  have ok0 : ∀ u v, l0 = [.iface u v] → Value.okWide Tryd.prog W .any 0 u v := fun u v e => by
    subst e
    exact (hrows 2 0 (by simp [MemPlace.row])).2 u v (by simpa using World.var?_cell hg0 hv0 0)
  have ok1 : ∀ u v, l1 = [.iface u v] → Value.okWide Tryd.prog W .any 0 u v := fun u v e => by
    subst e
    exact (hrows 1 0 (by simp [MemPlace.row])).2 u v (by simpa using World.var?_cell hg1 hv1 0)
  obtain ⟨a0, s0, rfl, _⟩ := errorString_of_trod Tryd.underlying55 rowErr Tryd.underlying128 Tryd.underlying130 rfl rfl Tryd.underlying9 cellsErr cellsStr hd0 ok0
  obtain ⟨a1, s1, rfl, _⟩ := errorString_of_trod Tryd.underlying55 rowErr Tryd.underlying128 Tryd.underlying130 rfl rfl Tryd.underlying9 cellsErr cellsStr hd1 ok1
  exact ⟨⟨_, _, hv0⟩, ⟨_, _, hv1⟩⟩
theorem env_of {W : World} (h : laidMetH Tryd.prog listed W) (hs : W.ShapedOpen Tryd.prog) : Env W := ⟨table h, (sentinels h).2, (sentinels h).1, hs⟩
theorem i64_bd {a : Int} (h : (Lit.int .i64 a).wf = true) : -9223372036854775808 ≤ a ∧ a ≤ 9223372036854775807 := by
  simpa [Lit.wf, IntKind.min, IntKind.max, IntKind.signed, IntKind.bits] using h
end Go.Proofs.YtmgbcjjemlcfgaaDoor
