/- What is proved here: several parts. a number of two words divided by one word. Condition: the high word lies below the divisor. · the field's sums and products. Conditions: the modulus is positive. · a text hashed into the field. Conditions: the modulus is positive; the text is short. · the reference's sums and products in the field, texts hashed into it. Conditions: the modulus is positive; texts are short. -/
import Derived.Test.YtpdlbmieciabmaaDoorB1
import Derived.Test.YtpdlbmieciabmaaDoorM4
import Derived.Test.YtpdlbmieciabmaaDoorM3
import Derived.Deep.DeepCutAuto
import Derived.Deep.CutBlock
import Derived.Deep.RegionHeld3
import Derived.Deep.OwnRows
import Derived.Deep.RegionLaw
namespace Go.Proofs.YtpdlbmieciabmaaDoor
open Go.RowKit Go.Shelf
end Go.Proofs.YtpdlbmieciabmaaDoor
namespace Go.Proofs.YtpdlbmieciabmaaDoor
open Go.RowKit Go.Shelf
/-- The residue as a natural number. -/
def res (a p : Int) : Nat := (a % p).toNat
theorem res_lt {a p : Int} (h : 0 < p) : (res a p : Int) < p := by
  unfold res
  have := Int.emod_nonneg a (show p ≠ 0 by omega)
  have := Int.emod_lt_of_pos a h
  omega
theorem res_eq {a p : Int} (h : 0 < p) : (res a p : Int) = a % p := by
  unfold res
  have := Int.emod_nonneg a (show p ≠ 0 by omega)
  omega
theorem res_lt' {a p : Int} (h : 0 < p) : res a p < p.toNat := by have := res_lt (a := a) h; omega
end Go.Proofs.YtpdlbmieciabmaaDoor
namespace Go.Proofs.YtpdlbmieciabmaaDoor
open Go.RowKit Go.Shelf
/-- The bytes as a number of the field. -/
def accF (p : Int) (l : List UInt8) : Int := l.foldl (fun acc b => (acc * 256 % p + (b.toNat : Int)) % p) 0
theorem accF_snoc (p : Int) (l : List UInt8) (b : UInt8) : accF p (l ++ [b]) = (accF p l * 256 % p + (b.toNat : Int)) % p := by simp [accF]
theorem accF_in (p : Int) (hp : 0 < p) (l : List UInt8) : 0 ≤ accF p l ∧ accF p l < p := by
  have gen : ∀ (l : List UInt8) (a : Int), 0 ≤ a ∧ a < p → 0 ≤ l.foldl (fun acc b => (acc * 256 % p + (b.toNat : Int)) % p) a ∧ l.foldl (fun acc b => (acc * 256 % p + (b.toNat : Int)) % p) a < p := by
    intro l
    induction l with
    | nil => intro a h; exact h
    | cons b r ih => intro a _; exact ih _ ⟨Int.emod_nonneg _ (by omega), Int.emod_lt_of_pos _ hp⟩
  exact gen l 0 ⟨by omega, hp⟩
theorem only_drewN {S : Nat → Prop} {w w' : World} (h : Only S w w') (n : Nat) : Only S w (w'.drewN n) := ⟨h.os, h.tape, h.output, h.size, h.block⟩
def hashF (p : Int) (l : List UInt8) : Int := accF p (shaL l)
end Go.Proofs.YtpdlbmieciabmaaDoor
namespace Go.Proofs.YtpdlbmieciabmaaDoor
open Go.RowKit Go.Shelf
theorem mod_in {a p : Int} (h : 0 < p) : 0 ≤ a % p ∧ a % p < p := ⟨Int.emod_nonneg _ (by omega), Int.emod_lt_of_pos _ h⟩
/-- What holds between two rounds of the product. -/
def MulI (p g : Int) (x y o : Int) : Prop := 0 ≤ x ∧ x < p ∧ 0 ≤ y ∧ y < p ∧ 0 ≤ o ∧ o < p ∧ (o + x * y) % p = g
theorem mulI_odd {p g x y o : Int} (hp : 0 < p) (h : MulI p g x y o) (hy : y % 2 = 1) : MulI p g ((x + x) % p) (y / 2) ((o + x) % p) := by
  obtain ⟨x0, x1, y0, y1, o0, o1, e⟩ := h
  refine ⟨(mod_in hp).1, (mod_in hp).2, by omega, by omega, (mod_in hp).1, (mod_in hp).2, ?_⟩
  rw [← e, Int.add_emod, Int.mul_emod, Int.emod_emod, Int.emod_emod, ← Int.mul_emod, ← Int.add_emod]
  congr 1
  have : y = 2 * (y / 2) + 1 := by omega
  conv => rhs; rw [this]
  rw [Int.mul_add, Int.mul_one, ← Int.mul_assoc, Int.mul_comm x 2, ← Int.two_mul]
  omega
theorem mulI_even {p g x y o : Int} (hp : 0 < p) (h : MulI p g x y o) (hy : y % 2 = 0) : MulI p g ((x + x) % p) (y / 2) o := by
  obtain ⟨x0, x1, y0, y1, o0, o1, e⟩ := h
  refine ⟨(mod_in hp).1, (mod_in hp).2, by omega, by omega, o0, o1, ?_⟩
  rw [← e, Int.add_emod, Int.mul_emod, Int.emod_emod, ← Int.mul_emod, ← Int.add_emod]
  congr 1
  have : y = 2 * (y / 2) := by omega
  conv => rhs; rw [this]
  rw [← Int.mul_assoc, Int.mul_comm x 2, ← Int.two_mul]
end Go.Proofs.YtpdlbmieciabmaaDoor
