/- What is proved here: one thing of an event changed, in plain Lean; no program in sight. No conditions. -/
import Derived.Test.YtclpebgjmgfigaaGreatDoorEvB
namespace Go.Proofs.YtclpebgjmgfigaaGreatDoor
/-- A sum as the program's ints have it. -/
def wsum (a b : Int) : Int := IntKind.i64.wrap (a + b)
theorem wsum_in (a b : Int) : In (wsum a b) := by
  unfold wsum
  exact wrap_in _
/-- One thing is changed, as numbers determine. -/
def bentE (e : Ev) (a n : Int) : Ev :=
  match (a % 16).toNat with
  | 0 => { e with seq := wsum e.seq n }
  | 1 => { e with kind := wsum e.kind n }
  | 2 => { e with who := wsum e.who n }
  | 3 => { e with time := wsum e.time n }
  | 4 => { e with bidder := wsum e.bidder n }
  | 5 => { e with lot := wsum e.lot n }
  | 6 => { e with n := wsum e.n n }
  | 7 => { e with other := wsum e.other n }
  | 8 => { e with sx := wsum e.sx n }
  | 9 => { e with sy := wsum e.sy n }
  | 10 => { e with prev := e.prev.modify (n % 32).toNat (· ^^^ 1) }
  | 11 => { e with name := e.name ++ ⟨#[32]⟩ }
  | 12 => { e with text := ⟨#[49, 58]⟩ ++ e.text }
  | 13 => { e with r := wsum e.r n }
  | 14 => { e with s := wsum e.s n }
  | _ => { e with name := e.text, text := e.name }
theorem bentE_ok {e : Ev} (h : e.Ok) (a n : Int) : (bentE e a n).Ok := by
  unfold bentE
  split <;> exact ⟨by first | exact h.seq | exact wsum_in _ _, by first | exact h.kind | exact wsum_in _ _, by first | exact h.who | exact wsum_in _ _, by first | exact h.time | exact wsum_in _ _, by first | exact h.bidder | exact wsum_in _ _, by first | exact h.lot | exact wsum_in _ _, by first | exact h.n | exact wsum_in _ _, by first | exact h.other | exact wsum_in _ _, by first | exact h.sx | exact wsum_in _ _, by first | exact h.sy | exact wsum_in _ _, by first | exact h.prev | (rw [List.length_modify]; exact h.prev), by first | exact h.r | exact wsum_in _ _, by first | exact h.s | exact wsum_in _ _⟩
theorem bentE_size (e : Ev) (a n : Int) : (bentE e a n).name.size ≤ e.name.size + e.text.size + 1 ∧ (bentE e a n).text.size ≤ e.name.size + e.text.size + 2 := by
  unfold bentE
  split <;> simp only [ByteArray.size_append] <;> constructor <;> first | omega | (show _ + 1 ≤ _; omega) | (show 2 + _ ≤ _; omega)
end Go.Proofs.YtclpebgjmgfigaaGreatDoor
