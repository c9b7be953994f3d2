/- What is proved here: the law of other keys returns true, for every two keys. Conditions: the table of powers of ten reads as its initialiser lays it; the text is short. -/
import Derived.Test.YtdgapomeenigbaaDoorKeys
namespace Go.Proofs.YtdgapomeenigbaaDoor
open Go.RowKit Go.Shelf
theorem skeys_any (key : Int) (h0 : -9223372036854775808 ≤ key) (h1 : key ≤ 9223372036854775807) (other : Int) (k0 : -9223372036854775808 ≤ other) (k1 : other ≤ 9223372036854775807) (s : ByteArray) (hs : s.size ≤ 1048576) (w : World) (ht : Tab w) :
    Calls Tryd.prog 5 #[.int .i64 key, .int .i64 other, .string s] w fun e w' => e = .returned (.bool true) ∧ Only NoneOf w w' := by
  by_cases h : key = other
  · subst h; exact skeys_self key h0 h1 s hs w ht
  · exact skeys_other key other h0 h1 k0 k1 h s hs w ht
end Go.Proofs.YtdgapomeenigbaaDoor
