/-
  NARROWER THAN 'FOR EVERY INPUT', by the rows' own cells (each row's printed sentence says how): QuorumTexts: laid · QuorumClashes: laid · QuorumOverlap: laid · QuorumHonest: laid · QuorumLiar: laid · QuorumCertifies: laid · QuorumBest: laid · QuorumOrder: laid.
  DERIVED. THE GIVEN ROWS OF THIS SEAT. 8 by the template 'for every input the law returns true; each argument reads behind the call as it read before'; 0 by the template 'total and deterministic' (their statements: YtoehfainhmfghaaGreatDoorTotals.lean).
  GIVEN WITH THE SEED: the statements are not yours to turn. If you find one false, say at which input.
  Laid BY PROGRAM, IN A SANDBOX (cutbox-rows.mjs): the forced cells as the released guide's own fill.sh prints them over the translation 9d8f839dd02cfb59… (all of the seat's roots in one cut). By AI agents, Wed Nov 11 2026. No macro, syntax, notation, axiom, sorry.
-/
import Derived.Test.YtoehfainhmfghaaGreatDoorChecked
import GoSem.Claim
import GoSem.ClaimJoined
import GoSem.ClaimMapViews
import Derived.JoinedTies
import Derived.KernelRfl
namespace Go.Proofs.YtoehfainhmfghaaGreatDoor
/- THE CELL 'sum', in the pinned program and in every row, IS THE sha256 OF THE DUMP (.gsa) THAT YtoehfainhmfghaaGreatDoorProg.lean LOADS. Nothing in Lean hashes anything: it is a label: what it is worth is what the hold of that sum in a sandbox is worth. -/
noncomputable def Tryz.pinned : Pinned := { name := "ytoehfainhmfghaagreatdoor", sum := "9d8f839dd02cfb59bfd319fcb0e6ba13dbe83d5ada5a8efb2d9f65f2510f3028", checked := Tryz.checked }
namespace Rows
def none {H : Type} : Left H := { results := [], args := [] }

/- WHAT THE LISTED PACKAGE-LEVEL VARIABLES READ AS WHEN THE CALL BEGINS. Each datum BY PROGRAM (the guide's laid-datum.mjs) off the statement by which the dump's own 'gosem.cut.vars' lays the variable. In a bare row this is a premise. The card (YtoehfainhmfghaaGreatDoorCards.lean) ties it to the program's text. -/
def laid_math_bits_deBruijn32tab {H : Type} : DataW H := .agg [.lit (.int .u8 0), .lit (.int .u8 1), .lit (.int .u8 28), .lit (.int .u8 2), .lit (.int .u8 29), .lit (.int .u8 14), .lit (.int .u8 24), .lit (.int .u8 3), .lit (.int .u8 30), .lit (.int .u8 22), .lit (.int .u8 20), .lit (.int .u8 15), .lit (.int .u8 25), .lit (.int .u8 17), .lit (.int .u8 4), .lit (.int .u8 8), .lit (.int .u8 31), .lit (.int .u8 27), .lit (.int .u8 13), .lit (.int .u8 23), .lit (.int .u8 21), .lit (.int .u8 19), .lit (.int .u8 16), .lit (.int .u8 7), .lit (.int .u8 26), .lit (.int .u8 12), .lit (.int .u8 18), .lit (.int .u8 6), .lit (.int .u8 11), .lit (.int .u8 5), .lit (.int .u8 10), .lit (.int .u8 9)]
def laid_math_bits_deBruijn64tab {H : Type} : DataW H := .agg [.lit (.int .u8 0), .lit (.int .u8 1), .lit (.int .u8 56), .lit (.int .u8 2), .lit (.int .u8 57), .lit (.int .u8 49), .lit (.int .u8 28), .lit (.int .u8 3), .lit (.int .u8 61), .lit (.int .u8 58), .lit (.int .u8 42), .lit (.int .u8 50), .lit (.int .u8 38), .lit (.int .u8 29), .lit (.int .u8 17), .lit (.int .u8 4), .lit (.int .u8 62), .lit (.int .u8 47), .lit (.int .u8 59), .lit (.int .u8 36), .lit (.int .u8 45), .lit (.int .u8 43), .lit (.int .u8 51), .lit (.int .u8 22), .lit (.int .u8 53), .lit (.int .u8 39), .lit (.int .u8 33), .lit (.int .u8 30), .lit (.int .u8 24), .lit (.int .u8 18), .lit (.int .u8 12), .lit (.int .u8 5), .lit (.int .u8 63), .lit (.int .u8 55), .lit (.int .u8 48), .lit (.int .u8 27), .lit (.int .u8 60), .lit (.int .u8 41), .lit (.int .u8 37), .lit (.int .u8 16), .lit (.int .u8 46), .lit (.int .u8 35), .lit (.int .u8 44), .lit (.int .u8 21), .lit (.int .u8 52), .lit (.int .u8 32), .lit (.int .u8 23), .lit (.int .u8 11), .lit (.int .u8 54), .lit (.int .u8 26), .lit (.int .u8 40), .lit (.int .u8 15), .lit (.int .u8 34), .lit (.int .u8 20), .lit (.int .u8 31), .lit (.int .u8 10), .lit (.int .u8 25), .lit (.int .u8 14), .lit (.int .u8 19), .lit (.int .u8 9), .lit (.int .u8 13), .lit (.int .u8 8), .lit (.int .u8 7), .lit (.int .u8 6)]
def laid_internal_strconv_uint64pow10 {H : Type} : DataW H := .agg [.lit (.int .u64 1), .lit (.int .u64 10), .lit (.int .u64 100), .lit (.int .u64 1000), .lit (.int .u64 10000), .lit (.int .u64 100000), .lit (.int .u64 1000000), .lit (.int .u64 10000000), .lit (.int .u64 100000000), .lit (.int .u64 1000000000), .lit (.int .u64 10000000000), .lit (.int .u64 100000000000), .lit (.int .u64 1000000000000), .lit (.int .u64 10000000000000), .lit (.int .u64 100000000000000), .lit (.int .u64 1000000000000000), .lit (.int .u64 10000000000000000), .lit (.int .u64 100000000000000000), .lit (.int .u64 1000000000000000000), .lit (.int .u64 10000000000000000000)]

/-- 'probitylaw29.QuorumTexts': WHATEVER THE INPUT: true; the input reads as it did. -/
def quorumTextsSpec : ChangeSpec := { name := "quorumTexts", fn := fun _ => fun
  | [d1, d2, d3] => { results := [.lit (.bool true)], args := [d1, d2, d3] }
  | _ => none }
def quorumTextsRow : OpenClaim := { program := "ytoehfainhmfghaagreatdoor", sum := "9d8f839dd02cfb59bfd319fcb0e6ba13dbe83d5ada5a8efb2d9f65f2510f3028", func := "probity/probitylaw29.QuorumTexts", spec := "quorumTexts", inPlace := ["internal/abi.NoEscape"], unfollowed := true, recurses := true, named := ["internal/strconv.uint64pow10", "math/bits.deBruijn32tab", "math/bits.deBruijn64tab", "math/bits.divideError", "math/bits.overflowError"], plainKeys := false, apart := false, laid := [("math/bits.deBruijn32tab", laid_math_bits_deBruijn32tab), ("math/bits.deBruijn64tab", laid_math_bits_deBruijn64tab), ("internal/strconv.uint64pow10", laid_internal_strconv_uint64pow10)] }
def QuorumTextsSaid : Prop := quorumTextsRow.holds Tryz.pinned (OpenSpec.ofChange quorumTextsSpec)

/-- ITS FALSE NEIGHBOUR: 'it returns false'. Refute it at one input. -/
def quorumTextsWrong : ChangeSpec := { name := "quorumTexts", fn := fun _ => fun
  | [d1, d2, d3] => { results := [.lit (.bool false)], args := [d1, d2, d3] }
  | _ => none }
def QuorumTextsWrongFalsely : Prop := quorumTextsRow.holds Tryz.pinned (OpenSpec.ofChange quorumTextsWrong)

/-- 'probitylaw29.QuorumClashes': WHATEVER THE INPUT: true; the input reads as it did. -/
def quorumClashesSpec : ChangeSpec := { name := "quorumClashes", fn := fun _ => fun
  | [d1, d2, d3] => { results := [.lit (.bool true)], args := [d1, d2, d3] }
  | _ => none }
def quorumClashesRow : OpenClaim := { program := "ytoehfainhmfghaagreatdoor", sum := "9d8f839dd02cfb59bfd319fcb0e6ba13dbe83d5ada5a8efb2d9f65f2510f3028", func := "probity/probitylaw29.QuorumClashes", spec := "quorumClashes", inPlace := ["internal/abi.NoEscape"], unfollowed := true, recurses := true, named := ["internal/strconv.uint64pow10", "math/bits.deBruijn32tab", "math/bits.deBruijn64tab", "math/bits.divideError", "math/bits.overflowError"], plainKeys := false, apart := false, laid := [("math/bits.deBruijn32tab", laid_math_bits_deBruijn32tab), ("math/bits.deBruijn64tab", laid_math_bits_deBruijn64tab), ("internal/strconv.uint64pow10", laid_internal_strconv_uint64pow10)] }
def QuorumClashesSaid : Prop := quorumClashesRow.holds Tryz.pinned (OpenSpec.ofChange quorumClashesSpec)

/-- ITS FALSE NEIGHBOUR: 'it returns false'. Refute it at one input. -/
def quorumClashesWrong : ChangeSpec := { name := "quorumClashes", fn := fun _ => fun
  | [d1, d2, d3] => { results := [.lit (.bool false)], args := [d1, d2, d3] }
  | _ => none }
def QuorumClashesWrongFalsely : Prop := quorumClashesRow.holds Tryz.pinned (OpenSpec.ofChange quorumClashesWrong)

/-- 'probitylaw29.QuorumOverlap': WHATEVER THE INPUT: true; the input reads as it did. -/
def quorumOverlapSpec : ChangeSpec := { name := "quorumOverlap", fn := fun _ => fun
  | [d1, d2, d3] => { results := [.lit (.bool true)], args := [d1, d2, d3] }
  | _ => none }
def quorumOverlapRow : OpenClaim := { program := "ytoehfainhmfghaagreatdoor", sum := "9d8f839dd02cfb59bfd319fcb0e6ba13dbe83d5ada5a8efb2d9f65f2510f3028", func := "probity/probitylaw29.QuorumOverlap", spec := "quorumOverlap", inPlace := ["internal/abi.NoEscape"], unfollowed := true, recurses := true, named := ["internal/strconv.uint64pow10", "math/bits.deBruijn32tab", "math/bits.deBruijn64tab", "math/bits.divideError", "math/bits.overflowError"], plainKeys := false, apart := false, laid := [("math/bits.deBruijn32tab", laid_math_bits_deBruijn32tab), ("math/bits.deBruijn64tab", laid_math_bits_deBruijn64tab), ("internal/strconv.uint64pow10", laid_internal_strconv_uint64pow10)] }
def QuorumOverlapSaid : Prop := quorumOverlapRow.holds Tryz.pinned (OpenSpec.ofChange quorumOverlapSpec)

/-- ITS FALSE NEIGHBOUR: 'it returns false'. Refute it at one input. -/
def quorumOverlapWrong : ChangeSpec := { name := "quorumOverlap", fn := fun _ => fun
  | [d1, d2, d3] => { results := [.lit (.bool false)], args := [d1, d2, d3] }
  | _ => none }
def QuorumOverlapWrongFalsely : Prop := quorumOverlapRow.holds Tryz.pinned (OpenSpec.ofChange quorumOverlapWrong)

/-- 'probitylaw29.QuorumHonest': WHATEVER THE INPUT: true; the input reads as it did. -/
def quorumHonestSpec : ChangeSpec := { name := "quorumHonest", fn := fun _ => fun
  | [d1, d2, d3] => { results := [.lit (.bool true)], args := [d1, d2, d3] }
  | _ => none }
def quorumHonestRow : OpenClaim := { program := "ytoehfainhmfghaagreatdoor", sum := "9d8f839dd02cfb59bfd319fcb0e6ba13dbe83d5ada5a8efb2d9f65f2510f3028", func := "probity/probitylaw29.QuorumHonest", spec := "quorumHonest", inPlace := ["internal/abi.NoEscape"], unfollowed := true, recurses := true, named := ["internal/strconv.uint64pow10", "math/bits.deBruijn32tab", "math/bits.deBruijn64tab", "math/bits.divideError", "math/bits.overflowError"], plainKeys := false, apart := false, laid := [("math/bits.deBruijn32tab", laid_math_bits_deBruijn32tab), ("math/bits.deBruijn64tab", laid_math_bits_deBruijn64tab), ("internal/strconv.uint64pow10", laid_internal_strconv_uint64pow10)] }
def QuorumHonestSaid : Prop := quorumHonestRow.holds Tryz.pinned (OpenSpec.ofChange quorumHonestSpec)

/-- ITS FALSE NEIGHBOUR: 'it returns false'. Refute it at one input. -/
def quorumHonestWrong : ChangeSpec := { name := "quorumHonest", fn := fun _ => fun
  | [d1, d2, d3] => { results := [.lit (.bool false)], args := [d1, d2, d3] }
  | _ => none }
def QuorumHonestWrongFalsely : Prop := quorumHonestRow.holds Tryz.pinned (OpenSpec.ofChange quorumHonestWrong)

/-- 'probitylaw29.QuorumLiar': WHATEVER THE INPUT: true; the input reads as it did. -/
def quorumLiarSpec : ChangeSpec := { name := "quorumLiar", fn := fun _ => fun
  | [d1, d2, d3] => { results := [.lit (.bool true)], args := [d1, d2, d3] }
  | _ => none }
def quorumLiarRow : OpenClaim := { program := "ytoehfainhmfghaagreatdoor", sum := "9d8f839dd02cfb59bfd319fcb0e6ba13dbe83d5ada5a8efb2d9f65f2510f3028", func := "probity/probitylaw29.QuorumLiar", spec := "quorumLiar", inPlace := ["internal/abi.NoEscape"], unfollowed := true, recurses := true, named := ["internal/strconv.uint64pow10", "math/bits.deBruijn32tab", "math/bits.deBruijn64tab", "math/bits.divideError", "math/bits.overflowError"], plainKeys := false, apart := false, laid := [("math/bits.deBruijn32tab", laid_math_bits_deBruijn32tab), ("math/bits.deBruijn64tab", laid_math_bits_deBruijn64tab), ("internal/strconv.uint64pow10", laid_internal_strconv_uint64pow10)] }
def QuorumLiarSaid : Prop := quorumLiarRow.holds Tryz.pinned (OpenSpec.ofChange quorumLiarSpec)

/-- ITS FALSE NEIGHBOUR: 'it returns false'. Refute it at one input. -/
def quorumLiarWrong : ChangeSpec := { name := "quorumLiar", fn := fun _ => fun
  | [d1, d2, d3] => { results := [.lit (.bool false)], args := [d1, d2, d3] }
  | _ => none }
def QuorumLiarWrongFalsely : Prop := quorumLiarRow.holds Tryz.pinned (OpenSpec.ofChange quorumLiarWrong)

/-- 'probitylaw29.QuorumCertifies': WHATEVER THE INPUT: true; the input reads as it did. -/
def quorumCertifiesSpec : ChangeSpec := { name := "quorumCertifies", fn := fun _ => fun
  | [d1, d2, d3] => { results := [.lit (.bool true)], args := [d1, d2, d3] }
  | _ => none }
def quorumCertifiesRow : OpenClaim := { program := "ytoehfainhmfghaagreatdoor", sum := "9d8f839dd02cfb59bfd319fcb0e6ba13dbe83d5ada5a8efb2d9f65f2510f3028", func := "probity/probitylaw29.QuorumCertifies", spec := "quorumCertifies", inPlace := ["internal/abi.NoEscape"], unfollowed := true, recurses := true, named := ["internal/strconv.uint64pow10", "math/bits.deBruijn32tab", "math/bits.deBruijn64tab", "math/bits.divideError", "math/bits.overflowError"], plainKeys := false, apart := false, laid := [("math/bits.deBruijn32tab", laid_math_bits_deBruijn32tab), ("math/bits.deBruijn64tab", laid_math_bits_deBruijn64tab), ("internal/strconv.uint64pow10", laid_internal_strconv_uint64pow10)] }
def QuorumCertifiesSaid : Prop := quorumCertifiesRow.holds Tryz.pinned (OpenSpec.ofChange quorumCertifiesSpec)

/-- ITS FALSE NEIGHBOUR: 'it returns false'. Refute it at one input. -/
def quorumCertifiesWrong : ChangeSpec := { name := "quorumCertifies", fn := fun _ => fun
  | [d1, d2, d3] => { results := [.lit (.bool false)], args := [d1, d2, d3] }
  | _ => none }
def QuorumCertifiesWrongFalsely : Prop := quorumCertifiesRow.holds Tryz.pinned (OpenSpec.ofChange quorumCertifiesWrong)

/-- 'probitylaw29.QuorumBest': WHATEVER THE INPUT: true; the input reads as it did. -/
def quorumBestSpec : ChangeSpec := { name := "quorumBest", fn := fun _ => fun
  | [d1, d2, d3] => { results := [.lit (.bool true)], args := [d1, d2, d3] }
  | _ => none }
def quorumBestRow : OpenClaim := { program := "ytoehfainhmfghaagreatdoor", sum := "9d8f839dd02cfb59bfd319fcb0e6ba13dbe83d5ada5a8efb2d9f65f2510f3028", func := "probity/probitylaw29.QuorumBest", spec := "quorumBest", inPlace := ["internal/abi.NoEscape"], unfollowed := true, recurses := true, named := ["internal/strconv.uint64pow10", "math/bits.deBruijn32tab", "math/bits.deBruijn64tab", "math/bits.divideError", "math/bits.overflowError"], plainKeys := false, apart := false, laid := [("math/bits.deBruijn32tab", laid_math_bits_deBruijn32tab), ("math/bits.deBruijn64tab", laid_math_bits_deBruijn64tab), ("internal/strconv.uint64pow10", laid_internal_strconv_uint64pow10)] }
def QuorumBestSaid : Prop := quorumBestRow.holds Tryz.pinned (OpenSpec.ofChange quorumBestSpec)

/-- ITS FALSE NEIGHBOUR: 'it returns false'. Refute it at one input. -/
def quorumBestWrong : ChangeSpec := { name := "quorumBest", fn := fun _ => fun
  | [d1, d2, d3] => { results := [.lit (.bool false)], args := [d1, d2, d3] }
  | _ => none }
def QuorumBestWrongFalsely : Prop := quorumBestRow.holds Tryz.pinned (OpenSpec.ofChange quorumBestWrong)

/-- 'probitylaw29.QuorumOrder': WHATEVER THE INPUT: true; the input reads as it did. -/
def quorumOrderSpec : ChangeSpec := { name := "quorumOrder", fn := fun _ => fun
  | [d1, d2, d3] => { results := [.lit (.bool true)], args := [d1, d2, d3] }
  | _ => none }
def quorumOrderRow : OpenClaim := { program := "ytoehfainhmfghaagreatdoor", sum := "9d8f839dd02cfb59bfd319fcb0e6ba13dbe83d5ada5a8efb2d9f65f2510f3028", func := "probity/probitylaw29.QuorumOrder", spec := "quorumOrder", inPlace := ["internal/abi.NoEscape"], unfollowed := true, recurses := true, named := ["internal/strconv.uint64pow10", "math/bits.deBruijn32tab", "math/bits.deBruijn64tab", "math/bits.divideError", "math/bits.overflowError"], plainKeys := false, apart := false, laid := [("math/bits.deBruijn32tab", laid_math_bits_deBruijn32tab), ("math/bits.deBruijn64tab", laid_math_bits_deBruijn64tab), ("internal/strconv.uint64pow10", laid_internal_strconv_uint64pow10)] }
def QuorumOrderSaid : Prop := quorumOrderRow.holds Tryz.pinned (OpenSpec.ofChange quorumOrderSpec)

/-- ITS FALSE NEIGHBOUR: 'it returns false'. Refute it at one input. -/
def quorumOrderWrong : ChangeSpec := { name := "quorumOrder", fn := fun _ => fun
  | [d1, d2, d3] => { results := [.lit (.bool false)], args := [d1, d2, d3] }
  | _ => none }
def QuorumOrderWrongFalsely : Prop := quorumOrderRow.holds Tryz.pinned (OpenSpec.ofChange quorumOrderWrong)

/- THE SECOND FORM. 'bulk': how many values and letters a reading holds, each counted each time it is reached (what is shared counts as often as it is met; a slice's spare places count too). A statement '..UptoSaid' is the law's where the arguments, and the package variables that the reading takes, are together of bulk at most 1048576: NARROWER than '..Said'. Prove '..Said' where nothing that the law and all that it calls make is longer than what came in: it says more and counts as full. Else prove '..UptoSaid'. A law counts once. -/
mutual
def uptoBulk {H : Type} : DataW H → Nat
  | .lit (.string bytes) => bytes.length + 1
  | .lit _ => 1
  | .nil => 1
  | .ptr d => uptoBulk d + 1
  | .slice elems spare => uptoBulkAll elems + uptoBulkAll spare + 1
  | .agg parts => uptoBulkAll parts + 1
  | .iface _ d => uptoBulk d + 1
  | .map entries => uptoBulkEntries entries + 1
  | .held _ => 1
def uptoBulkAll {H : Type} : List (DataW H) → Nat
  | [] => 0
  | d :: r => uptoBulk d + uptoBulkAll r
def uptoBulkEntries {H : Type} : List (Lit × DataW H) → Nat
  | [] => 0
  | x :: r => uptoBulkEntry x + uptoBulkEntries r
def uptoBulkEntry {H : Type} : Lit × DataW H → Nat
  | (.string bytes, d) => bytes.length + uptoBulk d + 1
  | (_, d) => uptoBulk d + 1
 end
def uptoSmall : (H : Type) → List (DataW H) → Bool := fun _ ds => decide (uptoBulkAll ds ≤ 1048576)
def OpenSpec.upto (s : _root_.Go.ChangeSpec) : _root_.Go.OpenSpec := { _root_.Go.OpenSpec.ofChange s with cond := some uptoSmall }

/-- 'probitylaw29.QuorumTexts', WHERE WHAT IT READS IS OF BULK AT MOST 1048576: true; the input reads as it did. -/
def quorumTextsUptoRow : OpenClaim := { program := "ytoehfainhmfghaagreatdoor", sum := "9d8f839dd02cfb59bfd319fcb0e6ba13dbe83d5ada5a8efb2d9f65f2510f3028", func := "probity/probitylaw29.QuorumTexts", spec := "quorumTexts", inPlace := ["internal/abi.NoEscape"], unfollowed := true, recurses := true, named := ["internal/strconv.uint64pow10", "math/bits.deBruijn32tab", "math/bits.deBruijn64tab", "math/bits.divideError", "math/bits.overflowError"], plainKeys := false, apart := false, laid := [("math/bits.deBruijn32tab", laid_math_bits_deBruijn32tab), ("math/bits.deBruijn64tab", laid_math_bits_deBruijn64tab), ("internal/strconv.uint64pow10", laid_internal_strconv_uint64pow10)], narrowed := true }
def QuorumTextsUptoSaid : Prop := quorumTextsUptoRow.holds Tryz.pinned (OpenSpec.upto quorumTextsSpec)

/-- 'probitylaw29.QuorumClashes', WHERE WHAT IT READS IS OF BULK AT MOST 1048576: true; the input reads as it did. -/
def quorumClashesUptoRow : OpenClaim := { program := "ytoehfainhmfghaagreatdoor", sum := "9d8f839dd02cfb59bfd319fcb0e6ba13dbe83d5ada5a8efb2d9f65f2510f3028", func := "probity/probitylaw29.QuorumClashes", spec := "quorumClashes", inPlace := ["internal/abi.NoEscape"], unfollowed := true, recurses := true, named := ["internal/strconv.uint64pow10", "math/bits.deBruijn32tab", "math/bits.deBruijn64tab", "math/bits.divideError", "math/bits.overflowError"], plainKeys := false, apart := false, laid := [("math/bits.deBruijn32tab", laid_math_bits_deBruijn32tab), ("math/bits.deBruijn64tab", laid_math_bits_deBruijn64tab), ("internal/strconv.uint64pow10", laid_internal_strconv_uint64pow10)], narrowed := true }
def QuorumClashesUptoSaid : Prop := quorumClashesUptoRow.holds Tryz.pinned (OpenSpec.upto quorumClashesSpec)

/-- 'probitylaw29.QuorumOverlap', WHERE WHAT IT READS IS OF BULK AT MOST 1048576: true; the input reads as it did. -/
def quorumOverlapUptoRow : OpenClaim := { program := "ytoehfainhmfghaagreatdoor", sum := "9d8f839dd02cfb59bfd319fcb0e6ba13dbe83d5ada5a8efb2d9f65f2510f3028", func := "probity/probitylaw29.QuorumOverlap", spec := "quorumOverlap", inPlace := ["internal/abi.NoEscape"], unfollowed := true, recurses := true, named := ["internal/strconv.uint64pow10", "math/bits.deBruijn32tab", "math/bits.deBruijn64tab", "math/bits.divideError", "math/bits.overflowError"], plainKeys := false, apart := false, laid := [("math/bits.deBruijn32tab", laid_math_bits_deBruijn32tab), ("math/bits.deBruijn64tab", laid_math_bits_deBruijn64tab), ("internal/strconv.uint64pow10", laid_internal_strconv_uint64pow10)], narrowed := true }
def QuorumOverlapUptoSaid : Prop := quorumOverlapUptoRow.holds Tryz.pinned (OpenSpec.upto quorumOverlapSpec)

/-- 'probitylaw29.QuorumHonest', WHERE WHAT IT READS IS OF BULK AT MOST 1048576: true; the input reads as it did. -/
def quorumHonestUptoRow : OpenClaim := { program := "ytoehfainhmfghaagreatdoor", sum := "9d8f839dd02cfb59bfd319fcb0e6ba13dbe83d5ada5a8efb2d9f65f2510f3028", func := "probity/probitylaw29.QuorumHonest", spec := "quorumHonest", inPlace := ["internal/abi.NoEscape"], unfollowed := true, recurses := true, named := ["internal/strconv.uint64pow10", "math/bits.deBruijn32tab", "math/bits.deBruijn64tab", "math/bits.divideError", "math/bits.overflowError"], plainKeys := false, apart := false, laid := [("math/bits.deBruijn32tab", laid_math_bits_deBruijn32tab), ("math/bits.deBruijn64tab", laid_math_bits_deBruijn64tab), ("internal/strconv.uint64pow10", laid_internal_strconv_uint64pow10)], narrowed := true }
def QuorumHonestUptoSaid : Prop := quorumHonestUptoRow.holds Tryz.pinned (OpenSpec.upto quorumHonestSpec)

/-- 'probitylaw29.QuorumLiar', WHERE WHAT IT READS IS OF BULK AT MOST 1048576: true; the input reads as it did. -/
def quorumLiarUptoRow : OpenClaim := { program := "ytoehfainhmfghaagreatdoor", sum := "9d8f839dd02cfb59bfd319fcb0e6ba13dbe83d5ada5a8efb2d9f65f2510f3028", func := "probity/probitylaw29.QuorumLiar", spec := "quorumLiar", inPlace := ["internal/abi.NoEscape"], unfollowed := true, recurses := true, named := ["internal/strconv.uint64pow10", "math/bits.deBruijn32tab", "math/bits.deBruijn64tab", "math/bits.divideError", "math/bits.overflowError"], plainKeys := false, apart := false, laid := [("math/bits.deBruijn32tab", laid_math_bits_deBruijn32tab), ("math/bits.deBruijn64tab", laid_math_bits_deBruijn64tab), ("internal/strconv.uint64pow10", laid_internal_strconv_uint64pow10)], narrowed := true }
def QuorumLiarUptoSaid : Prop := quorumLiarUptoRow.holds Tryz.pinned (OpenSpec.upto quorumLiarSpec)

/-- 'probitylaw29.QuorumCertifies', WHERE WHAT IT READS IS OF BULK AT MOST 1048576: true; the input reads as it did. -/
def quorumCertifiesUptoRow : OpenClaim := { program := "ytoehfainhmfghaagreatdoor", sum := "9d8f839dd02cfb59bfd319fcb0e6ba13dbe83d5ada5a8efb2d9f65f2510f3028", func := "probity/probitylaw29.QuorumCertifies", spec := "quorumCertifies", inPlace := ["internal/abi.NoEscape"], unfollowed := true, recurses := true, named := ["internal/strconv.uint64pow10", "math/bits.deBruijn32tab", "math/bits.deBruijn64tab", "math/bits.divideError", "math/bits.overflowError"], plainKeys := false, apart := false, laid := [("math/bits.deBruijn32tab", laid_math_bits_deBruijn32tab), ("math/bits.deBruijn64tab", laid_math_bits_deBruijn64tab), ("internal/strconv.uint64pow10", laid_internal_strconv_uint64pow10)], narrowed := true }
def QuorumCertifiesUptoSaid : Prop := quorumCertifiesUptoRow.holds Tryz.pinned (OpenSpec.upto quorumCertifiesSpec)

/-- 'probitylaw29.QuorumBest', WHERE WHAT IT READS IS OF BULK AT MOST 1048576: true; the input reads as it did. -/
def quorumBestUptoRow : OpenClaim := { program := "ytoehfainhmfghaagreatdoor", sum := "9d8f839dd02cfb59bfd319fcb0e6ba13dbe83d5ada5a8efb2d9f65f2510f3028", func := "probity/probitylaw29.QuorumBest", spec := "quorumBest", inPlace := ["internal/abi.NoEscape"], unfollowed := true, recurses := true, named := ["internal/strconv.uint64pow10", "math/bits.deBruijn32tab", "math/bits.deBruijn64tab", "math/bits.divideError", "math/bits.overflowError"], plainKeys := false, apart := false, laid := [("math/bits.deBruijn32tab", laid_math_bits_deBruijn32tab), ("math/bits.deBruijn64tab", laid_math_bits_deBruijn64tab), ("internal/strconv.uint64pow10", laid_internal_strconv_uint64pow10)], narrowed := true }
def QuorumBestUptoSaid : Prop := quorumBestUptoRow.holds Tryz.pinned (OpenSpec.upto quorumBestSpec)

/-- 'probitylaw29.QuorumOrder', WHERE WHAT IT READS IS OF BULK AT MOST 1048576: true; the input reads as it did. -/
def quorumOrderUptoRow : OpenClaim := { program := "ytoehfainhmfghaagreatdoor", sum := "9d8f839dd02cfb59bfd319fcb0e6ba13dbe83d5ada5a8efb2d9f65f2510f3028", func := "probity/probitylaw29.QuorumOrder", spec := "quorumOrder", inPlace := ["internal/abi.NoEscape"], unfollowed := true, recurses := true, named := ["internal/strconv.uint64pow10", "math/bits.deBruijn32tab", "math/bits.deBruijn64tab", "math/bits.divideError", "math/bits.overflowError"], plainKeys := false, apart := false, laid := [("math/bits.deBruijn32tab", laid_math_bits_deBruijn32tab), ("math/bits.deBruijn64tab", laid_math_bits_deBruijn64tab), ("internal/strconv.uint64pow10", laid_internal_strconv_uint64pow10)], narrowed := true }
def QuorumOrderUptoSaid : Prop := quorumOrderUptoRow.holds Tryz.pinned (OpenSpec.upto quorumOrderSpec)

end Rows
end Go.Proofs.YtoehfainhmfghaaGreatDoor
