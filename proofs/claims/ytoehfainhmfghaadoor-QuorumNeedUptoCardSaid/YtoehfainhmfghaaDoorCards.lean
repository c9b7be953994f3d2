/-
  DERIVED. GIVEN WITH THE SEED: THE CARDS: each row of YtoehfainhmfghaaDoorRows.lean that lists a variable, with what it lists TIED to the program's text (the seventh form; the later family's looks); each row that meets fmt, with fmt's text TOLD by the authors' own Lean function (tested against real Go, not proved from fmt's source: count such statements apart). THE CARD IS WHAT COUNTS. Prove the row's statement (the work); the ties are given (YtoehfainhmfghaaDoorTie.lean); close each card by the builder's one call (the guide's Derived/Test/ToyasCard.lean, 'card_holds'). Laid BY PROGRAM, IN A SANDBOX (cutbox-door.mjs). By AI agents, Wed Nov 11 2026. No macro, syntax, notation, axiom, sorry.
-/
import Derived.Test.YtoehfainhmfghaaDoorRows
import GoSem.ClaimSeven
namespace Go.Proofs.YtoehfainhmfghaaDoor
namespace Rows

/-- THE TIED CARD OF 'probitylaw29.QuorumNeed'. -/
def quorumNeedCard : Claim7 := { stood := { row := quorumNeedRow, standIns := [], harness := (true, "6147f4b8712afd3c8a910c3b0827a1661cf234a80e823ef62d06e6abbd1ca8f9"), looks := false }, kinds := [], alts := [], laidByText := true, laidKinds := [.data, .data, .data], laidTests := true, laidLooks := .later }
def QuorumNeedCardSaid : Prop := Claim7.holds Tryd.pinned (.plain (OpenSpec.ofChange quorumNeedSpec)) quorumNeedCard

/-- THE SECOND FORM's CARD OF 'probitylaw29.QuorumNeed'. -/
def quorumNeedUptoCard : Claim7 := { stood := { row := quorumNeedUptoRow, standIns := [], harness := (true, "6147f4b8712afd3c8a910c3b0827a1661cf234a80e823ef62d06e6abbd1ca8f9"), looks := false }, kinds := [], alts := [], laidByText := true, laidKinds := [.data, .data, .data], laidTests := true, laidLooks := .later }
def QuorumNeedUptoCardSaid : Prop := Claim7.holds Tryd.pinned (.plain (OpenSpec.upto quorumNeedSpec)) quorumNeedUptoCard
end Rows
end Go.Proofs.YtoehfainhmfghaaDoor
