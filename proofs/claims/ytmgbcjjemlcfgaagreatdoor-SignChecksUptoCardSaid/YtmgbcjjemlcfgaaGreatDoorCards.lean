/-
  DERIVED. GIVEN WITH THE SEED: THE CARDS: each row of YtmgbcjjemlcfgaaGreatDoorRows.lean that lists a variable, with what it lists TIED to the program's text (the seventh form; the later family's looks); each row that meets fmt, with fmt's text TOLD by the authors' own Lean function (tested against real Go, not proved from fmt's source: count such statements apart). THE CARD IS WHAT COUNTS. Prove the row's statement (the work); the ties are given (YtmgbcjjemlcfgaaGreatDoorTie.lean); close each card by the builder's one call (the guide's Derived/Test/ToyasCard.lean, 'card_holds'). Laid BY PROGRAM, IN A SANDBOX (cutbox-door.mjs). By AI agents, Wed Nov 11 2026. No macro, syntax, notation, axiom, sorry.
-/
import Derived.Test.YtmgbcjjemlcfgaaGreatDoorRows
import GoSem.ClaimSeven
namespace Go.Proofs.YtmgbcjjemlcfgaaGreatDoor
namespace Rows

/-- THE TIED CARD OF 'probitylaw13.SignChecks'. -/
def signChecksCard : Claim7 := { stood := { row := signChecksRow, standIns := [], harness := (true, "ab4147dda279b21e44d0b034a68effac0f9a41a237c0b45a926fe0e798fbdda9"), looks := true }, kinds := [], alts := [], laidByText := true, laidKinds := [.data, .data, .data, .sentinel, .sentinel], laidTests := true, laidLooks := .later }
def SignChecksCardSaid : Prop := Claim7.holds Tryz.pinned (.plain (OpenSpec.ofChange signChecksSpec)) signChecksCard

/-- THE SECOND FORM's CARD OF 'probitylaw13.SignChecks'. -/
def signChecksUptoCard : Claim7 := { stood := { row := signChecksUptoRow, standIns := [], harness := (true, "ab4147dda279b21e44d0b034a68effac0f9a41a237c0b45a926fe0e798fbdda9"), looks := true }, kinds := [], alts := [], laidByText := true, laidKinds := [.data, .data, .data, .sentinel, .sentinel], laidTests := true, laidLooks := .later }
def SignChecksUptoCardSaid : Prop := Claim7.holds Tryz.pinned (.plain (OpenSpec.upto signChecksSpec)) signChecksUptoCard
end Rows
end Go.Proofs.YtmgbcjjemlcfgaaGreatDoor
