/-
  DERIVED. GIVEN WITH THE SEED: THE CARDS: each row of YtclpebgjmgfigaaGreatDoorRows.lean that lists a variable, with what it lists TIED to the program's text (the seventh form; the later family's looks); each row that meets fmt, with fmt's text TOLD by the authors' own Lean function (tested against real Go, not proved from fmt's source: count such statements apart). THE CARD IS WHAT COUNTS. Prove the row's statement (the work); the ties are given (YtclpebgjmgfigaaGreatDoorTie.lean); close each card by the builder's one call (the guide's Derived/Test/ToyasCard.lean, 'card_holds'). Laid BY PROGRAM, IN A SANDBOX (cutbox-door.mjs). By AI agents, Wed Nov 11 2026. No macro, syntax, notation, axiom, sorry.
-/
import Derived.Test.YtclpebgjmgfigaaGreatDoorRows
import GoSem.ClaimSeven
namespace Go.Proofs.YtclpebgjmgfigaaGreatDoor
namespace Rows

/-- THE TIED CARD OF 'probitylaw23.EventTexts'. -/
def eventTextsCard : Claim7 := { stood := { row := eventTextsRow, standIns := [], harness := (true, "f114e10edf9fc165ca9d46fd3f2d914c55e917ba79c1ab89f68a160c482df3ee"), looks := true }, kinds := [], alts := [], laidByText := true, laidKinds := [.data, .data, .data, .sentinel, .sentinel], laidTests := true, laidLooks := .later }
def EventTextsCardSaid : Prop := Claim7.holds Tryz.pinned (.plain (OpenSpec.ofChange eventTextsSpec)) eventTextsCard

/-- THE TIED CARD OF 'probitylaw23.EventCodes'. -/
def eventCodesCard : Claim7 := { stood := { row := eventCodesRow, standIns := [], harness := (true, "f114e10edf9fc165ca9d46fd3f2d914c55e917ba79c1ab89f68a160c482df3ee"), looks := true }, kinds := [], alts := [], laidByText := true, laidKinds := [.data, .data, .data, .sentinel, .sentinel], laidTests := true, laidLooks := .later }
def EventCodesCardSaid : Prop := Claim7.holds Tryz.pinned (.plain (OpenSpec.ofChange eventCodesSpec)) eventCodesCard

/-- THE TIED CARD OF 'probitylaw23.EventChain'. -/
def eventChainCard : Claim7 := { stood := { row := eventChainRow, standIns := [], harness := (true, "f114e10edf9fc165ca9d46fd3f2d914c55e917ba79c1ab89f68a160c482df3ee"), looks := true }, kinds := [], alts := [], laidByText := true, laidKinds := [.data, .data, .data, .sentinel, .sentinel], laidTests := true, laidLooks := .later }
def EventChainCardSaid : Prop := Claim7.holds Tryz.pinned (.plain (OpenSpec.ofChange eventChainSpec)) eventChainCard

/-- THE TIED CARD OF 'probitylaw23.EventLinks'. -/
def eventLinksCard : Claim7 := { stood := { row := eventLinksRow, standIns := [], harness := (true, "f114e10edf9fc165ca9d46fd3f2d914c55e917ba79c1ab89f68a160c482df3ee"), looks := true }, kinds := [], alts := [], laidByText := true, laidKinds := [.data, .data, .data, .sentinel, .sentinel], laidTests := true, laidLooks := .later }
def EventLinksCardSaid : Prop := Claim7.holds Tryz.pinned (.plain (OpenSpec.ofChange eventLinksSpec)) eventLinksCard

/-- THE TIED CARD OF 'probitylaw23.EventParts'. -/
def eventPartsCard : Claim7 := { stood := { row := eventPartsRow, standIns := [], harness := (true, "f114e10edf9fc165ca9d46fd3f2d914c55e917ba79c1ab89f68a160c482df3ee"), looks := true }, kinds := [], alts := [], laidByText := true, laidKinds := [.data, .data, .data, .sentinel, .sentinel], laidTests := true, laidLooks := .later }
def EventPartsCardSaid : Prop := Claim7.holds Tryz.pinned (.plain (OpenSpec.ofChange eventPartsSpec)) eventPartsCard

/-- THE TIED CARD OF 'probitylaw23.EventSigns'. -/
def eventSignsCard : Claim7 := { stood := { row := eventSignsRow, standIns := [], harness := (true, "f114e10edf9fc165ca9d46fd3f2d914c55e917ba79c1ab89f68a160c482df3ee"), looks := true }, kinds := [], alts := [], laidByText := true, laidKinds := [.data, .data, .data, .sentinel, .sentinel], laidTests := true, laidLooks := .later }
def EventSignsCardSaid : Prop := Claim7.holds Tryz.pinned (.plain (OpenSpec.ofChange eventSignsSpec)) eventSignsCard

/-- THE TIED CARD OF 'probitylaw23.EventVerify'. -/
def eventVerifyCard : Claim7 := { stood := { row := eventVerifyRow, standIns := [], harness := (true, "f114e10edf9fc165ca9d46fd3f2d914c55e917ba79c1ab89f68a160c482df3ee"), looks := true }, kinds := [], alts := [], laidByText := true, laidKinds := [.data, .data, .data, .sentinel, .sentinel], laidTests := true, laidLooks := .later }
def EventVerifyCardSaid : Prop := Claim7.holds Tryz.pinned (.plain (OpenSpec.ofChange eventVerifySpec)) eventVerifyCard

/-- THE SECOND FORM's CARD OF 'probitylaw23.EventTexts'. -/
def eventTextsUptoCard : Claim7 := { stood := { row := eventTextsUptoRow, standIns := [], harness := (true, "f114e10edf9fc165ca9d46fd3f2d914c55e917ba79c1ab89f68a160c482df3ee"), looks := true }, kinds := [], alts := [], laidByText := true, laidKinds := [.data, .data, .data, .sentinel, .sentinel], laidTests := true, laidLooks := .later }
def EventTextsUptoCardSaid : Prop := Claim7.holds Tryz.pinned (.plain (OpenSpec.upto eventTextsSpec)) eventTextsUptoCard

/-- THE SECOND FORM's CARD OF 'probitylaw23.EventCodes'. -/
def eventCodesUptoCard : Claim7 := { stood := { row := eventCodesUptoRow, standIns := [], harness := (true, "f114e10edf9fc165ca9d46fd3f2d914c55e917ba79c1ab89f68a160c482df3ee"), looks := true }, kinds := [], alts := [], laidByText := true, laidKinds := [.data, .data, .data, .sentinel, .sentinel], laidTests := true, laidLooks := .later }
def EventCodesUptoCardSaid : Prop := Claim7.holds Tryz.pinned (.plain (OpenSpec.upto eventCodesSpec)) eventCodesUptoCard

/-- THE SECOND FORM's CARD OF 'probitylaw23.EventChain'. -/
def eventChainUptoCard : Claim7 := { stood := { row := eventChainUptoRow, standIns := [], harness := (true, "f114e10edf9fc165ca9d46fd3f2d914c55e917ba79c1ab89f68a160c482df3ee"), looks := true }, kinds := [], alts := [], laidByText := true, laidKinds := [.data, .data, .data, .sentinel, .sentinel], laidTests := true, laidLooks := .later }
def EventChainUptoCardSaid : Prop := Claim7.holds Tryz.pinned (.plain (OpenSpec.upto eventChainSpec)) eventChainUptoCard

/-- THE SECOND FORM's CARD OF 'probitylaw23.EventLinks'. -/
def eventLinksUptoCard : Claim7 := { stood := { row := eventLinksUptoRow, standIns := [], harness := (true, "f114e10edf9fc165ca9d46fd3f2d914c55e917ba79c1ab89f68a160c482df3ee"), looks := true }, kinds := [], alts := [], laidByText := true, laidKinds := [.data, .data, .data, .sentinel, .sentinel], laidTests := true, laidLooks := .later }
def EventLinksUptoCardSaid : Prop := Claim7.holds Tryz.pinned (.plain (OpenSpec.upto eventLinksSpec)) eventLinksUptoCard

/-- THE SECOND FORM's CARD OF 'probitylaw23.EventParts'. -/
def eventPartsUptoCard : Claim7 := { stood := { row := eventPartsUptoRow, standIns := [], harness := (true, "f114e10edf9fc165ca9d46fd3f2d914c55e917ba79c1ab89f68a160c482df3ee"), looks := true }, kinds := [], alts := [], laidByText := true, laidKinds := [.data, .data, .data, .sentinel, .sentinel], laidTests := true, laidLooks := .later }
def EventPartsUptoCardSaid : Prop := Claim7.holds Tryz.pinned (.plain (OpenSpec.upto eventPartsSpec)) eventPartsUptoCard

/-- THE SECOND FORM's CARD OF 'probitylaw23.EventSigns'. -/
def eventSignsUptoCard : Claim7 := { stood := { row := eventSignsUptoRow, standIns := [], harness := (true, "f114e10edf9fc165ca9d46fd3f2d914c55e917ba79c1ab89f68a160c482df3ee"), looks := true }, kinds := [], alts := [], laidByText := true, laidKinds := [.data, .data, .data, .sentinel, .sentinel], laidTests := true, laidLooks := .later }
def EventSignsUptoCardSaid : Prop := Claim7.holds Tryz.pinned (.plain (OpenSpec.upto eventSignsSpec)) eventSignsUptoCard

/-- THE SECOND FORM's CARD OF 'probitylaw23.EventVerify'. -/
def eventVerifyUptoCard : Claim7 := { stood := { row := eventVerifyUptoRow, standIns := [], harness := (true, "f114e10edf9fc165ca9d46fd3f2d914c55e917ba79c1ab89f68a160c482df3ee"), looks := true }, kinds := [], alts := [], laidByText := true, laidKinds := [.data, .data, .data, .sentinel, .sentinel], laidTests := true, laidLooks := .later }
def EventVerifyUptoCardSaid : Prop := Claim7.holds Tryz.pinned (.plain (OpenSpec.upto eventVerifySpec)) eventVerifyUptoCard
end Rows
end Go.Proofs.YtclpebgjmgfigaaGreatDoor
