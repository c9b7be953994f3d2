/-
  DERIVED. GIVEN WITH THE SEED: THE CARDS: each row of YtpdlbmieciabmaaGreatDoorRows.lean that lists a variable, with what it lists TIED to the program's text (the seventh form; the later family's looks); each row that meets fmt, with fmt's text TOLD by the authors' own Lean function (tested against real Go, not proved from fmt's source: count such statements apart). THE CARD IS WHAT COUNTS. Prove the row's statement (the work); the ties are given (YtpdlbmieciabmaaGreatDoorTie.lean); close each card by the builder's one call (the guide's Derived/Test/ToyasCard.lean, 'card_holds'). Laid BY PROGRAM, IN A SANDBOX (cutbox-door.mjs). By AI agents, Wed Nov 11 2026. No macro, syntax, notation, axiom, sorry.
-/
import Derived.Test.YtpdlbmieciabmaaGreatDoorRows
import GoSem.ClaimSeven
namespace Go.Proofs.YtpdlbmieciabmaaGreatDoor
namespace Rows

/-- THE TIED CARD OF 'probitylaw16.BidBlind'. -/
def bidBlindCard : Claim7 := { stood := { row := bidBlindRow, standIns := [], harness := (true, "fc49b4fb0c16d5a8002ada571cbbc60a92600d68e55b429d062dcf0227de7201"), looks := true }, kinds := [], alts := [], laidByText := true, laidKinds := [.data, .data, .data, .data, .sentinel, .sentinel, .pinned], laidTests := true, laidLooks := .later }
def BidBlindCardSaid : Prop := Claim7.holds Tryz.pinned (.plain (OpenSpec.ofChange bidBlindSpec)) bidBlindCard

/-- THE TIED CARD OF 'probitylaw16.BidKeeps'. -/
def bidKeepsCard : Claim7 := { stood := { row := bidKeepsRow, standIns := [], harness := (true, "fc49b4fb0c16d5a8002ada571cbbc60a92600d68e55b429d062dcf0227de7201"), looks := true }, kinds := [], alts := [], laidByText := true, laidKinds := [.data, .data, .data, .data, .sentinel, .sentinel, .pinned], laidTests := true, laidLooks := .later }
def BidKeepsCardSaid : Prop := Claim7.holds Tryz.pinned (.plain (OpenSpec.ofChange bidKeepsSpec)) bidKeepsCard

/-- THE TIED CARD OF 'probitylaw16.BidCodes'. -/
def bidCodesCard : Claim7 := { stood := { row := bidCodesRow, standIns := [], harness := (true, "fc49b4fb0c16d5a8002ada571cbbc60a92600d68e55b429d062dcf0227de7201"), looks := true }, kinds := [], alts := [], laidByText := true, laidKinds := [.data, .data, .data, .data, .sentinel, .sentinel, .pinned], laidTests := true, laidLooks := .later }
def BidCodesCardSaid : Prop := Claim7.holds Tryz.pinned (.plain (OpenSpec.ofChange bidCodesSpec)) bidCodesCard

/-- THE TIED CARD OF 'probitylaw16.BidMakes'. -/
def bidMakesCard : Claim7 := { stood := { row := bidMakesRow, standIns := [], harness := (true, "fc49b4fb0c16d5a8002ada571cbbc60a92600d68e55b429d062dcf0227de7201"), looks := true }, kinds := [], alts := [], laidByText := true, laidKinds := [.data, .data, .data, .data, .sentinel, .sentinel, .pinned], laidTests := true, laidLooks := .later }
def BidMakesCardSaid : Prop := Claim7.holds Tryz.pinned (.plain (OpenSpec.ofChange bidMakesSpec)) bidMakesCard

/-- THE TIED CARD OF 'probitylaw16.BidOpens'. -/
def bidOpensCard : Claim7 := { stood := { row := bidOpensRow, standIns := [], harness := (true, "fc49b4fb0c16d5a8002ada571cbbc60a92600d68e55b429d062dcf0227de7201"), looks := true }, kinds := [], alts := [], laidByText := true, laidKinds := [.data, .data, .data, .data, .sentinel, .sentinel, .pinned], laidTests := true, laidLooks := .later }
def BidOpensCardSaid : Prop := Claim7.holds Tryz.pinned (.plain (OpenSpec.ofChange bidOpensSpec)) bidOpensCard

/-- THE SECOND FORM's CARD OF 'probitylaw16.BidBlind'. -/
def bidBlindUptoCard : Claim7 := { stood := { row := bidBlindUptoRow, standIns := [], harness := (true, "fc49b4fb0c16d5a8002ada571cbbc60a92600d68e55b429d062dcf0227de7201"), looks := true }, kinds := [], alts := [], laidByText := true, laidKinds := [.data, .data, .data, .data, .sentinel, .sentinel, .pinned], laidTests := true, laidLooks := .later }
def BidBlindUptoCardSaid : Prop := Claim7.holds Tryz.pinned (.plain (OpenSpec.upto bidBlindSpec)) bidBlindUptoCard

/-- THE SECOND FORM's CARD OF 'probitylaw16.BidKeeps'. -/
def bidKeepsUptoCard : Claim7 := { stood := { row := bidKeepsUptoRow, standIns := [], harness := (true, "fc49b4fb0c16d5a8002ada571cbbc60a92600d68e55b429d062dcf0227de7201"), looks := true }, kinds := [], alts := [], laidByText := true, laidKinds := [.data, .data, .data, .data, .sentinel, .sentinel, .pinned], laidTests := true, laidLooks := .later }
def BidKeepsUptoCardSaid : Prop := Claim7.holds Tryz.pinned (.plain (OpenSpec.upto bidKeepsSpec)) bidKeepsUptoCard

/-- THE SECOND FORM's CARD OF 'probitylaw16.BidCodes'. -/
def bidCodesUptoCard : Claim7 := { stood := { row := bidCodesUptoRow, standIns := [], harness := (true, "fc49b4fb0c16d5a8002ada571cbbc60a92600d68e55b429d062dcf0227de7201"), looks := true }, kinds := [], alts := [], laidByText := true, laidKinds := [.data, .data, .data, .data, .sentinel, .sentinel, .pinned], laidTests := true, laidLooks := .later }
def BidCodesUptoCardSaid : Prop := Claim7.holds Tryz.pinned (.plain (OpenSpec.upto bidCodesSpec)) bidCodesUptoCard

/-- THE SECOND FORM's CARD OF 'probitylaw16.BidMakes'. -/
def bidMakesUptoCard : Claim7 := { stood := { row := bidMakesUptoRow, standIns := [], harness := (true, "fc49b4fb0c16d5a8002ada571cbbc60a92600d68e55b429d062dcf0227de7201"), looks := true }, kinds := [], alts := [], laidByText := true, laidKinds := [.data, .data, .data, .data, .sentinel, .sentinel, .pinned], laidTests := true, laidLooks := .later }
def BidMakesUptoCardSaid : Prop := Claim7.holds Tryz.pinned (.plain (OpenSpec.upto bidMakesSpec)) bidMakesUptoCard

/-- THE SECOND FORM's CARD OF 'probitylaw16.BidOpens'. -/
def bidOpensUptoCard : Claim7 := { stood := { row := bidOpensUptoRow, standIns := [], harness := (true, "fc49b4fb0c16d5a8002ada571cbbc60a92600d68e55b429d062dcf0227de7201"), looks := true }, kinds := [], alts := [], laidByText := true, laidKinds := [.data, .data, .data, .data, .sentinel, .sentinel, .pinned], laidTests := true, laidLooks := .later }
def BidOpensUptoCardSaid : Prop := Claim7.holds Tryz.pinned (.plain (OpenSpec.upto bidOpensSpec)) bidOpensUptoCard
end Rows
end Go.Proofs.YtpdlbmieciabmaaGreatDoor
