/-
  DERIVED. GIVEN WITH THE SEED: THE CARDS: each row of YtgalfohobgjelaaGreatDoorRows.lean that lists a variable, with what it lists TIED to the program's text (the seventh form; the later family's looks); each row that meets fmt, with fmt's text TOLD by the authors' own Lean function (tested against real Go, not proved from fmt's source: count such statements apart). THE CARD IS WHAT COUNTS. Prove the row's statement (the work); the ties are given (YtgalfohobgjelaaGreatDoorTie.lean); close each card by the builder's one call (the guide's Derived/Test/ToyasCard.lean, 'card_holds'). Laid BY PROGRAM, IN A SANDBOX (cutbox-door.mjs). By AI agents, Wed Nov 11 2026. No macro, syntax, notation, axiom, sorry.
-/
import Derived.Test.YtgalfohobgjelaaGreatDoorRows
import GoSem.ClaimSeven
namespace Go.Proofs.YtgalfohobgjelaaGreatDoor
namespace Rows

/-- THE TIED CARD OF 'probitylaw31.ClientOrder'. -/
def clientOrderCard : Claim7 := { stood := { row := clientOrderRow, standIns := [], harness := (true, "fa2d49fc80048cf7d0093f2144678f1432016251b3f34b605276a26a7eee71a6"), looks := false }, kinds := [], alts := [], laidByText := true, laidKinds := [.data, .data, .data], laidTests := true, laidLooks := .later }
def ClientOrderCardSaid : Prop := Claim7.holds Tryz.pinned (.plain (OpenSpec.ofChange clientOrderSpec)) clientOrderCard

/-- THE TIED CARD OF 'probitylaw31.ClientGrows'. -/
def clientGrowsCard : Claim7 := { stood := { row := clientGrowsRow, standIns := [], harness := (true, "fa2d49fc80048cf7d0093f2144678f1432016251b3f34b605276a26a7eee71a6"), looks := false }, kinds := [], alts := [], laidByText := true, laidKinds := [.data, .data, .data], laidTests := true, laidLooks := .later }
def ClientGrowsCardSaid : Prop := Claim7.holds Tryz.pinned (.plain (OpenSpec.ofChange clientGrowsSpec)) clientGrowsCard

/-- THE TIED CARD OF 'probitylaw31.ClientForks'. -/
def clientForksCard : Claim7 := { stood := { row := clientForksRow, standIns := [], harness := (true, "fa2d49fc80048cf7d0093f2144678f1432016251b3f34b605276a26a7eee71a6"), looks := false }, kinds := [], alts := [], laidByText := true, laidKinds := [.data, .data, .data], laidTests := true, laidLooks := .later }
def ClientForksCardSaid : Prop := Claim7.holds Tryz.pinned (.plain (OpenSpec.ofChange clientForksSpec)) clientForksCard

/-- THE TIED CARD OF 'probitylaw31.ClientFair'. -/
def clientFairCard : Claim7 := { stood := { row := clientFairRow, standIns := [], harness := (true, "fa2d49fc80048cf7d0093f2144678f1432016251b3f34b605276a26a7eee71a6"), looks := false }, kinds := [], alts := [], laidByText := true, laidKinds := [.data, .data, .data], laidTests := true, laidLooks := .later }
def ClientFairCardSaid : Prop := Claim7.holds Tryz.pinned (.plain (OpenSpec.ofChange clientFairSpec)) clientFairCard

/-- THE TIED CARD OF 'probitylaw31.ClientPlays'. -/
def clientPlaysCard : Claim7 := { stood := { row := clientPlaysRow, standIns := [], harness := (true, "fa2d49fc80048cf7d0093f2144678f1432016251b3f34b605276a26a7eee71a6"), looks := false }, kinds := [], alts := [], laidByText := true, laidKinds := [.data, .data, .data], laidTests := true, laidLooks := .later }
def ClientPlaysCardSaid : Prop := Claim7.holds Tryz.pinned (.plain (OpenSpec.ofChange clientPlaysSpec)) clientPlaysCard

/-- THE TIED CARD OF 'probitylaw31.ClientReceipts'. -/
def clientReceiptsCard : Claim7 := { stood := { row := clientReceiptsRow, standIns := [], harness := (true, "fa2d49fc80048cf7d0093f2144678f1432016251b3f34b605276a26a7eee71a6"), looks := false }, kinds := [], alts := [], laidByText := true, laidKinds := [.data, .data, .data], laidTests := true, laidLooks := .later }
def ClientReceiptsCardSaid : Prop := Claim7.holds Tryz.pinned (.plain (OpenSpec.ofChange clientReceiptsSpec)) clientReceiptsCard

/-- THE TIED CARD OF 'probitylaw31.ClientNil'. -/
def clientNilCard : Claim7 := { stood := { row := clientNilRow, standIns := [], harness := (true, "fa2d49fc80048cf7d0093f2144678f1432016251b3f34b605276a26a7eee71a6"), looks := false }, kinds := [], alts := [], laidByText := true, laidKinds := [.data, .data, .data], laidTests := true, laidLooks := .later }
def ClientNilCardSaid : Prop := Claim7.holds Tryz.pinned (.plain (OpenSpec.ofChange clientNilSpec)) clientNilCard

/-- THE TIED CARD OF 'probitylaw31.ClientKeeps'. -/
def clientKeepsCard : Claim7 := { stood := { row := clientKeepsRow, standIns := [], harness := (true, "fa2d49fc80048cf7d0093f2144678f1432016251b3f34b605276a26a7eee71a6"), looks := false }, kinds := [], alts := [], laidByText := true, laidKinds := [.data, .data, .data], laidTests := true, laidLooks := .later }
def ClientKeepsCardSaid : Prop := Claim7.holds Tryz.pinned (.plain (OpenSpec.ofChange clientKeepsSpec)) clientKeepsCard

/-- THE SECOND FORM's CARD OF 'probitylaw31.ClientOrder'. -/
def clientOrderUptoCard : Claim7 := { stood := { row := clientOrderUptoRow, standIns := [], harness := (true, "fa2d49fc80048cf7d0093f2144678f1432016251b3f34b605276a26a7eee71a6"), looks := false }, kinds := [], alts := [], laidByText := true, laidKinds := [.data, .data, .data], laidTests := true, laidLooks := .later }
def ClientOrderUptoCardSaid : Prop := Claim7.holds Tryz.pinned (.plain (OpenSpec.upto clientOrderSpec)) clientOrderUptoCard

/-- THE SECOND FORM's CARD OF 'probitylaw31.ClientGrows'. -/
def clientGrowsUptoCard : Claim7 := { stood := { row := clientGrowsUptoRow, standIns := [], harness := (true, "fa2d49fc80048cf7d0093f2144678f1432016251b3f34b605276a26a7eee71a6"), looks := false }, kinds := [], alts := [], laidByText := true, laidKinds := [.data, .data, .data], laidTests := true, laidLooks := .later }
def ClientGrowsUptoCardSaid : Prop := Claim7.holds Tryz.pinned (.plain (OpenSpec.upto clientGrowsSpec)) clientGrowsUptoCard

/-- THE SECOND FORM's CARD OF 'probitylaw31.ClientForks'. -/
def clientForksUptoCard : Claim7 := { stood := { row := clientForksUptoRow, standIns := [], harness := (true, "fa2d49fc80048cf7d0093f2144678f1432016251b3f34b605276a26a7eee71a6"), looks := false }, kinds := [], alts := [], laidByText := true, laidKinds := [.data, .data, .data], laidTests := true, laidLooks := .later }
def ClientForksUptoCardSaid : Prop := Claim7.holds Tryz.pinned (.plain (OpenSpec.upto clientForksSpec)) clientForksUptoCard

/-- THE SECOND FORM's CARD OF 'probitylaw31.ClientFair'. -/
def clientFairUptoCard : Claim7 := { stood := { row := clientFairUptoRow, standIns := [], harness := (true, "fa2d49fc80048cf7d0093f2144678f1432016251b3f34b605276a26a7eee71a6"), looks := false }, kinds := [], alts := [], laidByText := true, laidKinds := [.data, .data, .data], laidTests := true, laidLooks := .later }
def ClientFairUptoCardSaid : Prop := Claim7.holds Tryz.pinned (.plain (OpenSpec.upto clientFairSpec)) clientFairUptoCard

/-- THE SECOND FORM's CARD OF 'probitylaw31.ClientPlays'. -/
def clientPlaysUptoCard : Claim7 := { stood := { row := clientPlaysUptoRow, standIns := [], harness := (true, "fa2d49fc80048cf7d0093f2144678f1432016251b3f34b605276a26a7eee71a6"), looks := false }, kinds := [], alts := [], laidByText := true, laidKinds := [.data, .data, .data], laidTests := true, laidLooks := .later }
def ClientPlaysUptoCardSaid : Prop := Claim7.holds Tryz.pinned (.plain (OpenSpec.upto clientPlaysSpec)) clientPlaysUptoCard

/-- THE SECOND FORM's CARD OF 'probitylaw31.ClientReceipts'. -/
def clientReceiptsUptoCard : Claim7 := { stood := { row := clientReceiptsUptoRow, standIns := [], harness := (true, "fa2d49fc80048cf7d0093f2144678f1432016251b3f34b605276a26a7eee71a6"), looks := false }, kinds := [], alts := [], laidByText := true, laidKinds := [.data, .data, .data], laidTests := true, laidLooks := .later }
def ClientReceiptsUptoCardSaid : Prop := Claim7.holds Tryz.pinned (.plain (OpenSpec.upto clientReceiptsSpec)) clientReceiptsUptoCard

/-- THE SECOND FORM's CARD OF 'probitylaw31.ClientNil'. -/
def clientNilUptoCard : Claim7 := { stood := { row := clientNilUptoRow, standIns := [], harness := (true, "fa2d49fc80048cf7d0093f2144678f1432016251b3f34b605276a26a7eee71a6"), looks := false }, kinds := [], alts := [], laidByText := true, laidKinds := [.data, .data, .data], laidTests := true, laidLooks := .later }
def ClientNilUptoCardSaid : Prop := Claim7.holds Tryz.pinned (.plain (OpenSpec.upto clientNilSpec)) clientNilUptoCard

/-- THE SECOND FORM's CARD OF 'probitylaw31.ClientKeeps'. -/
def clientKeepsUptoCard : Claim7 := { stood := { row := clientKeepsUptoRow, standIns := [], harness := (true, "fa2d49fc80048cf7d0093f2144678f1432016251b3f34b605276a26a7eee71a6"), looks := false }, kinds := [], alts := [], laidByText := true, laidKinds := [.data, .data, .data], laidTests := true, laidLooks := .later }
def ClientKeepsUptoCardSaid : Prop := Claim7.holds Tryz.pinned (.plain (OpenSpec.upto clientKeepsSpec)) clientKeepsUptoCard
end Rows
end Go.Proofs.YtgalfohobgjelaaGreatDoor
