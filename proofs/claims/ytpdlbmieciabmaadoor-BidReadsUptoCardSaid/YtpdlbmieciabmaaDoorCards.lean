/-
  DERIVED. GIVEN WITH THE SEED: THE CARDS: each row of YtpdlbmieciabmaaDoorRows.lean that lists a variable, with what it lists TIED to the program's text (the seventh form; the later family's looks); each row that meets fmt, with fmt's text TOLD by the authors' own Lean function (tested against real Go, not proved from fmt's source: count such statements apart). THE CARD IS WHAT COUNTS. Prove the row's statement (the work); the ties are given (YtpdlbmieciabmaaDoorTie.lean); close each card by the builder's one call (the guide's Derived/Test/ToyasCard.lean, 'card_holds'). Laid BY PROGRAM, IN A SANDBOX (cutbox-door.mjs). By AI agents, Wed Nov 11 2026. No macro, syntax, notation, axiom, sorry.
-/
import Derived.Test.YtpdlbmieciabmaaDoorRows
import GoSem.ClaimSeven
namespace Go.Proofs.YtpdlbmieciabmaaDoor
namespace Rows

/-- THE TIED CARD OF 'probitylaw16.BidQuality'. -/
def bidQualityCard : Claim7 := { stood := { row := bidQualityRow, standIns := [], harness := (true, "879a50de06d8d0776c98af9f8348ec127887ecdba696f37d704afaca93acb8dc"), looks := true }, kinds := [], alts := [], laidByText := true, laidKinds := [.data, .data, .data, .data, .sentinel, .sentinel, .pinned], laidTests := true, laidLooks := .later }
def BidQualityCardSaid : Prop := Claim7.holds Tryd.pinned (.plain (OpenSpec.ofChange bidQualitySpec)) bidQualityCard

/-- THE TIED CARD OF 'probitylaw16.BidPrices'. -/
def bidPricesCard : Claim7 := { stood := { row := bidPricesRow, standIns := [], harness := (true, "879a50de06d8d0776c98af9f8348ec127887ecdba696f37d704afaca93acb8dc"), looks := true }, kinds := [], alts := [], laidByText := true, laidKinds := [.data, .data, .data, .data, .sentinel, .sentinel, .pinned], laidTests := true, laidLooks := .later }
def BidPricesCardSaid : Prop := Claim7.holds Tryd.pinned (.plain (OpenSpec.ofChange bidPricesSpec)) bidPricesCard

/-- THE TIED CARD OF 'probitylaw16.BidReads'. -/
def bidReadsCard : Claim7 := { stood := { row := bidReadsRow, standIns := [], harness := (true, "879a50de06d8d0776c98af9f8348ec127887ecdba696f37d704afaca93acb8dc"), looks := true }, kinds := [], alts := [], laidByText := true, laidKinds := [.data, .data, .data, .data, .sentinel, .sentinel, .pinned], laidTests := true, laidLooks := .later }
def BidReadsCardSaid : Prop := Claim7.holds Tryd.pinned (.plain (OpenSpec.ofChange bidReadsSpec)) bidReadsCard

/-- THE SECOND FORM's CARD OF 'probitylaw16.BidQuality'. -/
def bidQualityUptoCard : Claim7 := { stood := { row := bidQualityUptoRow, standIns := [], harness := (true, "879a50de06d8d0776c98af9f8348ec127887ecdba696f37d704afaca93acb8dc"), looks := true }, kinds := [], alts := [], laidByText := true, laidKinds := [.data, .data, .data, .data, .sentinel, .sentinel, .pinned], laidTests := true, laidLooks := .later }
def BidQualityUptoCardSaid : Prop := Claim7.holds Tryd.pinned (.plain (OpenSpec.upto bidQualitySpec)) bidQualityUptoCard

/-- THE SECOND FORM's CARD OF 'probitylaw16.BidPrices'. -/
def bidPricesUptoCard : Claim7 := { stood := { row := bidPricesUptoRow, standIns := [], harness := (true, "879a50de06d8d0776c98af9f8348ec127887ecdba696f37d704afaca93acb8dc"), looks := true }, kinds := [], alts := [], laidByText := true, laidKinds := [.data, .data, .data, .data, .sentinel, .sentinel, .pinned], laidTests := true, laidLooks := .later }
def BidPricesUptoCardSaid : Prop := Claim7.holds Tryd.pinned (.plain (OpenSpec.upto bidPricesSpec)) bidPricesUptoCard

/-- THE SECOND FORM's CARD OF 'probitylaw16.BidReads'. -/
def bidReadsUptoCard : Claim7 := { stood := { row := bidReadsUptoRow, standIns := [], harness := (true, "879a50de06d8d0776c98af9f8348ec127887ecdba696f37d704afaca93acb8dc"), looks := true }, kinds := [], alts := [], laidByText := true, laidKinds := [.data, .data, .data, .data, .sentinel, .sentinel, .pinned], laidTests := true, laidLooks := .later }
def BidReadsUptoCardSaid : Prop := Claim7.holds Tryd.pinned (.plain (OpenSpec.upto bidReadsSpec)) bidReadsUptoCard
end Rows
end Go.Proofs.YtpdlbmieciabmaaDoor
