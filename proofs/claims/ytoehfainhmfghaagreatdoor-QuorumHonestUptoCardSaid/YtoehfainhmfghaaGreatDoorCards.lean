/-
  DERIVED. GIVEN WITH THE SEED: THE CARDS: each row of YtoehfainhmfghaaGreatDoorRows.lean that lists a variable, with what it lists TIED to the program's text (the seventh form; the later family's looks); each row that meets fmt, with fmt's text TOLD by the authors' own Lean function (tested against real Go, not proved from fmt's source: count such statements apart). THE CARD IS WHAT COUNTS. Prove the row's statement (the work); the ties are given (YtoehfainhmfghaaGreatDoorTie.lean); close each card by the builder's one call (the guide's Derived/Test/ToyasCard.lean, 'card_holds'). Laid BY PROGRAM, IN A SANDBOX (cutbox-door.mjs). By AI agents, Wed Nov 11 2026. No macro, syntax, notation, axiom, sorry.
-/
import Derived.Test.YtoehfainhmfghaaGreatDoorRows
import GoSem.ClaimSeven
namespace Go.Proofs.YtoehfainhmfghaaGreatDoor
namespace Rows

/-- THE TIED CARD OF 'probitylaw29.QuorumTexts'. -/
def quorumTextsCard : Claim7 := { stood := { row := quorumTextsRow, standIns := [], harness := (true, "996fb745b743d9d5db8e86bbd3be5570d3f7360a4c5c9f3862c2f0a698fa3b40"), looks := false }, kinds := [], alts := [], laidByText := true, laidKinds := [.data, .data, .data], laidTests := true, laidLooks := .later }
def QuorumTextsCardSaid : Prop := Claim7.holds Tryz.pinned (.plain (OpenSpec.ofChange quorumTextsSpec)) quorumTextsCard

/-- THE TIED CARD OF 'probitylaw29.QuorumClashes'. -/
def quorumClashesCard : Claim7 := { stood := { row := quorumClashesRow, standIns := [], harness := (true, "996fb745b743d9d5db8e86bbd3be5570d3f7360a4c5c9f3862c2f0a698fa3b40"), looks := false }, kinds := [], alts := [], laidByText := true, laidKinds := [.data, .data, .data], laidTests := true, laidLooks := .later }
def QuorumClashesCardSaid : Prop := Claim7.holds Tryz.pinned (.plain (OpenSpec.ofChange quorumClashesSpec)) quorumClashesCard

/-- THE TIED CARD OF 'probitylaw29.QuorumOverlap'. -/
def quorumOverlapCard : Claim7 := { stood := { row := quorumOverlapRow, standIns := [], harness := (true, "996fb745b743d9d5db8e86bbd3be5570d3f7360a4c5c9f3862c2f0a698fa3b40"), looks := false }, kinds := [], alts := [], laidByText := true, laidKinds := [.data, .data, .data], laidTests := true, laidLooks := .later }
def QuorumOverlapCardSaid : Prop := Claim7.holds Tryz.pinned (.plain (OpenSpec.ofChange quorumOverlapSpec)) quorumOverlapCard

/-- THE TIED CARD OF 'probitylaw29.QuorumHonest'. -/
def quorumHonestCard : Claim7 := { stood := { row := quorumHonestRow, standIns := [], harness := (true, "996fb745b743d9d5db8e86bbd3be5570d3f7360a4c5c9f3862c2f0a698fa3b40"), looks := false }, kinds := [], alts := [], laidByText := true, laidKinds := [.data, .data, .data], laidTests := true, laidLooks := .later }
def QuorumHonestCardSaid : Prop := Claim7.holds Tryz.pinned (.plain (OpenSpec.ofChange quorumHonestSpec)) quorumHonestCard

/-- THE TIED CARD OF 'probitylaw29.QuorumLiar'. -/
def quorumLiarCard : Claim7 := { stood := { row := quorumLiarRow, standIns := [], harness := (true, "996fb745b743d9d5db8e86bbd3be5570d3f7360a4c5c9f3862c2f0a698fa3b40"), looks := false }, kinds := [], alts := [], laidByText := true, laidKinds := [.data, .data, .data], laidTests := true, laidLooks := .later }
def QuorumLiarCardSaid : Prop := Claim7.holds Tryz.pinned (.plain (OpenSpec.ofChange quorumLiarSpec)) quorumLiarCard

/-- THE TIED CARD OF 'probitylaw29.QuorumCertifies'. -/
def quorumCertifiesCard : Claim7 := { stood := { row := quorumCertifiesRow, standIns := [], harness := (true, "996fb745b743d9d5db8e86bbd3be5570d3f7360a4c5c9f3862c2f0a698fa3b40"), looks := false }, kinds := [], alts := [], laidByText := true, laidKinds := [.data, .data, .data], laidTests := true, laidLooks := .later }
def QuorumCertifiesCardSaid : Prop := Claim7.holds Tryz.pinned (.plain (OpenSpec.ofChange quorumCertifiesSpec)) quorumCertifiesCard

/-- THE TIED CARD OF 'probitylaw29.QuorumBest'. -/
def quorumBestCard : Claim7 := { stood := { row := quorumBestRow, standIns := [], harness := (true, "996fb745b743d9d5db8e86bbd3be5570d3f7360a4c5c9f3862c2f0a698fa3b40"), looks := false }, kinds := [], alts := [], laidByText := true, laidKinds := [.data, .data, .data], laidTests := true, laidLooks := .later }
def QuorumBestCardSaid : Prop := Claim7.holds Tryz.pinned (.plain (OpenSpec.ofChange quorumBestSpec)) quorumBestCard

/-- THE TIED CARD OF 'probitylaw29.QuorumOrder'. -/
def quorumOrderCard : Claim7 := { stood := { row := quorumOrderRow, standIns := [], harness := (true, "996fb745b743d9d5db8e86bbd3be5570d3f7360a4c5c9f3862c2f0a698fa3b40"), looks := false }, kinds := [], alts := [], laidByText := true, laidKinds := [.data, .data, .data], laidTests := true, laidLooks := .later }
def QuorumOrderCardSaid : Prop := Claim7.holds Tryz.pinned (.plain (OpenSpec.ofChange quorumOrderSpec)) quorumOrderCard

/-- THE SECOND FORM's CARD OF 'probitylaw29.QuorumTexts'. -/
def quorumTextsUptoCard : Claim7 := { stood := { row := quorumTextsUptoRow, standIns := [], harness := (true, "996fb745b743d9d5db8e86bbd3be5570d3f7360a4c5c9f3862c2f0a698fa3b40"), looks := false }, kinds := [], alts := [], laidByText := true, laidKinds := [.data, .data, .data], laidTests := true, laidLooks := .later }
def QuorumTextsUptoCardSaid : Prop := Claim7.holds Tryz.pinned (.plain (OpenSpec.upto quorumTextsSpec)) quorumTextsUptoCard

/-- THE SECOND FORM's CARD OF 'probitylaw29.QuorumClashes'. -/
def quorumClashesUptoCard : Claim7 := { stood := { row := quorumClashesUptoRow, standIns := [], harness := (true, "996fb745b743d9d5db8e86bbd3be5570d3f7360a4c5c9f3862c2f0a698fa3b40"), looks := false }, kinds := [], alts := [], laidByText := true, laidKinds := [.data, .data, .data], laidTests := true, laidLooks := .later }
def QuorumClashesUptoCardSaid : Prop := Claim7.holds Tryz.pinned (.plain (OpenSpec.upto quorumClashesSpec)) quorumClashesUptoCard

/-- THE SECOND FORM's CARD OF 'probitylaw29.QuorumOverlap'. -/
def quorumOverlapUptoCard : Claim7 := { stood := { row := quorumOverlapUptoRow, standIns := [], harness := (true, "996fb745b743d9d5db8e86bbd3be5570d3f7360a4c5c9f3862c2f0a698fa3b40"), looks := false }, kinds := [], alts := [], laidByText := true, laidKinds := [.data, .data, .data], laidTests := true, laidLooks := .later }
def QuorumOverlapUptoCardSaid : Prop := Claim7.holds Tryz.pinned (.plain (OpenSpec.upto quorumOverlapSpec)) quorumOverlapUptoCard

/-- THE SECOND FORM's CARD OF 'probitylaw29.QuorumHonest'. -/
def quorumHonestUptoCard : Claim7 := { stood := { row := quorumHonestUptoRow, standIns := [], harness := (true, "996fb745b743d9d5db8e86bbd3be5570d3f7360a4c5c9f3862c2f0a698fa3b40"), looks := false }, kinds := [], alts := [], laidByText := true, laidKinds := [.data, .data, .data], laidTests := true, laidLooks := .later }
def QuorumHonestUptoCardSaid : Prop := Claim7.holds Tryz.pinned (.plain (OpenSpec.upto quorumHonestSpec)) quorumHonestUptoCard

/-- THE SECOND FORM's CARD OF 'probitylaw29.QuorumLiar'. -/
def quorumLiarUptoCard : Claim7 := { stood := { row := quorumLiarUptoRow, standIns := [], harness := (true, "996fb745b743d9d5db8e86bbd3be5570d3f7360a4c5c9f3862c2f0a698fa3b40"), looks := false }, kinds := [], alts := [], laidByText := true, laidKinds := [.data, .data, .data], laidTests := true, laidLooks := .later }
def QuorumLiarUptoCardSaid : Prop := Claim7.holds Tryz.pinned (.plain (OpenSpec.upto quorumLiarSpec)) quorumLiarUptoCard

/-- THE SECOND FORM's CARD OF 'probitylaw29.QuorumCertifies'. -/
def quorumCertifiesUptoCard : Claim7 := { stood := { row := quorumCertifiesUptoRow, standIns := [], harness := (true, "996fb745b743d9d5db8e86bbd3be5570d3f7360a4c5c9f3862c2f0a698fa3b40"), looks := false }, kinds := [], alts := [], laidByText := true, laidKinds := [.data, .data, .data], laidTests := true, laidLooks := .later }
def QuorumCertifiesUptoCardSaid : Prop := Claim7.holds Tryz.pinned (.plain (OpenSpec.upto quorumCertifiesSpec)) quorumCertifiesUptoCard

/-- THE SECOND FORM's CARD OF 'probitylaw29.QuorumBest'. -/
def quorumBestUptoCard : Claim7 := { stood := { row := quorumBestUptoRow, standIns := [], harness := (true, "996fb745b743d9d5db8e86bbd3be5570d3f7360a4c5c9f3862c2f0a698fa3b40"), looks := false }, kinds := [], alts := [], laidByText := true, laidKinds := [.data, .data, .data], laidTests := true, laidLooks := .later }
def QuorumBestUptoCardSaid : Prop := Claim7.holds Tryz.pinned (.plain (OpenSpec.upto quorumBestSpec)) quorumBestUptoCard

/-- THE SECOND FORM's CARD OF 'probitylaw29.QuorumOrder'. -/
def quorumOrderUptoCard : Claim7 := { stood := { row := quorumOrderUptoRow, standIns := [], harness := (true, "996fb745b743d9d5db8e86bbd3be5570d3f7360a4c5c9f3862c2f0a698fa3b40"), looks := false }, kinds := [], alts := [], laidByText := true, laidKinds := [.data, .data, .data], laidTests := true, laidLooks := .later }
def QuorumOrderUptoCardSaid : Prop := Claim7.holds Tryz.pinned (.plain (OpenSpec.upto quorumOrderSpec)) quorumOrderUptoCard
end Rows
end Go.Proofs.YtoehfainhmfghaaGreatDoor
