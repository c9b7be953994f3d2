/-
  DERIVED. GIVEN WITH THE SEED: THE CARDS: each row of YtmgbcjjemlcfgaaDoorRows.lean that lists a variable, with what it lists TIED to the program's text (the seventh form; the later family's looks); each row that meets fmt, with fmt's text TOLD by the authors' own Lean function (tested against real Go, not proved from fmt's source: count such statements apart). THE CARD IS WHAT COUNTS. Prove the row's statement (the work); the ties are given (YtmgbcjjemlcfgaaDoorTie.lean); close each card by the builder's one call (the guide's Derived/Test/ToyasCard.lean, 'card_holds'). Laid BY PROGRAM, IN A SANDBOX (cutbox-door.mjs). By AI agents, Wed Nov 11 2026. No macro, syntax, notation, axiom, sorry.
-/
import Derived.Test.YtmgbcjjemlcfgaaDoorRows
import GoSem.ClaimSeven
namespace Go.Proofs.YtmgbcjjemlcfgaaDoor
namespace Rows

/-- THE TIED CARD OF 'probitylaw13.SignKeys'. -/
def signKeysCard : Claim7 := { stood := { row := signKeysRow, standIns := [], harness := (true, "48547d95ed41b11173876a0444ccab8cf69a8057ff3b792f5d60ed2200b0e5bc"), looks := true }, kinds := [], alts := [], laidByText := true, laidKinds := [.data, .data, .data, .sentinel, .sentinel], laidTests := true, laidLooks := .later }
def SignKeysCardSaid : Prop := Claim7.holds Tryd.pinned (.plain (OpenSpec.ofChange signKeysSpec)) signKeysCard

/-- THE TIED CARD OF 'probitylaw13.SignSigns'. -/
def signSignsCard : Claim7 := { stood := { row := signSignsRow, standIns := [], harness := (true, "48547d95ed41b11173876a0444ccab8cf69a8057ff3b792f5d60ed2200b0e5bc"), looks := true }, kinds := [], alts := [], laidByText := true, laidKinds := [.data, .data, .data, .sentinel, .sentinel], laidTests := true, laidLooks := .later }
def SignSignsCardSaid : Prop := Claim7.holds Tryd.pinned (.plain (OpenSpec.ofChange signSignsSpec)) signSignsCard

/-- THE TIED CARD OF 'probitylaw13.SignVerifies'. -/
def signVerifiesCard : Claim7 := { stood := { row := signVerifiesRow, standIns := [], harness := (true, "48547d95ed41b11173876a0444ccab8cf69a8057ff3b792f5d60ed2200b0e5bc"), looks := true }, kinds := [], alts := [], laidByText := true, laidKinds := [.data, .data, .data, .sentinel, .sentinel], laidTests := true, laidLooks := .later }
def SignVerifiesCardSaid : Prop := Claim7.holds Tryd.pinned (.plain (OpenSpec.ofChange signVerifiesSpec)) signVerifiesCard

/-- THE TIED CARD OF 'probitylaw13.SignMany'. -/
def signManyCard : Claim7 := { stood := { row := signManyRow, standIns := [], harness := (true, "48547d95ed41b11173876a0444ccab8cf69a8057ff3b792f5d60ed2200b0e5bc"), looks := true }, kinds := [], alts := [], laidByText := true, laidKinds := [.data, .data, .data, .sentinel, .sentinel], laidTests := true, laidLooks := .later }
def SignManyCardSaid : Prop := Claim7.holds Tryd.pinned (.plain (OpenSpec.ofChange signManySpec)) signManyCard

/-- THE TIED CARD OF 'probitylaw13.SignOne'. -/
def signOneCard : Claim7 := { stood := { row := signOneRow, standIns := [], harness := (true, "48547d95ed41b11173876a0444ccab8cf69a8057ff3b792f5d60ed2200b0e5bc"), looks := true }, kinds := [], alts := [], laidByText := true, laidKinds := [.data, .data, .data, .sentinel, .sentinel], laidTests := true, laidLooks := .later }
def SignOneCardSaid : Prop := Claim7.holds Tryd.pinned (.plain (OpenSpec.ofChange signOneSpec)) signOneCard

/-- THE TIED CARD OF 'probitylaw13.SignTexts'. -/
def signTextsCard : Claim7 := { stood := { row := signTextsRow, standIns := [], harness := (true, "48547d95ed41b11173876a0444ccab8cf69a8057ff3b792f5d60ed2200b0e5bc"), looks := true }, kinds := [], alts := [], laidByText := true, laidKinds := [.data, .data, .data, .sentinel, .sentinel], laidTests := true, laidLooks := .later }
def SignTextsCardSaid : Prop := Claim7.holds Tryd.pinned (.plain (OpenSpec.ofChange signTextsSpec)) signTextsCard

/-- THE TIED CARD OF 'probitylaw13.SignChallenge'. -/
def signChallengeCard : Claim7 := { stood := { row := signChallengeRow, standIns := [], harness := (true, "48547d95ed41b11173876a0444ccab8cf69a8057ff3b792f5d60ed2200b0e5bc"), looks := true }, kinds := [], alts := [], laidByText := true, laidKinds := [.data, .data, .data, .sentinel, .sentinel], laidTests := true, laidLooks := .later }
def SignChallengeCardSaid : Prop := Claim7.holds Tryd.pinned (.plain (OpenSpec.ofChange signChallengeSpec)) signChallengeCard

/-- THE SECOND FORM's CARD OF 'probitylaw13.SignKeys'. -/
def signKeysUptoCard : Claim7 := { stood := { row := signKeysUptoRow, standIns := [], harness := (true, "48547d95ed41b11173876a0444ccab8cf69a8057ff3b792f5d60ed2200b0e5bc"), looks := true }, kinds := [], alts := [], laidByText := true, laidKinds := [.data, .data, .data, .sentinel, .sentinel], laidTests := true, laidLooks := .later }
def SignKeysUptoCardSaid : Prop := Claim7.holds Tryd.pinned (.plain (OpenSpec.upto signKeysSpec)) signKeysUptoCard

/-- THE SECOND FORM's CARD OF 'probitylaw13.SignSigns'. -/
def signSignsUptoCard : Claim7 := { stood := { row := signSignsUptoRow, standIns := [], harness := (true, "48547d95ed41b11173876a0444ccab8cf69a8057ff3b792f5d60ed2200b0e5bc"), looks := true }, kinds := [], alts := [], laidByText := true, laidKinds := [.data, .data, .data, .sentinel, .sentinel], laidTests := true, laidLooks := .later }
def SignSignsUptoCardSaid : Prop := Claim7.holds Tryd.pinned (.plain (OpenSpec.upto signSignsSpec)) signSignsUptoCard

/-- THE SECOND FORM's CARD OF 'probitylaw13.SignVerifies'. -/
def signVerifiesUptoCard : Claim7 := { stood := { row := signVerifiesUptoRow, standIns := [], harness := (true, "48547d95ed41b11173876a0444ccab8cf69a8057ff3b792f5d60ed2200b0e5bc"), looks := true }, kinds := [], alts := [], laidByText := true, laidKinds := [.data, .data, .data, .sentinel, .sentinel], laidTests := true, laidLooks := .later }
def SignVerifiesUptoCardSaid : Prop := Claim7.holds Tryd.pinned (.plain (OpenSpec.upto signVerifiesSpec)) signVerifiesUptoCard

/-- THE SECOND FORM's CARD OF 'probitylaw13.SignMany'. -/
def signManyUptoCard : Claim7 := { stood := { row := signManyUptoRow, standIns := [], harness := (true, "48547d95ed41b11173876a0444ccab8cf69a8057ff3b792f5d60ed2200b0e5bc"), looks := true }, kinds := [], alts := [], laidByText := true, laidKinds := [.data, .data, .data, .sentinel, .sentinel], laidTests := true, laidLooks := .later }
def SignManyUptoCardSaid : Prop := Claim7.holds Tryd.pinned (.plain (OpenSpec.upto signManySpec)) signManyUptoCard

/-- THE SECOND FORM's CARD OF 'probitylaw13.SignOne'. -/
def signOneUptoCard : Claim7 := { stood := { row := signOneUptoRow, standIns := [], harness := (true, "48547d95ed41b11173876a0444ccab8cf69a8057ff3b792f5d60ed2200b0e5bc"), looks := true }, kinds := [], alts := [], laidByText := true, laidKinds := [.data, .data, .data, .sentinel, .sentinel], laidTests := true, laidLooks := .later }
def SignOneUptoCardSaid : Prop := Claim7.holds Tryd.pinned (.plain (OpenSpec.upto signOneSpec)) signOneUptoCard

/-- THE SECOND FORM's CARD OF 'probitylaw13.SignTexts'. -/
def signTextsUptoCard : Claim7 := { stood := { row := signTextsUptoRow, standIns := [], harness := (true, "48547d95ed41b11173876a0444ccab8cf69a8057ff3b792f5d60ed2200b0e5bc"), looks := true }, kinds := [], alts := [], laidByText := true, laidKinds := [.data, .data, .data, .sentinel, .sentinel], laidTests := true, laidLooks := .later }
def SignTextsUptoCardSaid : Prop := Claim7.holds Tryd.pinned (.plain (OpenSpec.upto signTextsSpec)) signTextsUptoCard

/-- THE SECOND FORM's CARD OF 'probitylaw13.SignChallenge'. -/
def signChallengeUptoCard : Claim7 := { stood := { row := signChallengeUptoRow, standIns := [], harness := (true, "48547d95ed41b11173876a0444ccab8cf69a8057ff3b792f5d60ed2200b0e5bc"), looks := true }, kinds := [], alts := [], laidByText := true, laidKinds := [.data, .data, .data, .sentinel, .sentinel], laidTests := true, laidLooks := .later }
def SignChallengeUptoCardSaid : Prop := Claim7.holds Tryd.pinned (.plain (OpenSpec.upto signChallengeSpec)) signChallengeUptoCard
end Rows
end Go.Proofs.YtmgbcjjemlcfgaaDoor
