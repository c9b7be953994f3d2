/-
  DERIVED. GIVEN WITH THE SEED: THE CARDS: each row of YtdgapomeenigbaaDoorRows.lean that lists a variable, with what it lists TIED to the program's text (the seventh form; the later family's looks); each row that meets fmt, with fmt's text TOLD by the authors' own Lean function (tested against real Go, not proved from fmt's source: count such statements apart). THE CARD IS WHAT COUNTS. Prove the row's statement (the work); the ties are given (YtdgapomeenigbaaDoorTie.lean); close each card by the builder's one call (the guide's Derived/Test/ToyasCard.lean, 'card_holds'). Laid BY PROGRAM, IN A SANDBOX (cutbox-door.mjs). By AI agents, Wed Nov 11 2026. No macro, syntax, notation, axiom, sorry.
-/
import Derived.Test.YtdgapomeenigbaaDoorRows
import GoSem.ClaimSeven
namespace Go.Proofs.YtdgapomeenigbaaDoor
namespace Rows

/-- THE TIED CARD OF 'probitylaw14.SealBytes'. -/
def sealBytesCard : Claim7 := { stood := { row := sealBytesRow, standIns := [], harness := (true, "8f4956b3cb3bf1dde616d526efc5f16595552985922de6a3ab284f667676ce5c"), looks := false }, kinds := [], alts := [], laidByText := true, laidKinds := [.data, .data, .data], laidTests := true, laidLooks := .later }
def SealBytesCardSaid : Prop := Claim7.holds Tryd.pinned (.plain (OpenSpec.ofChange sealBytesSpec)) sealBytesCard

/-- THE TIED CARD OF 'probitylaw14.SealOpens'. -/
def sealOpensCard : Claim7 := { stood := { row := sealOpensRow, standIns := [], harness := (true, "8f4956b3cb3bf1dde616d526efc5f16595552985922de6a3ab284f667676ce5c"), looks := false }, kinds := [], alts := [], laidByText := true, laidKinds := [.data, .data, .data], laidTests := true, laidLooks := .later }
def SealOpensCardSaid : Prop := Claim7.holds Tryd.pinned (.plain (OpenSpec.ofChange sealOpensSpec)) sealOpensCard

/-- THE TIED CARD OF 'probitylaw14.SealKeys'. -/
def sealKeysCard : Claim7 := { stood := { row := sealKeysRow, standIns := [], harness := (true, "8f4956b3cb3bf1dde616d526efc5f16595552985922de6a3ab284f667676ce5c"), looks := false }, kinds := [], alts := [], laidByText := true, laidKinds := [.data, .data, .data], laidTests := true, laidLooks := .later }
def SealKeysCardSaid : Prop := Claim7.holds Tryd.pinned (.plain (OpenSpec.ofChange sealKeysSpec)) sealKeysCard

/-- THE TIED CARD OF 'probitylaw14.SealChanged'. -/
def sealChangedCard : Claim7 := { stood := { row := sealChangedRow, standIns := [], harness := (true, "8f4956b3cb3bf1dde616d526efc5f16595552985922de6a3ab284f667676ce5c"), looks := false }, kinds := [], alts := [], laidByText := true, laidKinds := [.data, .data, .data], laidTests := true, laidLooks := .later }
def SealChangedCardSaid : Prop := Claim7.holds Tryd.pinned (.plain (OpenSpec.ofChange sealChangedSpec)) sealChangedCard

/-- THE TIED CARD OF 'probitylaw14.SealTexts'. -/
def sealTextsCard : Claim7 := { stood := { row := sealTextsRow, standIns := [], harness := (true, "8f4956b3cb3bf1dde616d526efc5f16595552985922de6a3ab284f667676ce5c"), looks := false }, kinds := [], alts := [], laidByText := true, laidKinds := [.data, .data, .data], laidTests := true, laidLooks := .later }
def SealTextsCardSaid : Prop := Claim7.holds Tryd.pinned (.plain (OpenSpec.ofChange sealTextsSpec)) sealTextsCard

/-- THE TIED CARD OF 'probitylaw14.SealStream'. -/
def sealStreamCard : Claim7 := { stood := { row := sealStreamRow, standIns := [], harness := (true, "8f4956b3cb3bf1dde616d526efc5f16595552985922de6a3ab284f667676ce5c"), looks := false }, kinds := [], alts := [], laidByText := true, laidKinds := [.data, .data, .data], laidTests := true, laidLooks := .later }
def SealStreamCardSaid : Prop := Claim7.holds Tryd.pinned (.plain (OpenSpec.ofChange sealStreamSpec)) sealStreamCard

/-- THE TIED CARD OF 'probitylaw14.SealCoefs'. -/
def sealCoefsCard : Claim7 := { stood := { row := sealCoefsRow, standIns := [], harness := (true, "8f4956b3cb3bf1dde616d526efc5f16595552985922de6a3ab284f667676ce5c"), looks := false }, kinds := [], alts := [], laidByText := true, laidKinds := [.data, .data, .data], laidTests := true, laidLooks := .later }
def SealCoefsCardSaid : Prop := Claim7.holds Tryd.pinned (.plain (OpenSpec.ofChange sealCoefsSpec)) sealCoefsCard

/-- THE TIED CARD OF 'probitylaw14.SealPrefix'. -/
def sealPrefixCard : Claim7 := { stood := { row := sealPrefixRow, standIns := [], harness := (true, "8f4956b3cb3bf1dde616d526efc5f16595552985922de6a3ab284f667676ce5c"), looks := false }, kinds := [], alts := [], laidByText := true, laidKinds := [.data, .data, .data], laidTests := true, laidLooks := .later }
def SealPrefixCardSaid : Prop := Claim7.holds Tryd.pinned (.plain (OpenSpec.ofChange sealPrefixSpec)) sealPrefixCard

/-- THE SECOND FORM's CARD OF 'probitylaw14.SealBytes'. -/
def sealBytesUptoCard : Claim7 := { stood := { row := sealBytesUptoRow, standIns := [], harness := (true, "8f4956b3cb3bf1dde616d526efc5f16595552985922de6a3ab284f667676ce5c"), looks := false }, kinds := [], alts := [], laidByText := true, laidKinds := [.data, .data, .data], laidTests := true, laidLooks := .later }
def SealBytesUptoCardSaid : Prop := Claim7.holds Tryd.pinned (.plain (OpenSpec.upto sealBytesSpec)) sealBytesUptoCard

/-- THE SECOND FORM's CARD OF 'probitylaw14.SealOpens'. -/
def sealOpensUptoCard : Claim7 := { stood := { row := sealOpensUptoRow, standIns := [], harness := (true, "8f4956b3cb3bf1dde616d526efc5f16595552985922de6a3ab284f667676ce5c"), looks := false }, kinds := [], alts := [], laidByText := true, laidKinds := [.data, .data, .data], laidTests := true, laidLooks := .later }
def SealOpensUptoCardSaid : Prop := Claim7.holds Tryd.pinned (.plain (OpenSpec.upto sealOpensSpec)) sealOpensUptoCard

/-- THE SECOND FORM's CARD OF 'probitylaw14.SealKeys'. -/
def sealKeysUptoCard : Claim7 := { stood := { row := sealKeysUptoRow, standIns := [], harness := (true, "8f4956b3cb3bf1dde616d526efc5f16595552985922de6a3ab284f667676ce5c"), looks := false }, kinds := [], alts := [], laidByText := true, laidKinds := [.data, .data, .data], laidTests := true, laidLooks := .later }
def SealKeysUptoCardSaid : Prop := Claim7.holds Tryd.pinned (.plain (OpenSpec.upto sealKeysSpec)) sealKeysUptoCard

/-- THE SECOND FORM's CARD OF 'probitylaw14.SealChanged'. -/
def sealChangedUptoCard : Claim7 := { stood := { row := sealChangedUptoRow, standIns := [], harness := (true, "8f4956b3cb3bf1dde616d526efc5f16595552985922de6a3ab284f667676ce5c"), looks := false }, kinds := [], alts := [], laidByText := true, laidKinds := [.data, .data, .data], laidTests := true, laidLooks := .later }
def SealChangedUptoCardSaid : Prop := Claim7.holds Tryd.pinned (.plain (OpenSpec.upto sealChangedSpec)) sealChangedUptoCard

/-- THE SECOND FORM's CARD OF 'probitylaw14.SealTexts'. -/
def sealTextsUptoCard : Claim7 := { stood := { row := sealTextsUptoRow, standIns := [], harness := (true, "8f4956b3cb3bf1dde616d526efc5f16595552985922de6a3ab284f667676ce5c"), looks := false }, kinds := [], alts := [], laidByText := true, laidKinds := [.data, .data, .data], laidTests := true, laidLooks := .later }
def SealTextsUptoCardSaid : Prop := Claim7.holds Tryd.pinned (.plain (OpenSpec.upto sealTextsSpec)) sealTextsUptoCard

/-- THE SECOND FORM's CARD OF 'probitylaw14.SealStream'. -/
def sealStreamUptoCard : Claim7 := { stood := { row := sealStreamUptoRow, standIns := [], harness := (true, "8f4956b3cb3bf1dde616d526efc5f16595552985922de6a3ab284f667676ce5c"), looks := false }, kinds := [], alts := [], laidByText := true, laidKinds := [.data, .data, .data], laidTests := true, laidLooks := .later }
def SealStreamUptoCardSaid : Prop := Claim7.holds Tryd.pinned (.plain (OpenSpec.upto sealStreamSpec)) sealStreamUptoCard

/-- THE SECOND FORM's CARD OF 'probitylaw14.SealCoefs'. -/
def sealCoefsUptoCard : Claim7 := { stood := { row := sealCoefsUptoRow, standIns := [], harness := (true, "8f4956b3cb3bf1dde616d526efc5f16595552985922de6a3ab284f667676ce5c"), looks := false }, kinds := [], alts := [], laidByText := true, laidKinds := [.data, .data, .data], laidTests := true, laidLooks := .later }
def SealCoefsUptoCardSaid : Prop := Claim7.holds Tryd.pinned (.plain (OpenSpec.upto sealCoefsSpec)) sealCoefsUptoCard

/-- THE SECOND FORM's CARD OF 'probitylaw14.SealPrefix'. -/
def sealPrefixUptoCard : Claim7 := { stood := { row := sealPrefixUptoRow, standIns := [], harness := (true, "8f4956b3cb3bf1dde616d526efc5f16595552985922de6a3ab284f667676ce5c"), looks := false }, kinds := [], alts := [], laidByText := true, laidKinds := [.data, .data, .data], laidTests := true, laidLooks := .later }
def SealPrefixUptoCardSaid : Prop := Claim7.holds Tryd.pinned (.plain (OpenSpec.upto sealPrefixSpec)) sealPrefixUptoCard
end Rows
end Go.Proofs.YtdgapomeenigbaaDoor
