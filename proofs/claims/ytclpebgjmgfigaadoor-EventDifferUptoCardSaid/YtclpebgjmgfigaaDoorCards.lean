/-
  DERIVED. GIVEN WITH THE SEED: THE CARDS: each row of YtclpebgjmgfigaaDoorRows.lean that lists a variable, with what it lists TIED to the program's text (the seventh form; the later family's looks); each row that meets fmt, with fmt's text TOLD by the authors' own Lean function (tested against real Go, not proved from fmt's source: count such statements apart). THE CARD IS WHAT COUNTS. Prove the row's statement (the work); the ties are given (YtclpebgjmgfigaaDoorTie.lean); close each card by the builder's one call (the guide's Derived/Test/ToyasCard.lean, 'card_holds'). Laid BY PROGRAM, IN A SANDBOX (cutbox-door.mjs). By AI agents, Wed Nov 11 2026. No macro, syntax, notation, axiom, sorry.
-/
import Derived.Test.YtclpebgjmgfigaaDoorRows
import GoSem.ClaimSeven
namespace Go.Proofs.YtclpebgjmgfigaaDoor
namespace Rows

/-- THE TIED CARD OF 'probitylaw23.EventDiffer'. -/
def eventDifferCard : Claim7 := { stood := { row := eventDifferRow, standIns := [], harness := (true, "331cb022c75ef90d534e9dcdaeed19fb8424b747bb1714060b8c56d261503dbe"), looks := true }, kinds := [], alts := [], laidByText := true, laidKinds := [.data, .data, .data, .sentinel, .sentinel], laidTests := true, laidLooks := .later }
def EventDifferCardSaid : Prop := Claim7.holds Tryd.pinned (.plain (OpenSpec.ofChange eventDifferSpec)) eventDifferCard

/-- THE TIED CARD OF 'probitylaw23.EventMany'. -/
def eventManyCard : Claim7 := { stood := { row := eventManyRow, standIns := [], harness := (true, "331cb022c75ef90d534e9dcdaeed19fb8424b747bb1714060b8c56d261503dbe"), looks := true }, kinds := [], alts := [], laidByText := true, laidKinds := [.data, .data, .data, .sentinel, .sentinel], laidTests := true, laidLooks := .later }
def EventManyCardSaid : Prop := Claim7.holds Tryd.pinned (.plain (OpenSpec.ofChange eventManySpec)) eventManyCard

/-- THE SECOND FORM's CARD OF 'probitylaw23.EventDiffer'. -/
def eventDifferUptoCard : Claim7 := { stood := { row := eventDifferUptoRow, standIns := [], harness := (true, "331cb022c75ef90d534e9dcdaeed19fb8424b747bb1714060b8c56d261503dbe"), looks := true }, kinds := [], alts := [], laidByText := true, laidKinds := [.data, .data, .data, .sentinel, .sentinel], laidTests := true, laidLooks := .later }
def EventDifferUptoCardSaid : Prop := Claim7.holds Tryd.pinned (.plain (OpenSpec.upto eventDifferSpec)) eventDifferUptoCard

/-- THE SECOND FORM's CARD OF 'probitylaw23.EventMany'. -/
def eventManyUptoCard : Claim7 := { stood := { row := eventManyUptoRow, standIns := [], harness := (true, "331cb022c75ef90d534e9dcdaeed19fb8424b747bb1714060b8c56d261503dbe"), looks := true }, kinds := [], alts := [], laidByText := true, laidKinds := [.data, .data, .data, .sentinel, .sentinel], laidTests := true, laidLooks := .later }
def EventManyUptoCardSaid : Prop := Claim7.holds Tryd.pinned (.plain (OpenSpec.upto eventManySpec)) eventManyUptoCard
end Rows
end Go.Proofs.YtclpebgjmgfigaaDoor
