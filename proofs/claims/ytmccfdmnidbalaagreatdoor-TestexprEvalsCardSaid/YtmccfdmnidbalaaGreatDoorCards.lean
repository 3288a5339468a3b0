/-
  DERIVED. GIVEN WITH THE SEED: THE CARDS: each row of YtmccfdmnidbalaaGreatDoorRows.lean that lists a variable, with what it lists TIED to the program's text (the seventh form; the later family's looks); each row that meets fmt, with fmt's text TOLD by the authors' own Lean function (tested against real Go, not proved from fmt's source: count such statements apart). THE CARD IS WHAT COUNTS. Prove the row's statement (the work); the ties are given (YtmccfdmnidbalaaGreatDoorTie.lean); close each card by the builder's one call (the guide's Derived/Test/ToyasCard.lean, 'card_holds'). Laid BY PROGRAM, IN A SANDBOX (cutbox-door.mjs). By AI agents, Wed Nov 11 2026. No macro, syntax, notation, axiom, sorry.
-/
import Derived.Test.YtmccfdmnidbalaaGreatDoorRows
import GoSem.ClaimSeven
namespace Go.Proofs.YtmccfdmnidbalaaGreatDoor
namespace Rows

/-- THE TIED CARD OF 'jobshelllaw29.TestexprEvals'. -/
def testexprEvalsCard : Claim7 := { stood := { row := testexprEvalsRow, standIns := [], harness := (true, "e64c1c6ce3c3fc92fdefd9882776234b439320d978278e3c328cc44aa11dc296"), looks := true }, kinds := [], alts := [], laidByText := true, laidKinds := [.data, .data, .data, .data, .sentinel, .sentinel, .pinned], laidTests := true, laidLooks := .later }
def TestexprEvalsCardSaid : Prop := Claim7.holds Tryz.pinned (.plain (OpenSpec.ofChange testexprEvalsSpec)) testexprEvalsCard

/-- THE SECOND FORM's CARD OF 'jobshelllaw29.TestexprEvals'. -/
def testexprEvalsUptoCard : Claim7 := { stood := { row := testexprEvalsUptoRow, standIns := [], harness := (true, "e64c1c6ce3c3fc92fdefd9882776234b439320d978278e3c328cc44aa11dc296"), looks := true }, kinds := [], alts := [], laidByText := true, laidKinds := [.data, .data, .data, .data, .sentinel, .sentinel, .pinned], laidTests := true, laidLooks := .later }
def TestexprEvalsUptoCardSaid : Prop := Claim7.holds Tryz.pinned (.plain (OpenSpec.upto testexprEvalsSpec)) testexprEvalsUptoCard
end Rows
end Go.Proofs.YtmccfdmnidbalaaGreatDoor
