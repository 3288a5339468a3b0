/-
  DERIVED. GIVEN WITH THE SEED: THE CARDS: each row of YtmccfdmnidbalaaDoorRows.lean that lists a variable, with what it lists TIED to the program's text (the seventh form; the later family's looks); each row that meets fmt, with fmt's text TOLD by the authors' own Lean function (tested against real Go, not proved from fmt's source: count such statements apart). THE CARD IS WHAT COUNTS. Prove the row's statement (the work); the ties are given (YtmccfdmnidbalaaDoorTie.lean); close each card by the builder's one call (the guide's Derived/Test/ToyasCard.lean, 'card_holds'). Laid BY PROGRAM, IN A SANDBOX (cutbox-door.mjs). By AI agents, Wed Nov 11 2026. No macro, syntax, notation, axiom, sorry.
-/
import Derived.Test.YtmccfdmnidbalaaDoorRows
import GoSem.ClaimSeven
namespace Go.Proofs.YtmccfdmnidbalaaDoor
namespace Rows

/-- THE TIED CARD OF 'jobshelllaw29.TestexprNegates'. -/
def testexprNegatesCard : Claim7 := { stood := { row := testexprNegatesRow, standIns := [], harness := (true, "babcc0a08075927608d6a6c53b1b829bcdec7fa9e6d0248fc76533cd0ece7131"), looks := true }, kinds := [], alts := [], laidByText := true, laidKinds := [.data, .data, .data, .data, .sentinel, .sentinel, .pinned], laidTests := true, laidLooks := .later }
def TestexprNegatesCardSaid : Prop := Claim7.holds Tryd.pinned (.plain (OpenSpec.ofChange testexprNegatesSpec)) testexprNegatesCard

/-- THE TIED CARD OF 'jobshelllaw29.TestexprOpposites'. -/
def testexprOppositesCard : Claim7 := { stood := { row := testexprOppositesRow, standIns := [], harness := (true, "babcc0a08075927608d6a6c53b1b829bcdec7fa9e6d0248fc76533cd0ece7131"), looks := true }, kinds := [], alts := [], laidByText := true, laidKinds := [.data, .data, .data, .data, .sentinel, .sentinel, .pinned], laidTests := true, laidLooks := .later }
def TestexprOppositesCardSaid : Prop := Claim7.holds Tryd.pinned (.plain (OpenSpec.ofChange testexprOppositesSpec)) testexprOppositesCard

/-- THE TIED CARD OF 'jobshelllaw29.TestexprNumbers'. -/
def testexprNumbersCard : Claim7 := { stood := { row := testexprNumbersRow, standIns := [], harness := (true, "babcc0a08075927608d6a6c53b1b829bcdec7fa9e6d0248fc76533cd0ece7131"), looks := true }, kinds := [], alts := [], laidByText := true, laidKinds := [.data, .data, .data, .data, .sentinel, .sentinel, .pinned], laidTests := true, laidLooks := .later }
def TestexprNumbersCardSaid : Prop := Claim7.holds Tryd.pinned (.plain (OpenSpec.ofChange testexprNumbersSpec)) testexprNumbersCard

/-- THE TIED CARD OF 'jobshelllaw29.TestexprFiles'. -/
def testexprFilesCard : Claim7 := { stood := { row := testexprFilesRow, standIns := [], harness := (true, "babcc0a08075927608d6a6c53b1b829bcdec7fa9e6d0248fc76533cd0ece7131"), looks := true }, kinds := [], alts := [], laidByText := true, laidKinds := [.data, .data, .data, .data, .sentinel, .sentinel, .pinned], laidTests := true, laidLooks := .later }
def TestexprFilesCardSaid : Prop := Claim7.holds Tryd.pinned (.plain (OpenSpec.ofChange testexprFilesSpec)) testexprFilesCard

/-- THE SECOND FORM's CARD OF 'jobshelllaw29.TestexprNegates'. -/
def testexprNegatesUptoCard : Claim7 := { stood := { row := testexprNegatesUptoRow, standIns := [], harness := (true, "babcc0a08075927608d6a6c53b1b829bcdec7fa9e6d0248fc76533cd0ece7131"), looks := true }, kinds := [], alts := [], laidByText := true, laidKinds := [.data, .data, .data, .data, .sentinel, .sentinel, .pinned], laidTests := true, laidLooks := .later }
def TestexprNegatesUptoCardSaid : Prop := Claim7.holds Tryd.pinned (.plain (OpenSpec.upto testexprNegatesSpec)) testexprNegatesUptoCard

/-- THE SECOND FORM's CARD OF 'jobshelllaw29.TestexprOpposites'. -/
def testexprOppositesUptoCard : Claim7 := { stood := { row := testexprOppositesUptoRow, standIns := [], harness := (true, "babcc0a08075927608d6a6c53b1b829bcdec7fa9e6d0248fc76533cd0ece7131"), looks := true }, kinds := [], alts := [], laidByText := true, laidKinds := [.data, .data, .data, .data, .sentinel, .sentinel, .pinned], laidTests := true, laidLooks := .later }
def TestexprOppositesUptoCardSaid : Prop := Claim7.holds Tryd.pinned (.plain (OpenSpec.upto testexprOppositesSpec)) testexprOppositesUptoCard

/-- THE SECOND FORM's CARD OF 'jobshelllaw29.TestexprNumbers'. -/
def testexprNumbersUptoCard : Claim7 := { stood := { row := testexprNumbersUptoRow, standIns := [], harness := (true, "babcc0a08075927608d6a6c53b1b829bcdec7fa9e6d0248fc76533cd0ece7131"), looks := true }, kinds := [], alts := [], laidByText := true, laidKinds := [.data, .data, .data, .data, .sentinel, .sentinel, .pinned], laidTests := true, laidLooks := .later }
def TestexprNumbersUptoCardSaid : Prop := Claim7.holds Tryd.pinned (.plain (OpenSpec.upto testexprNumbersSpec)) testexprNumbersUptoCard

/-- THE SECOND FORM's CARD OF 'jobshelllaw29.TestexprFiles'. -/
def testexprFilesUptoCard : Claim7 := { stood := { row := testexprFilesUptoRow, standIns := [], harness := (true, "babcc0a08075927608d6a6c53b1b829bcdec7fa9e6d0248fc76533cd0ece7131"), looks := true }, kinds := [], alts := [], laidByText := true, laidKinds := [.data, .data, .data, .data, .sentinel, .sentinel, .pinned], laidTests := true, laidLooks := .later }
def TestexprFilesUptoCardSaid : Prop := Claim7.holds Tryd.pinned (.plain (OpenSpec.upto testexprFilesSpec)) testexprFilesUptoCard
end Rows
end Go.Proofs.YtmccfdmnidbalaaDoor
