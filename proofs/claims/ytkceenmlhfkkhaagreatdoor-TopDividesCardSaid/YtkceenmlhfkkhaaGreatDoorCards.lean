/-
  DERIVED. GIVEN WITH THE SEED: THE CARDS: each row of YtkceenmlhfkkhaaGreatDoorRows.lean that lists a variable, with what it lists TIED to the program's text (the seventh form; the later family's looks); each row that meets fmt, with fmt's text TOLD by the authors' own Lean function (tested against real Go, not proved from fmt's source: count such statements apart). THE CARD IS WHAT COUNTS. Prove the row's statement (the work); the ties are given (YtkceenmlhfkkhaaGreatDoorTie.lean); close each card by the builder's one call (the guide's Derived/Test/ToyasCard.lean, 'card_holds'). Laid BY PROGRAM, IN A SANDBOX (cutbox-door.mjs). By AI agents, Wed Nov 11 2026. No macro, syntax, notation, axiom, sorry.
-/
import Derived.Test.YtkceenmlhfkkhaaGreatDoorRows
import GoSem.ClaimSeven
namespace Go.Proofs.YtkceenmlhfkkhaaGreatDoor
namespace Rows

/-- THE TIED CARD OF 'jobshelltop.TopValues'. -/
def topValuesCard : Claim7 := { stood := { row := topValuesRow, standIns := [], harness := (true, "935ac85e711ccec947fd8b57788a3d6edc708b6bac526d92fedb914226f24e9e"), looks := true }, kinds := [], alts := [], laidByText := true, laidKinds := [.data, .data, .data, .data, .pinned], laidTests := true, laidLooks := .later }
def TopValuesCardSaid : Prop := Claim7.holds Tryz.pinned (.plain (OpenSpec.ofChange topValuesSpec)) topValuesCard

/-- THE TIED CARD OF 'jobshelltop.TopDivides'. -/
def topDividesCard : Claim7 := { stood := { row := topDividesRow, standIns := [], harness := (true, "935ac85e711ccec947fd8b57788a3d6edc708b6bac526d92fedb914226f24e9e"), looks := true }, kinds := [], alts := [], laidByText := true, laidKinds := [.data, .data, .data, .data, .pinned], laidTests := true, laidLooks := .later }
def TopDividesCardSaid : Prop := Claim7.holds Tryz.pinned (.plain (OpenSpec.ofChange topDividesSpec)) topDividesCard

/-- THE TIED CARD OF 'jobshelltop.TopParameters'. -/
def topParametersCard : Claim7 := { stood := { row := topParametersRow, standIns := [], harness := (true, "935ac85e711ccec947fd8b57788a3d6edc708b6bac526d92fedb914226f24e9e"), looks := true }, kinds := [], alts := [], laidByText := true, laidKinds := [.data, .data, .data, .data, .pinned], laidTests := true, laidLooks := .later }
def TopParametersCardSaid : Prop := Claim7.holds Tryz.pinned (.plain (OpenSpec.ofChange topParametersSpec)) topParametersCard

/-- THE TIED CARD OF 'jobshelltop.TopQuotes'. -/
def topQuotesCard : Claim7 := { stood := { row := topQuotesRow, standIns := [], harness := (true, "935ac85e711ccec947fd8b57788a3d6edc708b6bac526d92fedb914226f24e9e"), looks := true }, kinds := [], alts := [], laidByText := true, laidKinds := [.data, .data, .data, .data, .pinned], laidTests := true, laidLooks := .later }
def TopQuotesCardSaid : Prop := Claim7.holds Tryz.pinned (.plain (OpenSpec.ofChange topQuotesSpec)) topQuotesCard

/-- THE SECOND FORM's CARD OF 'jobshelltop.TopValues'. -/
def topValuesUptoCard : Claim7 := { stood := { row := topValuesUptoRow, standIns := [], harness := (true, "935ac85e711ccec947fd8b57788a3d6edc708b6bac526d92fedb914226f24e9e"), looks := true }, kinds := [], alts := [], laidByText := true, laidKinds := [.data, .data, .data, .data, .pinned], laidTests := true, laidLooks := .later }
def TopValuesUptoCardSaid : Prop := Claim7.holds Tryz.pinned (.plain (OpenSpec.upto topValuesSpec)) topValuesUptoCard

/-- THE SECOND FORM's CARD OF 'jobshelltop.TopDivides'. -/
def topDividesUptoCard : Claim7 := { stood := { row := topDividesUptoRow, standIns := [], harness := (true, "935ac85e711ccec947fd8b57788a3d6edc708b6bac526d92fedb914226f24e9e"), looks := true }, kinds := [], alts := [], laidByText := true, laidKinds := [.data, .data, .data, .data, .pinned], laidTests := true, laidLooks := .later }
def TopDividesUptoCardSaid : Prop := Claim7.holds Tryz.pinned (.plain (OpenSpec.upto topDividesSpec)) topDividesUptoCard

/-- THE SECOND FORM's CARD OF 'jobshelltop.TopParameters'. -/
def topParametersUptoCard : Claim7 := { stood := { row := topParametersUptoRow, standIns := [], harness := (true, "935ac85e711ccec947fd8b57788a3d6edc708b6bac526d92fedb914226f24e9e"), looks := true }, kinds := [], alts := [], laidByText := true, laidKinds := [.data, .data, .data, .data, .pinned], laidTests := true, laidLooks := .later }
def TopParametersUptoCardSaid : Prop := Claim7.holds Tryz.pinned (.plain (OpenSpec.upto topParametersSpec)) topParametersUptoCard

/-- THE SECOND FORM's CARD OF 'jobshelltop.TopQuotes'. -/
def topQuotesUptoCard : Claim7 := { stood := { row := topQuotesUptoRow, standIns := [], harness := (true, "935ac85e711ccec947fd8b57788a3d6edc708b6bac526d92fedb914226f24e9e"), looks := true }, kinds := [], alts := [], laidByText := true, laidKinds := [.data, .data, .data, .data, .pinned], laidTests := true, laidLooks := .later }
def TopQuotesUptoCardSaid : Prop := Claim7.holds Tryz.pinned (.plain (OpenSpec.upto topQuotesSpec)) topQuotesUptoCard
end Rows
end Go.Proofs.YtkceenmlhfkkhaaGreatDoor
