/-
  DERIVED. GIVEN WITH THE SEED: THE CARDS: each row of YtelhobphphkidaaGreatDoorRows.lean that lists a variable, with what it lists TIED to the program's text (the seventh form; the later family's looks); each row that meets fmt, with fmt's text TOLD by the authors' own Lean function (tested against real Go, not proved from fmt's source: count such statements apart). THE CARD IS WHAT COUNTS. Prove the row's statement (the work); the ties are given (YtelhobphphkidaaGreatDoorTie.lean); close each card by the builder's one call (the guide's Derived/Test/ToyasCard.lean, 'card_holds'). Laid BY PROGRAM, IN A SANDBOX (cutbox-door.mjs). By AI agents, Wed Nov 11 2026. No macro, syntax, notation, axiom, sorry.
-/
import Derived.Test.YtelhobphphkidaaGreatDoorRows
import GoSem.ClaimSeven
namespace Go.Proofs.YtelhobphphkidaaGreatDoor
namespace Rows

/-- THE TIED CARD OF 'jobshelllaw09.AliasValids'. -/
def aliasValidsCard : Claim7 := { stood := { row := aliasValidsRow, standIns := [], harness := (true, "4c220aee4044f3c0136173132c07fdb37dbd60519748c9cb72676ab5662619f9"), looks := true }, kinds := [], alts := [], laidByText := true, laidKinds := [.data, .pinned], laidTests := true, laidLooks := .later }
def AliasValidsCardSaid : Prop := Claim7.holds Tryz.pinned (.plain (OpenSpec.ofChange aliasValidsSpec)) aliasValidsCard

/-- THE TIED CARD OF 'jobshelllaw09.AliasSets'. -/
def aliasSetsCard : Claim7 := { stood := { row := aliasSetsRow, standIns := [], harness := (true, "4c220aee4044f3c0136173132c07fdb37dbd60519748c9cb72676ab5662619f9"), looks := true }, kinds := [], alts := [], laidByText := true, laidKinds := [.data, .pinned], laidTests := true, laidLooks := .later }
def AliasSetsCardSaid : Prop := Claim7.holds Tryz.pinned (.plain (OpenSpec.ofChange aliasSetsSpec)) aliasSetsCard

/-- THE TIED CARD OF 'jobshelllaw09.AliasUnsets'. -/
def aliasUnsetsCard : Claim7 := { stood := { row := aliasUnsetsRow, standIns := [], harness := (true, "4c220aee4044f3c0136173132c07fdb37dbd60519748c9cb72676ab5662619f9"), looks := true }, kinds := [], alts := [], laidByText := true, laidKinds := [.data, .pinned], laidTests := true, laidLooks := .later }
def AliasUnsetsCardSaid : Prop := Claim7.holds Tryz.pinned (.plain (OpenSpec.ofChange aliasUnsetsSpec)) aliasUnsetsCard

/-- THE TIED CARD OF 'jobshelllaw09.AliasExpands'. -/
def aliasExpandsCard : Claim7 := { stood := { row := aliasExpandsRow, standIns := [], harness := (true, "4c220aee4044f3c0136173132c07fdb37dbd60519748c9cb72676ab5662619f9"), looks := true }, kinds := [], alts := [], laidByText := true, laidKinds := [.data, .pinned], laidTests := true, laidLooks := .later }
def AliasExpandsCardSaid : Prop := Claim7.holds Tryz.pinned (.plain (OpenSpec.ofChange aliasExpandsSpec)) aliasExpandsCard

/-- THE TIED CARD OF 'jobshelllaw09.AliasNone'. -/
def aliasNoneCard : Claim7 := { stood := { row := aliasNoneRow, standIns := [], harness := (true, "4c220aee4044f3c0136173132c07fdb37dbd60519748c9cb72676ab5662619f9"), looks := true }, kinds := [], alts := [], laidByText := true, laidKinds := [.data, .pinned], laidTests := true, laidLooks := .later }
def AliasNoneCardSaid : Prop := Claim7.holds Tryz.pinned (.plain (OpenSpec.ofChange aliasNoneSpec)) aliasNoneCard

/-- THE TIED CARD OF 'jobshelllaw09.AliasOne'. -/
def aliasOneCard : Claim7 := { stood := { row := aliasOneRow, standIns := [], harness := (true, "4c220aee4044f3c0136173132c07fdb37dbd60519748c9cb72676ab5662619f9"), looks := true }, kinds := [], alts := [], laidByText := true, laidKinds := [.data, .pinned], laidTests := true, laidLooks := .later }
def AliasOneCardSaid : Prop := Claim7.holds Tryz.pinned (.plain (OpenSpec.ofChange aliasOneSpec)) aliasOneCard

/-- THE TIED CARD OF 'jobshelllaw09.AliasList'. -/
def aliasListCard : Claim7 := { stood := { row := aliasListRow, standIns := [], harness := (true, "4c220aee4044f3c0136173132c07fdb37dbd60519748c9cb72676ab5662619f9"), looks := true }, kinds := [], alts := [], laidByText := true, laidKinds := [.data, .pinned], laidTests := true, laidLooks := .later }
def AliasListCardSaid : Prop := Claim7.holds Tryz.pinned (.plain (OpenSpec.ofChange aliasListSpec)) aliasListCard

/-- THE SECOND FORM's CARD OF 'jobshelllaw09.AliasValids'. -/
def aliasValidsUptoCard : Claim7 := { stood := { row := aliasValidsUptoRow, standIns := [], harness := (true, "4c220aee4044f3c0136173132c07fdb37dbd60519748c9cb72676ab5662619f9"), looks := true }, kinds := [], alts := [], laidByText := true, laidKinds := [.data, .pinned], laidTests := true, laidLooks := .later }
def AliasValidsUptoCardSaid : Prop := Claim7.holds Tryz.pinned (.plain (OpenSpec.upto aliasValidsSpec)) aliasValidsUptoCard

/-- THE SECOND FORM's CARD OF 'jobshelllaw09.AliasSets'. -/
def aliasSetsUptoCard : Claim7 := { stood := { row := aliasSetsUptoRow, standIns := [], harness := (true, "4c220aee4044f3c0136173132c07fdb37dbd60519748c9cb72676ab5662619f9"), looks := true }, kinds := [], alts := [], laidByText := true, laidKinds := [.data, .pinned], laidTests := true, laidLooks := .later }
def AliasSetsUptoCardSaid : Prop := Claim7.holds Tryz.pinned (.plain (OpenSpec.upto aliasSetsSpec)) aliasSetsUptoCard

/-- THE SECOND FORM's CARD OF 'jobshelllaw09.AliasUnsets'. -/
def aliasUnsetsUptoCard : Claim7 := { stood := { row := aliasUnsetsUptoRow, standIns := [], harness := (true, "4c220aee4044f3c0136173132c07fdb37dbd60519748c9cb72676ab5662619f9"), looks := true }, kinds := [], alts := [], laidByText := true, laidKinds := [.data, .pinned], laidTests := true, laidLooks := .later }
def AliasUnsetsUptoCardSaid : Prop := Claim7.holds Tryz.pinned (.plain (OpenSpec.upto aliasUnsetsSpec)) aliasUnsetsUptoCard

/-- THE SECOND FORM's CARD OF 'jobshelllaw09.AliasExpands'. -/
def aliasExpandsUptoCard : Claim7 := { stood := { row := aliasExpandsUptoRow, standIns := [], harness := (true, "4c220aee4044f3c0136173132c07fdb37dbd60519748c9cb72676ab5662619f9"), looks := true }, kinds := [], alts := [], laidByText := true, laidKinds := [.data, .pinned], laidTests := true, laidLooks := .later }
def AliasExpandsUptoCardSaid : Prop := Claim7.holds Tryz.pinned (.plain (OpenSpec.upto aliasExpandsSpec)) aliasExpandsUptoCard

/-- THE SECOND FORM's CARD OF 'jobshelllaw09.AliasNone'. -/
def aliasNoneUptoCard : Claim7 := { stood := { row := aliasNoneUptoRow, standIns := [], harness := (true, "4c220aee4044f3c0136173132c07fdb37dbd60519748c9cb72676ab5662619f9"), looks := true }, kinds := [], alts := [], laidByText := true, laidKinds := [.data, .pinned], laidTests := true, laidLooks := .later }
def AliasNoneUptoCardSaid : Prop := Claim7.holds Tryz.pinned (.plain (OpenSpec.upto aliasNoneSpec)) aliasNoneUptoCard

/-- THE SECOND FORM's CARD OF 'jobshelllaw09.AliasOne'. -/
def aliasOneUptoCard : Claim7 := { stood := { row := aliasOneUptoRow, standIns := [], harness := (true, "4c220aee4044f3c0136173132c07fdb37dbd60519748c9cb72676ab5662619f9"), looks := true }, kinds := [], alts := [], laidByText := true, laidKinds := [.data, .pinned], laidTests := true, laidLooks := .later }
def AliasOneUptoCardSaid : Prop := Claim7.holds Tryz.pinned (.plain (OpenSpec.upto aliasOneSpec)) aliasOneUptoCard

/-- THE SECOND FORM's CARD OF 'jobshelllaw09.AliasList'. -/
def aliasListUptoCard : Claim7 := { stood := { row := aliasListUptoRow, standIns := [], harness := (true, "4c220aee4044f3c0136173132c07fdb37dbd60519748c9cb72676ab5662619f9"), looks := true }, kinds := [], alts := [], laidByText := true, laidKinds := [.data, .pinned], laidTests := true, laidLooks := .later }
def AliasListUptoCardSaid : Prop := Claim7.holds Tryz.pinned (.plain (OpenSpec.upto aliasListSpec)) aliasListUptoCard
end Rows
end Go.Proofs.YtelhobphphkidaaGreatDoor
