/-
  DERIVED. GIVEN WITH THE SEED: THE CARDS: each row of YtcbdhheelddgeaaGreatDoorRows.lean that lists a variable, with what it lists TIED to the program's text (the seventh form; the later family's looks); each row that meets fmt, with fmt's text TOLD by the authors' own Lean function (tested against real Go, not proved from fmt's source: count such statements apart). THE CARD IS WHAT COUNTS. Prove the row's statement (the work); the ties are given (YtcbdhheelddgeaaGreatDoorTie.lean); close each card by the builder's one call (the guide's Derived/Test/ToyasCard.lean, 'card_holds'). Laid BY PROGRAM, IN A SANDBOX (cutbox-door.mjs). By AI agents, Wed Nov 11 2026. No macro, syntax, notation, axiom, sorry.
-/
import Derived.Test.YtcbdhheelddgeaaGreatDoorRows
import GoSem.ClaimSeven
namespace Go.Proofs.YtcbdhheelddgeaaGreatDoor
namespace Rows

/-- THE TIED CARD OF 'jobshelllaw09.AliasExpands'. -/
def aliasExpandsCard : Claim7 := { stood := { row := aliasExpandsRow, standIns := [], harness := (true, "d867b61576ab63cce0eec0e172da8152ece0f6dfe02e234ef5cbdfc0e8871b9b"), looks := true }, kinds := [], alts := [], laidByText := true, laidKinds := [.data, .pinned], laidTests := true, laidLooks := .later }
def AliasExpandsCardSaid : Prop := Claim7.holds Tryz.pinned (.plain (OpenSpec.ofChange aliasExpandsSpec)) aliasExpandsCard

/-- THE SECOND FORM's CARD OF 'jobshelllaw09.AliasExpands'. -/
def aliasExpandsUptoCard : Claim7 := { stood := { row := aliasExpandsUptoRow, standIns := [], harness := (true, "d867b61576ab63cce0eec0e172da8152ece0f6dfe02e234ef5cbdfc0e8871b9b"), looks := true }, kinds := [], alts := [], laidByText := true, laidKinds := [.data, .pinned], laidTests := true, laidLooks := .later }
def AliasExpandsUptoCardSaid : Prop := Claim7.holds Tryz.pinned (.plain (OpenSpec.upto aliasExpandsSpec)) aliasExpandsUptoCard
end Rows
end Go.Proofs.YtcbdhheelddgeaaGreatDoor
