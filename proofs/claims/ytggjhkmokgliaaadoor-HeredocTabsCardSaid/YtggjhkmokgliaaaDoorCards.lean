/-
  DERIVED. GIVEN WITH THE SEED: THE CARDS: each row of YtggjhkmokgliaaaDoorRows.lean that lists a variable, with what it lists TIED to the program's text (the seventh form; the later family's looks); each row that meets fmt, with fmt's text TOLD by the authors' own Lean function (tested against real Go, not proved from fmt's source: count such statements apart). THE CARD IS WHAT COUNTS. Prove the row's statement (the work); the ties are given (YtggjhkmokgliaaaDoorTie.lean); close each card by the builder's one call (the guide's Derived/Test/ToyasCard.lean, 'card_holds'). Laid BY PROGRAM, IN A SANDBOX (cutbox-door.mjs). By AI agents, Wed Nov 11 2026. No macro, syntax, notation, axiom, sorry.
-/
import Derived.Test.YtggjhkmokgliaaaDoorRows
import GoSem.ClaimSeven
namespace Go.Proofs.YtggjhkmokgliaaaDoor
namespace Rows

/-- THE TIED CARD OF 'jobshelllaw10.HeredocStrips'. -/
def heredocStripsCard : Claim7 := { stood := { row := heredocStripsRow, standIns := [], harness := (true, "757727b739d8b273662553a4d4b297e3e472323f18a761d3beaf7063f1c0e35d"), looks := true }, kinds := [], alts := [], laidByText := true, laidKinds := [.data, .data, .data, .data, .pinned], laidTests := true, laidLooks := .later }
def HeredocStripsCardSaid : Prop := Claim7.holds Tryd.pinned (.plain (OpenSpec.ofChange heredocStripsSpec)) heredocStripsCard

/-- THE TIED CARD OF 'jobshelllaw10.HeredocDelimiters'. -/
def heredocDelimitersCard : Claim7 := { stood := { row := heredocDelimitersRow, standIns := [], harness := (true, "757727b739d8b273662553a4d4b297e3e472323f18a761d3beaf7063f1c0e35d"), looks := true }, kinds := [], alts := [], laidByText := true, laidKinds := [.data, .data, .data, .data, .pinned], laidTests := true, laidLooks := .later }
def HeredocDelimitersCardSaid : Prop := Claim7.holds Tryd.pinned (.plain (OpenSpec.ofChange heredocDelimitersSpec)) heredocDelimitersCard

/-- THE TIED CARD OF 'jobshelllaw10.HeredocRounds'. -/
def heredocRoundsCard : Claim7 := { stood := { row := heredocRoundsRow, standIns := [], harness := (true, "757727b739d8b273662553a4d4b297e3e472323f18a761d3beaf7063f1c0e35d"), looks := true }, kinds := [], alts := [], laidByText := true, laidKinds := [.data, .data, .data, .data, .pinned], laidTests := true, laidLooks := .later }
def HeredocRoundsCardSaid : Prop := Claim7.holds Tryd.pinned (.plain (OpenSpec.ofChange heredocRoundsSpec)) heredocRoundsCard

/-- THE TIED CARD OF 'jobshelllaw10.HeredocTabs'. -/
def heredocTabsCard : Claim7 := { stood := { row := heredocTabsRow, standIns := [], harness := (true, "757727b739d8b273662553a4d4b297e3e472323f18a761d3beaf7063f1c0e35d"), looks := true }, kinds := [], alts := [], laidByText := true, laidKinds := [.data, .data, .data, .data, .pinned], laidTests := true, laidLooks := .later }
def HeredocTabsCardSaid : Prop := Claim7.holds Tryd.pinned (.plain (OpenSpec.ofChange heredocTabsSpec)) heredocTabsCard

/-- THE SECOND FORM's CARD OF 'jobshelllaw10.HeredocStrips'. -/
def heredocStripsUptoCard : Claim7 := { stood := { row := heredocStripsUptoRow, standIns := [], harness := (true, "757727b739d8b273662553a4d4b297e3e472323f18a761d3beaf7063f1c0e35d"), looks := true }, kinds := [], alts := [], laidByText := true, laidKinds := [.data, .data, .data, .data, .pinned], laidTests := true, laidLooks := .later }
def HeredocStripsUptoCardSaid : Prop := Claim7.holds Tryd.pinned (.plain (OpenSpec.upto heredocStripsSpec)) heredocStripsUptoCard

/-- THE SECOND FORM's CARD OF 'jobshelllaw10.HeredocDelimiters'. -/
def heredocDelimitersUptoCard : Claim7 := { stood := { row := heredocDelimitersUptoRow, standIns := [], harness := (true, "757727b739d8b273662553a4d4b297e3e472323f18a761d3beaf7063f1c0e35d"), looks := true }, kinds := [], alts := [], laidByText := true, laidKinds := [.data, .data, .data, .data, .pinned], laidTests := true, laidLooks := .later }
def HeredocDelimitersUptoCardSaid : Prop := Claim7.holds Tryd.pinned (.plain (OpenSpec.upto heredocDelimitersSpec)) heredocDelimitersUptoCard

/-- THE SECOND FORM's CARD OF 'jobshelllaw10.HeredocRounds'. -/
def heredocRoundsUptoCard : Claim7 := { stood := { row := heredocRoundsUptoRow, standIns := [], harness := (true, "757727b739d8b273662553a4d4b297e3e472323f18a761d3beaf7063f1c0e35d"), looks := true }, kinds := [], alts := [], laidByText := true, laidKinds := [.data, .data, .data, .data, .pinned], laidTests := true, laidLooks := .later }
def HeredocRoundsUptoCardSaid : Prop := Claim7.holds Tryd.pinned (.plain (OpenSpec.upto heredocRoundsSpec)) heredocRoundsUptoCard

/-- THE SECOND FORM's CARD OF 'jobshelllaw10.HeredocTabs'. -/
def heredocTabsUptoCard : Claim7 := { stood := { row := heredocTabsUptoRow, standIns := [], harness := (true, "757727b739d8b273662553a4d4b297e3e472323f18a761d3beaf7063f1c0e35d"), looks := true }, kinds := [], alts := [], laidByText := true, laidKinds := [.data, .data, .data, .data, .pinned], laidTests := true, laidLooks := .later }
def HeredocTabsUptoCardSaid : Prop := Claim7.holds Tryd.pinned (.plain (OpenSpec.upto heredocTabsSpec)) heredocTabsUptoCard
end Rows
end Go.Proofs.YtggjhkmokgliaaaDoor
