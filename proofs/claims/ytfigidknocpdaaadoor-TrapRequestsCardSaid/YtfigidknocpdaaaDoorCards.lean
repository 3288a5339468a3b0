/-
  DERIVED. GIVEN WITH THE SEED: THE CARDS: each row of YtfigidknocpdaaaDoorRows.lean that lists a variable, with what it lists TIED to the program's text (the seventh form; the later family's looks); each row that meets fmt, with fmt's text TOLD by the authors' own Lean function (tested against real Go, not proved from fmt's source: count such statements apart). THE CARD IS WHAT COUNTS. Prove the row's statement (the work); the ties are given (YtfigidknocpdaaaDoorTie.lean); close each card by the builder's one call (the guide's Derived/Test/ToyasCard.lean, 'card_holds'). Laid BY PROGRAM, IN A SANDBOX (cutbox-door.mjs). By AI agents, Wed Nov 11 2026. No macro, syntax, notation, axiom, sorry.
-/
import Derived.Test.YtfigidknocpdaaaDoorRows
import GoSem.ClaimSeven
namespace Go.Proofs.YtfigidknocpdaaaDoor
namespace Rows

/-- THE TIED CARD OF 'jobshelllaw34.TrapSignals'. -/
def trapSignalsCard : Claim7 := { stood := { row := trapSignalsRow, standIns := [], harness := (true, "13410e7c0a7ff461e7ec954d755ee179b5380e34ee50302592f3446e72657ac7"), looks := false }, kinds := [], alts := [], laidByText := true, laidKinds := [.data, .data, .data, .data, .data, .pinned], laidTests := true, laidLooks := .later }
def TrapSignalsCardSaid : Prop := Claim7.holds Tryd.pinned (.plain (OpenSpec.ofChange trapSignalsSpec)) trapSignalsCard

/-- THE TIED CARD OF 'jobshelllaw34.TrapNexts'. -/
def trapNextsCard : Claim7 := { stood := { row := trapNextsRow, standIns := [], harness := (true, "13410e7c0a7ff461e7ec954d755ee179b5380e34ee50302592f3446e72657ac7"), looks := false }, kinds := [], alts := [], laidByText := true, laidKinds := [.data, .data, .data, .data, .data, .pinned], laidTests := true, laidLooks := .later }
def TrapNextsCardSaid : Prop := Claim7.holds Tryd.pinned (.plain (OpenSpec.ofChange trapNextsSpec)) trapNextsCard

/-- THE TIED CARD OF 'jobshelllaw34.TrapRequests'. -/
def trapRequestsCard : Claim7 := { stood := { row := trapRequestsRow, standIns := [], harness := (true, "13410e7c0a7ff461e7ec954d755ee179b5380e34ee50302592f3446e72657ac7"), looks := false }, kinds := [], alts := [], laidByText := true, laidKinds := [.data, .data, .data, .data, .data, .pinned], laidTests := true, laidLooks := .later }
def TrapRequestsCardSaid : Prop := Claim7.holds Tryd.pinned (.plain (OpenSpec.ofChange trapRequestsSpec)) trapRequestsCard

/-- THE TIED CARD OF 'jobshelllaw34.TrapTakes'. -/
def trapTakesCard : Claim7 := { stood := { row := trapTakesRow, standIns := [], harness := (true, "13410e7c0a7ff461e7ec954d755ee179b5380e34ee50302592f3446e72657ac7"), looks := false }, kinds := [], alts := [], laidByText := true, laidKinds := [.data, .data, .data, .data, .data, .pinned], laidTests := true, laidLooks := .later }
def TrapTakesCardSaid : Prop := Claim7.holds Tryd.pinned (.plain (OpenSpec.ofChange trapTakesSpec)) trapTakesCard

/-- THE TIED CARD OF 'jobshelllaw34.TrapSettles'. -/
def trapSettlesCard : Claim7 := { stood := { row := trapSettlesRow, standIns := [], harness := (true, "13410e7c0a7ff461e7ec954d755ee179b5380e34ee50302592f3446e72657ac7"), looks := false }, kinds := [], alts := [], laidByText := true, laidKinds := [.data, .data, .data, .data, .data, .pinned], laidTests := true, laidLooks := .later }
def TrapSettlesCardSaid : Prop := Claim7.holds Tryd.pinned (.plain (OpenSpec.ofChange trapSettlesSpec)) trapSettlesCard

/-- THE TIED CARD OF 'jobshelllaw34.TrapChanges'. -/
def trapChangesCard : Claim7 := { stood := { row := trapChangesRow, standIns := [], harness := (true, "13410e7c0a7ff461e7ec954d755ee179b5380e34ee50302592f3446e72657ac7"), looks := false }, kinds := [], alts := [], laidByText := true, laidKinds := [.data, .data, .data, .data, .data, .pinned], laidTests := true, laidLooks := .later }
def TrapChangesCardSaid : Prop := Claim7.holds Tryd.pinned (.plain (OpenSpec.ofChange trapChangesSpec)) trapChangesCard

/-- THE TIED CARD OF 'jobshelllaw34.TrapStays'. -/
def trapStaysCard : Claim7 := { stood := { row := trapStaysRow, standIns := [], harness := (true, "13410e7c0a7ff461e7ec954d755ee179b5380e34ee50302592f3446e72657ac7"), looks := false }, kinds := [], alts := [], laidByText := true, laidKinds := [.data, .data, .data, .data, .data, .pinned], laidTests := true, laidLooks := .later }
def TrapStaysCardSaid : Prop := Claim7.holds Tryd.pinned (.plain (OpenSpec.ofChange trapStaysSpec)) trapStaysCard

/-- THE SECOND FORM's CARD OF 'jobshelllaw34.TrapSignals'. -/
def trapSignalsUptoCard : Claim7 := { stood := { row := trapSignalsUptoRow, standIns := [], harness := (true, "13410e7c0a7ff461e7ec954d755ee179b5380e34ee50302592f3446e72657ac7"), looks := false }, kinds := [], alts := [], laidByText := true, laidKinds := [.data, .data, .data, .data, .data, .pinned], laidTests := true, laidLooks := .later }
def TrapSignalsUptoCardSaid : Prop := Claim7.holds Tryd.pinned (.plain (OpenSpec.upto trapSignalsSpec)) trapSignalsUptoCard

/-- THE SECOND FORM's CARD OF 'jobshelllaw34.TrapNexts'. -/
def trapNextsUptoCard : Claim7 := { stood := { row := trapNextsUptoRow, standIns := [], harness := (true, "13410e7c0a7ff461e7ec954d755ee179b5380e34ee50302592f3446e72657ac7"), looks := false }, kinds := [], alts := [], laidByText := true, laidKinds := [.data, .data, .data, .data, .data, .pinned], laidTests := true, laidLooks := .later }
def TrapNextsUptoCardSaid : Prop := Claim7.holds Tryd.pinned (.plain (OpenSpec.upto trapNextsSpec)) trapNextsUptoCard

/-- THE SECOND FORM's CARD OF 'jobshelllaw34.TrapRequests'. -/
def trapRequestsUptoCard : Claim7 := { stood := { row := trapRequestsUptoRow, standIns := [], harness := (true, "13410e7c0a7ff461e7ec954d755ee179b5380e34ee50302592f3446e72657ac7"), looks := false }, kinds := [], alts := [], laidByText := true, laidKinds := [.data, .data, .data, .data, .data, .pinned], laidTests := true, laidLooks := .later }
def TrapRequestsUptoCardSaid : Prop := Claim7.holds Tryd.pinned (.plain (OpenSpec.upto trapRequestsSpec)) trapRequestsUptoCard

/-- THE SECOND FORM's CARD OF 'jobshelllaw34.TrapTakes'. -/
def trapTakesUptoCard : Claim7 := { stood := { row := trapTakesUptoRow, standIns := [], harness := (true, "13410e7c0a7ff461e7ec954d755ee179b5380e34ee50302592f3446e72657ac7"), looks := false }, kinds := [], alts := [], laidByText := true, laidKinds := [.data, .data, .data, .data, .data, .pinned], laidTests := true, laidLooks := .later }
def TrapTakesUptoCardSaid : Prop := Claim7.holds Tryd.pinned (.plain (OpenSpec.upto trapTakesSpec)) trapTakesUptoCard

/-- THE SECOND FORM's CARD OF 'jobshelllaw34.TrapSettles'. -/
def trapSettlesUptoCard : Claim7 := { stood := { row := trapSettlesUptoRow, standIns := [], harness := (true, "13410e7c0a7ff461e7ec954d755ee179b5380e34ee50302592f3446e72657ac7"), looks := false }, kinds := [], alts := [], laidByText := true, laidKinds := [.data, .data, .data, .data, .data, .pinned], laidTests := true, laidLooks := .later }
def TrapSettlesUptoCardSaid : Prop := Claim7.holds Tryd.pinned (.plain (OpenSpec.upto trapSettlesSpec)) trapSettlesUptoCard

/-- THE SECOND FORM's CARD OF 'jobshelllaw34.TrapChanges'. -/
def trapChangesUptoCard : Claim7 := { stood := { row := trapChangesUptoRow, standIns := [], harness := (true, "13410e7c0a7ff461e7ec954d755ee179b5380e34ee50302592f3446e72657ac7"), looks := false }, kinds := [], alts := [], laidByText := true, laidKinds := [.data, .data, .data, .data, .data, .pinned], laidTests := true, laidLooks := .later }
def TrapChangesUptoCardSaid : Prop := Claim7.holds Tryd.pinned (.plain (OpenSpec.upto trapChangesSpec)) trapChangesUptoCard

/-- THE SECOND FORM's CARD OF 'jobshelllaw34.TrapStays'. -/
def trapStaysUptoCard : Claim7 := { stood := { row := trapStaysUptoRow, standIns := [], harness := (true, "13410e7c0a7ff461e7ec954d755ee179b5380e34ee50302592f3446e72657ac7"), looks := false }, kinds := [], alts := [], laidByText := true, laidKinds := [.data, .data, .data, .data, .data, .pinned], laidTests := true, laidLooks := .later }
def TrapStaysUptoCardSaid : Prop := Claim7.holds Tryd.pinned (.plain (OpenSpec.upto trapStaysSpec)) trapStaysUptoCard
end Rows
end Go.Proofs.YtfigidknocpdaaaDoor
