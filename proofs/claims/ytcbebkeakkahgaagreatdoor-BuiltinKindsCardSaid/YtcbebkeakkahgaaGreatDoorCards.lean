/-
  DERIVED. GIVEN WITH THE SEED: THE CARDS: each row of YtcbebkeakkahgaaGreatDoorRows.lean that lists a variable, with what it lists TIED to the program's text (the seventh form; the later family's looks); each row that meets fmt, with fmt's text TOLD by the authors' own Lean function (tested against real Go, not proved from fmt's source: count such statements apart). THE CARD IS WHAT COUNTS. Prove the row's statement (the work); the ties are given (YtcbebkeakkahgaaGreatDoorTie.lean); close each card by the builder's one call (the guide's Derived/Test/ToyasCard.lean, 'card_holds'). Laid BY PROGRAM, IN A SANDBOX (cutbox-door.mjs). By AI agents, Wed Nov 11 2026. No macro, syntax, notation, axiom, sorry.
-/
import Derived.Test.YtcbebkeakkahgaaGreatDoorRows
import GoSem.ClaimSeven
namespace Go.Proofs.YtcbebkeakkahgaaGreatDoor
namespace Rows

/-- THE TIED CARD OF 'jobshelllaw37.BuiltinKinds'. -/
def builtinKindsCard : Claim7 := { stood := { row := builtinKindsRow, standIns := [], harness := (true, "967f1f58b78860d6ad14ffd84ce5a10abfa666005539066b638adcb9eb1beee4"), looks := true }, kinds := [], alts := [], laidByText := true, laidKinds := [.data, .data, .data, .data, .sentinel, .sentinel, .data, .widerDeep, .pinned], laidTests := true, laidLooks := .later }
def BuiltinKindsCardSaid : Prop := Claim7.holds Tryz.pinned (.plain (OpenSpec.ofChange builtinKindsSpec)) builtinKindsCard

/-- THE SECOND FORM's CARD OF 'jobshelllaw37.BuiltinKinds'. -/
def builtinKindsUptoCard : Claim7 := { stood := { row := builtinKindsUptoRow, standIns := [], harness := (true, "967f1f58b78860d6ad14ffd84ce5a10abfa666005539066b638adcb9eb1beee4"), looks := true }, kinds := [], alts := [], laidByText := true, laidKinds := [.data, .data, .data, .data, .sentinel, .sentinel, .data, .widerDeep, .pinned], laidTests := true, laidLooks := .later }
def BuiltinKindsUptoCardSaid : Prop := Claim7.holds Tryz.pinned (.plain (OpenSpec.upto builtinKindsSpec)) builtinKindsUptoCard
end Rows
end Go.Proofs.YtcbebkeakkahgaaGreatDoor
