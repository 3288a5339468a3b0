/-
  No cell of these rows narrows 'for every input' (looked for: loops, veiled, ifaces, maps, wideKeys, modest, calm, conditions, laid).
  DERIVED. THE GIVEN ROWS OF THIS SEAT. 3 by the template 'for every input the law returns true; each argument reads behind the call as it read before'; 0 by the template 'total and deterministic' (their statements: YtlhijlmbfjlglaaTotals.lean).
  GIVEN WITH THE SEED: the statements are not yours to turn. If you find one false, say at which input.
  Laid BY PROGRAM, IN A SANDBOX (cutbox-rows.mjs): the forced cells as the released guide's own fill.sh prints them over the translation 2c76bcaaada02836… (all of the seat's roots in one cut). By AI agents, Wed Nov 11 2026. No macro, syntax, notation, axiom, sorry.
-/
import Derived.Test.YtlhijlmbfjlglaaChecked
import GoSem.Claim
import GoSem.ClaimJoined
import GoSem.ClaimMapViews
import Derived.JoinedTies
import Derived.KernelRfl
namespace Go.Proofs.Ytlhijlmbfjlglaa
/- THE CELL 'sum', in the pinned program and in every row, IS THE sha256 OF THE DUMP (.gsa) THAT YtlhijlmbfjlglaaProg.lean LOADS. Nothing in Lean hashes anything: it is a label: what it is worth is what the hold of that sum in a sandbox is worth. -/
noncomputable def Try.pinned : Pinned := { name := "ytlhijlmbfjlglaa", sum := "2c76bcaaada028363b932f0f97b0cdb3ffba31e2daee8f1156b092e4a8d68e16", checked := Try.checked }
namespace Rows
def none {H : Type} : Left H := { results := [], args := [] }

/-- 'jobshelllaw12.SimpleAssigns': WHATEVER THE INPUT: true; the input reads as it did. -/
def simpleAssignsSpec : ChangeSpec := { name := "simpleAssigns", fn := fun _ => fun
  | [d] => { results := [.lit (.bool true)], args := [d] }
  | _ => none }
def simpleAssignsRow : OpenClaim := { program := "ytlhijlmbfjlglaa", sum := "2c76bcaaada028363b932f0f97b0cdb3ffba31e2daee8f1156b092e4a8d68e16", func := "jobshell/jobshelllaw12.SimpleAssigns", spec := "simpleAssigns", inPlace := ["internal/bytealg.IndexByteString", "internal/abi.NoEscape", "internal/bytealg.IndexString"], unfollowed := true, recurses := true, named := ["internal/bytealg.MaxLen"], apart := false }
def SimpleAssignsSaid : Prop := simpleAssignsRow.holds Try.pinned (OpenSpec.ofChange simpleAssignsSpec)

/-- ITS FALSE NEIGHBOUR: 'it returns false'. Refute it at one input. -/
def simpleAssignsWrong : ChangeSpec := { name := "simpleAssigns", fn := fun _ => fun
  | [d] => { results := [.lit (.bool false)], args := [d] }
  | _ => none }
def SimpleAssignsWrongFalsely : Prop := simpleAssignsRow.holds Try.pinned (OpenSpec.ofChange simpleAssignsWrong)

/-- 'jobshelllaw12.SimpleParts': WHATEVER THE INPUT: true; the input reads as it did. -/
def simplePartsSpec : ChangeSpec := { name := "simpleParts", fn := fun _ => fun
  | [d1, d2] => { results := [.lit (.bool true)], args := [d1, d2] }
  | _ => none }
def simplePartsRow : OpenClaim := { program := "ytlhijlmbfjlglaa", sum := "2c76bcaaada028363b932f0f97b0cdb3ffba31e2daee8f1156b092e4a8d68e16", func := "jobshell/jobshelllaw12.SimpleParts", spec := "simpleParts", inPlace := ["internal/bytealg.IndexByteString", "internal/abi.NoEscape", "internal/bytealg.IndexString"], unfollowed := true, recurses := true, named := ["internal/bytealg.MaxLen"], apart := false }
def SimplePartsSaid : Prop := simplePartsRow.holds Try.pinned (OpenSpec.ofChange simplePartsSpec)

/-- ITS FALSE NEIGHBOUR: 'it returns false'. Refute it at one input. -/
def simplePartsWrong : ChangeSpec := { name := "simpleParts", fn := fun _ => fun
  | [d1, d2] => { results := [.lit (.bool false)], args := [d1, d2] }
  | _ => none }
def SimplePartsWrongFalsely : Prop := simplePartsRow.holds Try.pinned (OpenSpec.ofChange simplePartsWrong)

/-- 'jobshelllaw12.SimpleWords': WHATEVER THE INPUT: true; the input reads as it did. -/
def simpleWordsSpec : ChangeSpec := { name := "simpleWords", fn := fun _ => fun
  | [d] => { results := [.lit (.bool true)], args := [d] }
  | _ => none }
def simpleWordsRow : OpenClaim := { program := "ytlhijlmbfjlglaa", sum := "2c76bcaaada028363b932f0f97b0cdb3ffba31e2daee8f1156b092e4a8d68e16", func := "jobshell/jobshelllaw12.SimpleWords", spec := "simpleWords", inPlace := ["internal/bytealg.IndexByteString", "internal/abi.NoEscape", "internal/bytealg.IndexString"], unfollowed := true, recurses := true, named := ["internal/bytealg.MaxLen"], apart := false }
def SimpleWordsSaid : Prop := simpleWordsRow.holds Try.pinned (OpenSpec.ofChange simpleWordsSpec)

/-- ITS FALSE NEIGHBOUR: 'it returns false'. Refute it at one input. -/
def simpleWordsWrong : ChangeSpec := { name := "simpleWords", fn := fun _ => fun
  | [d] => { results := [.lit (.bool false)], args := [d] }
  | _ => none }
def SimpleWordsWrongFalsely : Prop := simpleWordsRow.holds Try.pinned (OpenSpec.ofChange simpleWordsWrong)

/- THE SECOND FORM. 'bulk': how many values and letters a reading holds, each counted each time it is reached (what is shared counts as often as it is met; a slice's spare places count too). A statement '..UptoSaid' is the law's where the arguments, and the package variables that the reading takes, are together of bulk at most 1048576: NARROWER than '..Said'. Prove '..Said' where nothing that the law and all that it calls make is longer than what came in: it says more and counts as full. Else prove '..UptoSaid'. A law counts once. -/
mutual
def uptoBulk {H : Type} : DataW H → Nat
  | .lit (.string bytes) => bytes.length + 1
  | .lit _ => 1
  | .nil => 1
  | .ptr d => uptoBulk d + 1
  | .slice elems spare => uptoBulkAll elems + uptoBulkAll spare + 1
  | .agg parts => uptoBulkAll parts + 1
  | .iface _ d => uptoBulk d + 1
  | .map entries => uptoBulkEntries entries + 1
  | .held _ => 1
def uptoBulkAll {H : Type} : List (DataW H) → Nat
  | [] => 0
  | d :: r => uptoBulk d + uptoBulkAll r
def uptoBulkEntries {H : Type} : List (Lit × DataW H) → Nat
  | [] => 0
  | x :: r => uptoBulkEntry x + uptoBulkEntries r
def uptoBulkEntry {H : Type} : Lit × DataW H → Nat
  | (.string bytes, d) => bytes.length + uptoBulk d + 1
  | (_, d) => uptoBulk d + 1
 end
def uptoSmall : (H : Type) → List (DataW H) → Bool := fun _ ds => decide (uptoBulkAll ds ≤ 1048576)
def OpenSpec.upto (s : _root_.Go.ChangeSpec) : _root_.Go.OpenSpec := { _root_.Go.OpenSpec.ofChange s with cond := some uptoSmall }

/-- 'jobshelllaw12.SimpleAssigns', WHERE WHAT IT READS IS OF BULK AT MOST 1048576: true; the input reads as it did. -/
def simpleAssignsUptoRow : OpenClaim := { program := "ytlhijlmbfjlglaa", sum := "2c76bcaaada028363b932f0f97b0cdb3ffba31e2daee8f1156b092e4a8d68e16", func := "jobshell/jobshelllaw12.SimpleAssigns", spec := "simpleAssigns", inPlace := ["internal/bytealg.IndexByteString", "internal/abi.NoEscape", "internal/bytealg.IndexString"], unfollowed := true, recurses := true, named := ["internal/bytealg.MaxLen"], apart := false, narrowed := true }
def SimpleAssignsUptoSaid : Prop := simpleAssignsUptoRow.holds Try.pinned (OpenSpec.upto simpleAssignsSpec)

/-- 'jobshelllaw12.SimpleParts', WHERE WHAT IT READS IS OF BULK AT MOST 1048576: true; the input reads as it did. -/
def simplePartsUptoRow : OpenClaim := { program := "ytlhijlmbfjlglaa", sum := "2c76bcaaada028363b932f0f97b0cdb3ffba31e2daee8f1156b092e4a8d68e16", func := "jobshell/jobshelllaw12.SimpleParts", spec := "simpleParts", inPlace := ["internal/bytealg.IndexByteString", "internal/abi.NoEscape", "internal/bytealg.IndexString"], unfollowed := true, recurses := true, named := ["internal/bytealg.MaxLen"], apart := false, narrowed := true }
def SimplePartsUptoSaid : Prop := simplePartsUptoRow.holds Try.pinned (OpenSpec.upto simplePartsSpec)

/-- 'jobshelllaw12.SimpleWords', WHERE WHAT IT READS IS OF BULK AT MOST 1048576: true; the input reads as it did. -/
def simpleWordsUptoRow : OpenClaim := { program := "ytlhijlmbfjlglaa", sum := "2c76bcaaada028363b932f0f97b0cdb3ffba31e2daee8f1156b092e4a8d68e16", func := "jobshell/jobshelllaw12.SimpleWords", spec := "simpleWords", inPlace := ["internal/bytealg.IndexByteString", "internal/abi.NoEscape", "internal/bytealg.IndexString"], unfollowed := true, recurses := true, named := ["internal/bytealg.MaxLen"], apart := false, narrowed := true }
def SimpleWordsUptoSaid : Prop := simpleWordsUptoRow.holds Try.pinned (OpenSpec.upto simpleWordsSpec)

end Rows
end Go.Proofs.Ytlhijlmbfjlglaa
