/-
  NARROWER THAN 'FOR EVERY INPUT', by the rows' own cells (each row's printed sentence says how): AliasValids: laid · AliasSets: laid · AliasUnsets: laid · AliasExpands: laid · AliasNone: laid · AliasOne: laid · AliasList: laid.
  DERIVED. THE GIVEN ROWS OF THIS SEAT. 7 by the template 'for every input the law returns true; each argument reads behind the call as it read before'; 0 by the template 'total and deterministic' (their statements: YtelhobphphkidaaGreatDoorTotals.lean).
  GIVEN WITH THE SEED: the statements are not yours to turn. If you find one false, say at which input.
  Laid BY PROGRAM, IN A SANDBOX (cutbox-rows.mjs): the forced cells as the released guide's own fill.sh prints them over the translation fc74f5638038520f… (all of the seat's roots in one cut). By AI agents, Wed Nov 11 2026. No macro, syntax, notation, axiom, sorry.
-/
import Derived.Test.YtelhobphphkidaaGreatDoorChecked
import GoSem.PinnedTables
import GoSem.Claim
import GoSem.ClaimJoined
import GoSem.ClaimMapViews
import Derived.JoinedTies
import Derived.KernelRfl
namespace Go.Proofs.YtelhobphphkidaaGreatDoor
/- THE CELL 'sum', in the pinned program and in every row, IS THE sha256 OF THE DUMP (.gsa) THAT YtelhobphphkidaaGreatDoorProg.lean LOADS. Nothing in Lean hashes anything: it is a label: what it is worth is what the hold of that sum in a sandbox is worth. -/
noncomputable def Tryz.pinned : Pinned := { name := "ytelhobphphkidaagreatdoor", sum := "fc74f5638038520f35246d27a9defbf99444710f9d5f56629213705634a5b7c5", checked := Tryz.checked }
namespace Rows
def none {H : Type} : Left H := { results := [], args := [] }

/- WHAT THE LISTED PACKAGE-LEVEL VARIABLES READ AS WHEN THE CALL BEGINS. Each datum BY PROGRAM (the guide's laid-datum.mjs) off the statement by which the dump's own 'gosem.cut.vars' lays the variable. In a bare row this is a premise. The card (YtelhobphphkidaaGreatDoorCards.lean) ties it to the program's text. -/
def laid_unicode_utf8_acceptRanges {H : Type} : DataW H := .agg [.agg [.lit (.int .u8 128), .lit (.int .u8 191)], .agg [.lit (.int .u8 160), .lit (.int .u8 191)], .agg [.lit (.int .u8 128), .lit (.int .u8 159)], .agg [.lit (.int .u8 144), .lit (.int .u8 191)], .agg [.lit (.int .u8 128), .lit (.int .u8 143)], .agg [.lit (.int .u8 0), .lit (.int .u8 0)], .agg [.lit (.int .u8 0), .lit (.int .u8 0)], .agg [.lit (.int .u8 0), .lit (.int .u8 0)], .agg [.lit (.int .u8 0), .lit (.int .u8 0)], .agg [.lit (.int .u8 0), .lit (.int .u8 0)], .agg [.lit (.int .u8 0), .lit (.int .u8 0)], .agg [.lit (.int .u8 0), .lit (.int .u8 0)], .agg [.lit (.int .u8 0), .lit (.int .u8 0)], .agg [.lit (.int .u8 0), .lit (.int .u8 0)], .agg [.lit (.int .u8 0), .lit (.int .u8 0)], .agg [.lit (.int .u8 0), .lit (.int .u8 0)]]
/-- One of Go's own tables, pinned by name: the form's constant. -/
def laid_unicode_utf8_first : DataW Unit := Go.Pinned.utf8First

/-- 'jobshelllaw09.AliasValids': WHATEVER THE INPUT: true; the input reads as it did. -/
def aliasValidsSpec : ChangeSpec := { name := "aliasValids", fn := fun _ => fun
  | [d] => { results := [.lit (.bool true)], args := [d] }
  | _ => none }
def aliasValidsRow : OpenClaim := { program := "ytelhobphphkidaagreatdoor", sum := "fc74f5638038520f35246d27a9defbf99444710f9d5f56629213705634a5b7c5", func := "jobshell/jobshelllaw09.AliasValids", spec := "aliasValids", inPlace := ["internal/bytealg.IndexByteString", "internal/bytealg.IndexString", "internal/bytealg.abigen_runtime_cmpstring", "slices.overlaps[jobshell/api.Alias]", "internal/abi.NoEscape"], unfollowed := true, recurses := true, named := ["internal/bytealg.MaxLen", "unicode/utf8.first", "unicode/utf8.acceptRanges"], apart := false, laid := [("unicode/utf8.acceptRanges", laid_unicode_utf8_acceptRanges), ("unicode/utf8.first", laid_unicode_utf8_first)] }
def AliasValidsSaid : Prop := aliasValidsRow.holds Tryz.pinned (OpenSpec.ofChange aliasValidsSpec)

/-- ITS FALSE NEIGHBOUR: 'it returns false'. Refute it at one input. -/
def aliasValidsWrong : ChangeSpec := { name := "aliasValids", fn := fun _ => fun
  | [d] => { results := [.lit (.bool false)], args := [d] }
  | _ => none }
def AliasValidsWrongFalsely : Prop := aliasValidsRow.holds Tryz.pinned (OpenSpec.ofChange aliasValidsWrong)

/-- 'jobshelllaw09.AliasSets': WHATEVER THE INPUT: true; the input reads as it did. -/
def aliasSetsSpec : ChangeSpec := { name := "aliasSets", fn := fun _ => fun
  | [d1, d2, d3] => { results := [.lit (.bool true)], args := [d1, d2, d3] }
  | _ => none }
def aliasSetsRow : OpenClaim := { program := "ytelhobphphkidaagreatdoor", sum := "fc74f5638038520f35246d27a9defbf99444710f9d5f56629213705634a5b7c5", func := "jobshell/jobshelllaw09.AliasSets", spec := "aliasSets", inPlace := ["internal/bytealg.IndexByteString", "internal/bytealg.IndexString", "internal/bytealg.abigen_runtime_cmpstring", "slices.overlaps[jobshell/api.Alias]", "internal/abi.NoEscape"], unfollowed := true, recurses := true, named := ["internal/bytealg.MaxLen", "unicode/utf8.first", "unicode/utf8.acceptRanges"], apart := false, laid := [("unicode/utf8.acceptRanges", laid_unicode_utf8_acceptRanges), ("unicode/utf8.first", laid_unicode_utf8_first)] }
def AliasSetsSaid : Prop := aliasSetsRow.holds Tryz.pinned (OpenSpec.ofChange aliasSetsSpec)

/-- ITS FALSE NEIGHBOUR: 'it returns false'. Refute it at one input. -/
def aliasSetsWrong : ChangeSpec := { name := "aliasSets", fn := fun _ => fun
  | [d1, d2, d3] => { results := [.lit (.bool false)], args := [d1, d2, d3] }
  | _ => none }
def AliasSetsWrongFalsely : Prop := aliasSetsRow.holds Tryz.pinned (OpenSpec.ofChange aliasSetsWrong)

/-- 'jobshelllaw09.AliasUnsets': WHATEVER THE INPUT: true; the input reads as it did. -/
def aliasUnsetsSpec : ChangeSpec := { name := "aliasUnsets", fn := fun _ => fun
  | [d1, d2] => { results := [.lit (.bool true)], args := [d1, d2] }
  | _ => none }
def aliasUnsetsRow : OpenClaim := { program := "ytelhobphphkidaagreatdoor", sum := "fc74f5638038520f35246d27a9defbf99444710f9d5f56629213705634a5b7c5", func := "jobshell/jobshelllaw09.AliasUnsets", spec := "aliasUnsets", inPlace := ["internal/bytealg.IndexByteString", "internal/bytealg.IndexString", "internal/bytealg.abigen_runtime_cmpstring", "slices.overlaps[jobshell/api.Alias]", "internal/abi.NoEscape"], unfollowed := true, recurses := true, named := ["internal/bytealg.MaxLen", "unicode/utf8.first", "unicode/utf8.acceptRanges"], apart := false, laid := [("unicode/utf8.acceptRanges", laid_unicode_utf8_acceptRanges), ("unicode/utf8.first", laid_unicode_utf8_first)] }
def AliasUnsetsSaid : Prop := aliasUnsetsRow.holds Tryz.pinned (OpenSpec.ofChange aliasUnsetsSpec)

/-- ITS FALSE NEIGHBOUR: 'it returns false'. Refute it at one input. -/
def aliasUnsetsWrong : ChangeSpec := { name := "aliasUnsets", fn := fun _ => fun
  | [d1, d2] => { results := [.lit (.bool false)], args := [d1, d2] }
  | _ => none }
def AliasUnsetsWrongFalsely : Prop := aliasUnsetsRow.holds Tryz.pinned (OpenSpec.ofChange aliasUnsetsWrong)

/-- 'jobshelllaw09.AliasExpands': WHATEVER THE INPUT: true; the input reads as it did. -/
def aliasExpandsSpec : ChangeSpec := { name := "aliasExpands", fn := fun _ => fun
  | [d1, d2] => { results := [.lit (.bool true)], args := [d1, d2] }
  | _ => none }
def aliasExpandsRow : OpenClaim := { program := "ytelhobphphkidaagreatdoor", sum := "fc74f5638038520f35246d27a9defbf99444710f9d5f56629213705634a5b7c5", func := "jobshell/jobshelllaw09.AliasExpands", spec := "aliasExpands", inPlace := ["internal/bytealg.IndexByteString", "internal/bytealg.IndexString", "internal/bytealg.abigen_runtime_cmpstring", "slices.overlaps[jobshell/api.Alias]", "internal/abi.NoEscape"], unfollowed := true, recurses := true, named := ["internal/bytealg.MaxLen", "unicode/utf8.first", "unicode/utf8.acceptRanges"], apart := false, laid := [("unicode/utf8.acceptRanges", laid_unicode_utf8_acceptRanges), ("unicode/utf8.first", laid_unicode_utf8_first)] }
def AliasExpandsSaid : Prop := aliasExpandsRow.holds Tryz.pinned (OpenSpec.ofChange aliasExpandsSpec)

/-- ITS FALSE NEIGHBOUR: 'it returns false'. Refute it at one input. -/
def aliasExpandsWrong : ChangeSpec := { name := "aliasExpands", fn := fun _ => fun
  | [d1, d2] => { results := [.lit (.bool false)], args := [d1, d2] }
  | _ => none }
def AliasExpandsWrongFalsely : Prop := aliasExpandsRow.holds Tryz.pinned (OpenSpec.ofChange aliasExpandsWrong)

/-- 'jobshelllaw09.AliasNone': WHATEVER THE INPUT: true; the input reads as it did. -/
def aliasNoneSpec : ChangeSpec := { name := "aliasNone", fn := fun _ => fun
  | [d] => { results := [.lit (.bool true)], args := [d] }
  | _ => none }
def aliasNoneRow : OpenClaim := { program := "ytelhobphphkidaagreatdoor", sum := "fc74f5638038520f35246d27a9defbf99444710f9d5f56629213705634a5b7c5", func := "jobshell/jobshelllaw09.AliasNone", spec := "aliasNone", inPlace := ["internal/bytealg.IndexByteString", "internal/bytealg.IndexString", "internal/bytealg.abigen_runtime_cmpstring", "slices.overlaps[jobshell/api.Alias]", "internal/abi.NoEscape"], unfollowed := true, recurses := true, named := ["internal/bytealg.MaxLen", "unicode/utf8.first", "unicode/utf8.acceptRanges"], apart := false, laid := [("unicode/utf8.acceptRanges", laid_unicode_utf8_acceptRanges), ("unicode/utf8.first", laid_unicode_utf8_first)] }
def AliasNoneSaid : Prop := aliasNoneRow.holds Tryz.pinned (OpenSpec.ofChange aliasNoneSpec)

/-- ITS FALSE NEIGHBOUR: 'it returns false'. Refute it at one input. -/
def aliasNoneWrong : ChangeSpec := { name := "aliasNone", fn := fun _ => fun
  | [d] => { results := [.lit (.bool false)], args := [d] }
  | _ => none }
def AliasNoneWrongFalsely : Prop := aliasNoneRow.holds Tryz.pinned (OpenSpec.ofChange aliasNoneWrong)

/-- 'jobshelllaw09.AliasOne': WHATEVER THE INPUT: true; the input reads as it did. -/
def aliasOneSpec : ChangeSpec := { name := "aliasOne", fn := fun _ => fun
  | [d1, d2] => { results := [.lit (.bool true)], args := [d1, d2] }
  | _ => none }
def aliasOneRow : OpenClaim := { program := "ytelhobphphkidaagreatdoor", sum := "fc74f5638038520f35246d27a9defbf99444710f9d5f56629213705634a5b7c5", func := "jobshell/jobshelllaw09.AliasOne", spec := "aliasOne", inPlace := ["internal/bytealg.IndexByteString", "internal/bytealg.IndexString", "internal/bytealg.abigen_runtime_cmpstring", "slices.overlaps[jobshell/api.Alias]", "internal/abi.NoEscape"], unfollowed := true, recurses := true, named := ["internal/bytealg.MaxLen", "unicode/utf8.first", "unicode/utf8.acceptRanges"], apart := false, laid := [("unicode/utf8.acceptRanges", laid_unicode_utf8_acceptRanges), ("unicode/utf8.first", laid_unicode_utf8_first)] }
def AliasOneSaid : Prop := aliasOneRow.holds Tryz.pinned (OpenSpec.ofChange aliasOneSpec)

/-- ITS FALSE NEIGHBOUR: 'it returns false'. Refute it at one input. -/
def aliasOneWrong : ChangeSpec := { name := "aliasOne", fn := fun _ => fun
  | [d1, d2] => { results := [.lit (.bool false)], args := [d1, d2] }
  | _ => none }
def AliasOneWrongFalsely : Prop := aliasOneRow.holds Tryz.pinned (OpenSpec.ofChange aliasOneWrong)

/-- 'jobshelllaw09.AliasList': WHATEVER THE INPUT: true; the input reads as it did. -/
def aliasListSpec : ChangeSpec := { name := "aliasList", fn := fun _ => fun
  | [d1, d2, d3] => { results := [.lit (.bool true)], args := [d1, d2, d3] }
  | _ => none }
def aliasListRow : OpenClaim := { program := "ytelhobphphkidaagreatdoor", sum := "fc74f5638038520f35246d27a9defbf99444710f9d5f56629213705634a5b7c5", func := "jobshell/jobshelllaw09.AliasList", spec := "aliasList", inPlace := ["internal/bytealg.IndexByteString", "internal/bytealg.IndexString", "internal/bytealg.abigen_runtime_cmpstring", "slices.overlaps[jobshell/api.Alias]", "internal/abi.NoEscape"], unfollowed := true, recurses := true, named := ["internal/bytealg.MaxLen", "unicode/utf8.first", "unicode/utf8.acceptRanges"], apart := false, laid := [("unicode/utf8.acceptRanges", laid_unicode_utf8_acceptRanges), ("unicode/utf8.first", laid_unicode_utf8_first)] }
def AliasListSaid : Prop := aliasListRow.holds Tryz.pinned (OpenSpec.ofChange aliasListSpec)

/-- ITS FALSE NEIGHBOUR: 'it returns false'. Refute it at one input. -/
def aliasListWrong : ChangeSpec := { name := "aliasList", fn := fun _ => fun
  | [d1, d2, d3] => { results := [.lit (.bool false)], args := [d1, d2, d3] }
  | _ => none }
def AliasListWrongFalsely : Prop := aliasListRow.holds Tryz.pinned (OpenSpec.ofChange aliasListWrong)

/- THE SECOND FORM. 'bulk': how many values and letters a reading holds, each counted each time it is reached (what is shared counts as often as it is met; a slice's spare places count too). A statement '..UptoSaid' is the law's where the arguments, and the package variables that the reading takes, are together of bulk at most 1048576: NARROWER than '..Said'. Prove '..Said' where nothing that the law and all that it calls make is longer than what came in: it says more and counts as full. Else prove '..UptoSaid'. A law counts once. -/
mutual
def uptoBulk {H : Type} : DataW H → Nat
  | .lit (.string bytes) => bytes.length + 1
  | .lit _ => 1
  | .nil => 1
  | .ptr d => uptoBulk d + 1
  | .slice elems spare => uptoBulkAll elems + uptoBulkAll spare + 1
  | .agg parts => uptoBulkAll parts + 1
  | .iface _ d => uptoBulk d + 1
  | .map entries => uptoBulkEntries entries + 1
  | .held _ => 1
def uptoBulkAll {H : Type} : List (DataW H) → Nat
  | [] => 0
  | d :: r => uptoBulk d + uptoBulkAll r
def uptoBulkEntries {H : Type} : List (Lit × DataW H) → Nat
  | [] => 0
  | x :: r => uptoBulkEntry x + uptoBulkEntries r
def uptoBulkEntry {H : Type} : Lit × DataW H → Nat
  | (.string bytes, d) => bytes.length + uptoBulk d + 1
  | (_, d) => uptoBulk d + 1
 end
def uptoSmall : (H : Type) → List (DataW H) → Bool := fun _ ds => decide (uptoBulkAll ds ≤ 1048576)
def OpenSpec.upto (s : _root_.Go.ChangeSpec) : _root_.Go.OpenSpec := { _root_.Go.OpenSpec.ofChange s with cond := some uptoSmall }

/-- 'jobshelllaw09.AliasValids', WHERE WHAT IT READS IS OF BULK AT MOST 1048576: true; the input reads as it did. -/
def aliasValidsUptoRow : OpenClaim := { program := "ytelhobphphkidaagreatdoor", sum := "fc74f5638038520f35246d27a9defbf99444710f9d5f56629213705634a5b7c5", func := "jobshell/jobshelllaw09.AliasValids", spec := "aliasValids", inPlace := ["internal/bytealg.IndexByteString", "internal/bytealg.IndexString", "internal/bytealg.abigen_runtime_cmpstring", "slices.overlaps[jobshell/api.Alias]", "internal/abi.NoEscape"], unfollowed := true, recurses := true, named := ["internal/bytealg.MaxLen", "unicode/utf8.first", "unicode/utf8.acceptRanges"], apart := false, laid := [("unicode/utf8.acceptRanges", laid_unicode_utf8_acceptRanges), ("unicode/utf8.first", laid_unicode_utf8_first)], narrowed := true }
def AliasValidsUptoSaid : Prop := aliasValidsUptoRow.holds Tryz.pinned (OpenSpec.upto aliasValidsSpec)

/-- 'jobshelllaw09.AliasSets', WHERE WHAT IT READS IS OF BULK AT MOST 1048576: true; the input reads as it did. -/
def aliasSetsUptoRow : OpenClaim := { program := "ytelhobphphkidaagreatdoor", sum := "fc74f5638038520f35246d27a9defbf99444710f9d5f56629213705634a5b7c5", func := "jobshell/jobshelllaw09.AliasSets", spec := "aliasSets", inPlace := ["internal/bytealg.IndexByteString", "internal/bytealg.IndexString", "internal/bytealg.abigen_runtime_cmpstring", "slices.overlaps[jobshell/api.Alias]", "internal/abi.NoEscape"], unfollowed := true, recurses := true, named := ["internal/bytealg.MaxLen", "unicode/utf8.first", "unicode/utf8.acceptRanges"], apart := false, laid := [("unicode/utf8.acceptRanges", laid_unicode_utf8_acceptRanges), ("unicode/utf8.first", laid_unicode_utf8_first)], narrowed := true }
def AliasSetsUptoSaid : Prop := aliasSetsUptoRow.holds Tryz.pinned (OpenSpec.upto aliasSetsSpec)

/-- 'jobshelllaw09.AliasUnsets', WHERE WHAT IT READS IS OF BULK AT MOST 1048576: true; the input reads as it did. -/
def aliasUnsetsUptoRow : OpenClaim := { program := "ytelhobphphkidaagreatdoor", sum := "fc74f5638038520f35246d27a9defbf99444710f9d5f56629213705634a5b7c5", func := "jobshell/jobshelllaw09.AliasUnsets", spec := "aliasUnsets", inPlace := ["internal/bytealg.IndexByteString", "internal/bytealg.IndexString", "internal/bytealg.abigen_runtime_cmpstring", "slices.overlaps[jobshell/api.Alias]", "internal/abi.NoEscape"], unfollowed := true, recurses := true, named := ["internal/bytealg.MaxLen", "unicode/utf8.first", "unicode/utf8.acceptRanges"], apart := false, laid := [("unicode/utf8.acceptRanges", laid_unicode_utf8_acceptRanges), ("unicode/utf8.first", laid_unicode_utf8_first)], narrowed := true }
def AliasUnsetsUptoSaid : Prop := aliasUnsetsUptoRow.holds Tryz.pinned (OpenSpec.upto aliasUnsetsSpec)

/-- 'jobshelllaw09.AliasExpands', WHERE WHAT IT READS IS OF BULK AT MOST 1048576: true; the input reads as it did. -/
def aliasExpandsUptoRow : OpenClaim := { program := "ytelhobphphkidaagreatdoor", sum := "fc74f5638038520f35246d27a9defbf99444710f9d5f56629213705634a5b7c5", func := "jobshell/jobshelllaw09.AliasExpands", spec := "aliasExpands", inPlace := ["internal/bytealg.IndexByteString", "internal/bytealg.IndexString", "internal/bytealg.abigen_runtime_cmpstring", "slices.overlaps[jobshell/api.Alias]", "internal/abi.NoEscape"], unfollowed := true, recurses := true, named := ["internal/bytealg.MaxLen", "unicode/utf8.first", "unicode/utf8.acceptRanges"], apart := false, laid := [("unicode/utf8.acceptRanges", laid_unicode_utf8_acceptRanges), ("unicode/utf8.first", laid_unicode_utf8_first)], narrowed := true }
def AliasExpandsUptoSaid : Prop := aliasExpandsUptoRow.holds Tryz.pinned (OpenSpec.upto aliasExpandsSpec)

/-- 'jobshelllaw09.AliasNone', WHERE WHAT IT READS IS OF BULK AT MOST 1048576: true; the input reads as it did. -/
def aliasNoneUptoRow : OpenClaim := { program := "ytelhobphphkidaagreatdoor", sum := "fc74f5638038520f35246d27a9defbf99444710f9d5f56629213705634a5b7c5", func := "jobshell/jobshelllaw09.AliasNone", spec := "aliasNone", inPlace := ["internal/bytealg.IndexByteString", "internal/bytealg.IndexString", "internal/bytealg.abigen_runtime_cmpstring", "slices.overlaps[jobshell/api.Alias]", "internal/abi.NoEscape"], unfollowed := true, recurses := true, named := ["internal/bytealg.MaxLen", "unicode/utf8.first", "unicode/utf8.acceptRanges"], apart := false, laid := [("unicode/utf8.acceptRanges", laid_unicode_utf8_acceptRanges), ("unicode/utf8.first", laid_unicode_utf8_first)], narrowed := true }
def AliasNoneUptoSaid : Prop := aliasNoneUptoRow.holds Tryz.pinned (OpenSpec.upto aliasNoneSpec)

/-- 'jobshelllaw09.AliasOne', WHERE WHAT IT READS IS OF BULK AT MOST 1048576: true; the input reads as it did. -/
def aliasOneUptoRow : OpenClaim := { program := "ytelhobphphkidaagreatdoor", sum := "fc74f5638038520f35246d27a9defbf99444710f9d5f56629213705634a5b7c5", func := "jobshell/jobshelllaw09.AliasOne", spec := "aliasOne", inPlace := ["internal/bytealg.IndexByteString", "internal/bytealg.IndexString", "internal/bytealg.abigen_runtime_cmpstring", "slices.overlaps[jobshell/api.Alias]", "internal/abi.NoEscape"], unfollowed := true, recurses := true, named := ["internal/bytealg.MaxLen", "unicode/utf8.first", "unicode/utf8.acceptRanges"], apart := false, laid := [("unicode/utf8.acceptRanges", laid_unicode_utf8_acceptRanges), ("unicode/utf8.first", laid_unicode_utf8_first)], narrowed := true }
def AliasOneUptoSaid : Prop := aliasOneUptoRow.holds Tryz.pinned (OpenSpec.upto aliasOneSpec)

/-- 'jobshelllaw09.AliasList', WHERE WHAT IT READS IS OF BULK AT MOST 1048576: true; the input reads as it did. -/
def aliasListUptoRow : OpenClaim := { program := "ytelhobphphkidaagreatdoor", sum := "fc74f5638038520f35246d27a9defbf99444710f9d5f56629213705634a5b7c5", func := "jobshell/jobshelllaw09.AliasList", spec := "aliasList", inPlace := ["internal/bytealg.IndexByteString", "internal/bytealg.IndexString", "internal/bytealg.abigen_runtime_cmpstring", "slices.overlaps[jobshell/api.Alias]", "internal/abi.NoEscape"], unfollowed := true, recurses := true, named := ["internal/bytealg.MaxLen", "unicode/utf8.first", "unicode/utf8.acceptRanges"], apart := false, laid := [("unicode/utf8.acceptRanges", laid_unicode_utf8_acceptRanges), ("unicode/utf8.first", laid_unicode_utf8_first)], narrowed := true }
def AliasListUptoSaid : Prop := aliasListUptoRow.holds Tryz.pinned (OpenSpec.upto aliasListSpec)

end Rows
end Go.Proofs.YtelhobphphkidaaGreatDoor
