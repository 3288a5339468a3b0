/-
  NARROWER THAN 'FOR EVERY INPUT', by the rows' own cells (each row's printed sentence says how): TrapSignals: laid · TrapNexts: laid · TrapRequests: laid · TrapTakes: laid · TrapSettles: laid · TrapChanges: laid · TrapStays: laid.
  DERIVED. THE GIVEN ROWS OF THIS SEAT. 7 by the template 'for every input the law returns true; each argument reads behind the call as it read before'; 0 by the template 'total and deterministic' (their statements: YtfigidknocpdaaaDoorTotals.lean).
  GIVEN WITH THE SEED: the statements are not yours to turn. If you find one false, say at which input.
  Laid BY PROGRAM, IN A SANDBOX (cutbox-rows.mjs): the forced cells as the released guide's own fill.sh prints them over the translation 57b6abaa87ee357f… (all of the seat's roots in one cut). By AI agents, Wed Nov 11 2026. No macro, syntax, notation, axiom, sorry.
-/
import Derived.Test.YtfigidknocpdaaaDoorChecked
import GoSem.PinnedTables
import GoSem.Claim
import GoSem.ClaimJoined
import GoSem.ClaimMapViews
import Derived.JoinedTies
import Derived.KernelRfl
namespace Go.Proofs.YtfigidknocpdaaaDoor
/- THE CELL 'sum', in the pinned program and in every row, IS THE sha256 OF THE DUMP (.gsa) THAT YtfigidknocpdaaaDoorProg.lean LOADS. Nothing in Lean hashes anything: it is a label: what it is worth is what the hold of that sum in a sandbox is worth. -/
noncomputable def Tryd.pinned : Pinned := { name := "ytfigidknocpdaaadoor", sum := "57b6abaa87ee357fb12717a0399a49520517e33535b8c0782636c02cdf374ce9", checked := Tryd.checked }
namespace Rows
def none {H : Type} : Left H := { results := [], args := [] }

/- WHAT THE LISTED PACKAGE-LEVEL VARIABLES READ AS WHEN THE CALL BEGINS. Each datum BY PROGRAM (the guide's laid-datum.mjs) off the statement by which the dump's own 'gosem.cut.vars' lays the variable. In a bare row this is a premise. The card (YtfigidknocpdaaaDoorCards.lean) ties it to the program's text. -/
def laid_math_bits_deBruijn32tab {H : Type} : DataW H := .agg [.lit (.int .u8 0), .lit (.int .u8 1), .lit (.int .u8 28), .lit (.int .u8 2), .lit (.int .u8 29), .lit (.int .u8 14), .lit (.int .u8 24), .lit (.int .u8 3), .lit (.int .u8 30), .lit (.int .u8 22), .lit (.int .u8 20), .lit (.int .u8 15), .lit (.int .u8 25), .lit (.int .u8 17), .lit (.int .u8 4), .lit (.int .u8 8), .lit (.int .u8 31), .lit (.int .u8 27), .lit (.int .u8 13), .lit (.int .u8 23), .lit (.int .u8 21), .lit (.int .u8 19), .lit (.int .u8 16), .lit (.int .u8 7), .lit (.int .u8 26), .lit (.int .u8 12), .lit (.int .u8 18), .lit (.int .u8 6), .lit (.int .u8 11), .lit (.int .u8 5), .lit (.int .u8 10), .lit (.int .u8 9)]
def laid_math_bits_deBruijn64tab {H : Type} : DataW H := .agg [.lit (.int .u8 0), .lit (.int .u8 1), .lit (.int .u8 56), .lit (.int .u8 2), .lit (.int .u8 57), .lit (.int .u8 49), .lit (.int .u8 28), .lit (.int .u8 3), .lit (.int .u8 61), .lit (.int .u8 58), .lit (.int .u8 42), .lit (.int .u8 50), .lit (.int .u8 38), .lit (.int .u8 29), .lit (.int .u8 17), .lit (.int .u8 4), .lit (.int .u8 62), .lit (.int .u8 47), .lit (.int .u8 59), .lit (.int .u8 36), .lit (.int .u8 45), .lit (.int .u8 43), .lit (.int .u8 51), .lit (.int .u8 22), .lit (.int .u8 53), .lit (.int .u8 39), .lit (.int .u8 33), .lit (.int .u8 30), .lit (.int .u8 24), .lit (.int .u8 18), .lit (.int .u8 12), .lit (.int .u8 5), .lit (.int .u8 63), .lit (.int .u8 55), .lit (.int .u8 48), .lit (.int .u8 27), .lit (.int .u8 60), .lit (.int .u8 41), .lit (.int .u8 37), .lit (.int .u8 16), .lit (.int .u8 46), .lit (.int .u8 35), .lit (.int .u8 44), .lit (.int .u8 21), .lit (.int .u8 52), .lit (.int .u8 32), .lit (.int .u8 23), .lit (.int .u8 11), .lit (.int .u8 54), .lit (.int .u8 26), .lit (.int .u8 40), .lit (.int .u8 15), .lit (.int .u8 34), .lit (.int .u8 20), .lit (.int .u8 31), .lit (.int .u8 10), .lit (.int .u8 25), .lit (.int .u8 14), .lit (.int .u8 19), .lit (.int .u8 9), .lit (.int .u8 13), .lit (.int .u8 8), .lit (.int .u8 7), .lit (.int .u8 6)]
def laid_internal_strconv_uint64pow10 {H : Type} : DataW H := .agg [.lit (.int .u64 1), .lit (.int .u64 10), .lit (.int .u64 100), .lit (.int .u64 1000), .lit (.int .u64 10000), .lit (.int .u64 100000), .lit (.int .u64 1000000), .lit (.int .u64 10000000), .lit (.int .u64 100000000), .lit (.int .u64 1000000000), .lit (.int .u64 10000000000), .lit (.int .u64 100000000000), .lit (.int .u64 1000000000000), .lit (.int .u64 10000000000000), .lit (.int .u64 100000000000000), .lit (.int .u64 1000000000000000), .lit (.int .u64 10000000000000000), .lit (.int .u64 100000000000000000), .lit (.int .u64 1000000000000000000), .lit (.int .u64 10000000000000000000)]
def laid_unicode_utf8_acceptRanges {H : Type} : DataW H := .agg [.agg [.lit (.int .u8 128), .lit (.int .u8 191)], .agg [.lit (.int .u8 160), .lit (.int .u8 191)], .agg [.lit (.int .u8 128), .lit (.int .u8 159)], .agg [.lit (.int .u8 144), .lit (.int .u8 191)], .agg [.lit (.int .u8 128), .lit (.int .u8 143)], .agg [.lit (.int .u8 0), .lit (.int .u8 0)], .agg [.lit (.int .u8 0), .lit (.int .u8 0)], .agg [.lit (.int .u8 0), .lit (.int .u8 0)], .agg [.lit (.int .u8 0), .lit (.int .u8 0)], .agg [.lit (.int .u8 0), .lit (.int .u8 0)], .agg [.lit (.int .u8 0), .lit (.int .u8 0)], .agg [.lit (.int .u8 0), .lit (.int .u8 0)], .agg [.lit (.int .u8 0), .lit (.int .u8 0)], .agg [.lit (.int .u8 0), .lit (.int .u8 0)], .agg [.lit (.int .u8 0), .lit (.int .u8 0)], .agg [.lit (.int .u8 0), .lit (.int .u8 0)]]
def laid_jobshell_signal_names {H : Type} : DataW H := .agg [.lit (.string []), .lit (.string [72, 85, 80]), .lit (.string [73, 78, 84]), .lit (.string [81, 85, 73, 84]), .lit (.string [84, 84, 73, 78]), .lit (.string [84, 84, 79, 85]), .lit (.string []), .lit (.string []), .lit (.string []), .lit (.string [75, 73, 76, 76]), .lit (.string [85, 83, 82, 49]), .lit (.string []), .lit (.string [85, 83, 82, 50]), .lit (.string [80, 73, 80, 69]), .lit (.string [65, 76, 82, 77]), .lit (.string [84, 69, 82, 77]), .lit (.string []), .lit (.string [67, 72, 76, 68]), .lit (.string [67, 79, 78, 84]), .lit (.string [83, 84, 79, 80]), .lit (.string [84, 83, 84, 80])]
/-- One of Go's own tables, pinned by name: the form's constant. -/
def laid_unicode_utf8_first : DataW Unit := Go.Pinned.utf8First

/-- 'jobshelllaw34.TrapSignals': WHATEVER THE INPUT: true; the input reads as it did. -/
def trapSignalsSpec : ChangeSpec := { name := "trapSignals", fn := fun _ => fun
  | [d] => { results := [.lit (.bool true)], args := [d] }
  | _ => none }
def trapSignalsRow : OpenClaim := { program := "ytfigidknocpdaaadoor", sum := "57b6abaa87ee357fb12717a0399a49520517e33535b8c0782636c02cdf374ce9", func := "jobshell/jobshelllaw34.TrapSignals", spec := "trapSignals", inPlace := ["slices.overlaps[jobshell/api.Trap]", "internal/bytealg.IndexByteString", "internal/bytealg.IndexString", "internal/bytealg.CountString", "internal/abi.NoEscape", "internal/bytealg.MakeNoZero"], named := ["jobshell/signal.names", "internal/strconv.uint64pow10", "math/bits.deBruijn32tab", "math/bits.deBruijn64tab", "internal/bytealg.MaxLen", "unicode/utf8.first", "unicode/utf8.acceptRanges"], apart := false, laid := [("math/bits.deBruijn32tab", laid_math_bits_deBruijn32tab), ("math/bits.deBruijn64tab", laid_math_bits_deBruijn64tab), ("internal/strconv.uint64pow10", laid_internal_strconv_uint64pow10), ("unicode/utf8.acceptRanges", laid_unicode_utf8_acceptRanges), ("jobshell/signal.names", laid_jobshell_signal_names), ("unicode/utf8.first", laid_unicode_utf8_first)] }
def TrapSignalsSaid : Prop := trapSignalsRow.holds Tryd.pinned (OpenSpec.ofChange trapSignalsSpec)

/-- ITS FALSE NEIGHBOUR: 'it returns false'. Refute it at one input. -/
def trapSignalsWrong : ChangeSpec := { name := "trapSignals", fn := fun _ => fun
  | [d] => { results := [.lit (.bool false)], args := [d] }
  | _ => none }
def TrapSignalsWrongFalsely : Prop := trapSignalsRow.holds Tryd.pinned (OpenSpec.ofChange trapSignalsWrong)

/-- 'jobshelllaw34.TrapNexts': WHATEVER THE INPUT: true; the input reads as it did. -/
def trapNextsSpec : ChangeSpec := { name := "trapNexts", fn := fun _ => fun
  | [d1, d2] => { results := [.lit (.bool true)], args := [d1, d2] }
  | _ => none }
def trapNextsRow : OpenClaim := { program := "ytfigidknocpdaaadoor", sum := "57b6abaa87ee357fb12717a0399a49520517e33535b8c0782636c02cdf374ce9", func := "jobshell/jobshelllaw34.TrapNexts", spec := "trapNexts", inPlace := ["slices.overlaps[jobshell/api.Trap]", "internal/bytealg.IndexByteString", "internal/bytealg.IndexString", "internal/bytealg.CountString", "internal/abi.NoEscape", "internal/bytealg.MakeNoZero"], named := ["jobshell/signal.names", "internal/strconv.uint64pow10", "math/bits.deBruijn32tab", "math/bits.deBruijn64tab", "internal/bytealg.MaxLen", "unicode/utf8.first", "unicode/utf8.acceptRanges"], apart := false, laid := [("math/bits.deBruijn32tab", laid_math_bits_deBruijn32tab), ("math/bits.deBruijn64tab", laid_math_bits_deBruijn64tab), ("internal/strconv.uint64pow10", laid_internal_strconv_uint64pow10), ("unicode/utf8.acceptRanges", laid_unicode_utf8_acceptRanges), ("jobshell/signal.names", laid_jobshell_signal_names), ("unicode/utf8.first", laid_unicode_utf8_first)] }
def TrapNextsSaid : Prop := trapNextsRow.holds Tryd.pinned (OpenSpec.ofChange trapNextsSpec)

/-- ITS FALSE NEIGHBOUR: 'it returns false'. Refute it at one input. -/
def trapNextsWrong : ChangeSpec := { name := "trapNexts", fn := fun _ => fun
  | [d1, d2] => { results := [.lit (.bool false)], args := [d1, d2] }
  | _ => none }
def TrapNextsWrongFalsely : Prop := trapNextsRow.holds Tryd.pinned (OpenSpec.ofChange trapNextsWrong)

/-- 'jobshelllaw34.TrapRequests': WHATEVER THE INPUT: true; the input reads as it did. -/
def trapRequestsSpec : ChangeSpec := { name := "trapRequests", fn := fun _ => fun
  | [d1, d2, d3] => { results := [.lit (.bool true)], args := [d1, d2, d3] }
  | _ => none }
def trapRequestsRow : OpenClaim := { program := "ytfigidknocpdaaadoor", sum := "57b6abaa87ee357fb12717a0399a49520517e33535b8c0782636c02cdf374ce9", func := "jobshell/jobshelllaw34.TrapRequests", spec := "trapRequests", inPlace := ["slices.overlaps[jobshell/api.Trap]", "internal/bytealg.IndexByteString", "internal/bytealg.IndexString", "internal/bytealg.CountString", "internal/abi.NoEscape", "internal/bytealg.MakeNoZero"], named := ["jobshell/signal.names", "internal/strconv.uint64pow10", "math/bits.deBruijn32tab", "math/bits.deBruijn64tab", "internal/bytealg.MaxLen", "unicode/utf8.first", "unicode/utf8.acceptRanges"], apart := false, laid := [("math/bits.deBruijn32tab", laid_math_bits_deBruijn32tab), ("math/bits.deBruijn64tab", laid_math_bits_deBruijn64tab), ("internal/strconv.uint64pow10", laid_internal_strconv_uint64pow10), ("unicode/utf8.acceptRanges", laid_unicode_utf8_acceptRanges), ("jobshell/signal.names", laid_jobshell_signal_names), ("unicode/utf8.first", laid_unicode_utf8_first)] }
def TrapRequestsSaid : Prop := trapRequestsRow.holds Tryd.pinned (OpenSpec.ofChange trapRequestsSpec)

/-- ITS FALSE NEIGHBOUR: 'it returns false'. Refute it at one input. -/
def trapRequestsWrong : ChangeSpec := { name := "trapRequests", fn := fun _ => fun
  | [d1, d2, d3] => { results := [.lit (.bool false)], args := [d1, d2, d3] }
  | _ => none }
def TrapRequestsWrongFalsely : Prop := trapRequestsRow.holds Tryd.pinned (OpenSpec.ofChange trapRequestsWrong)

/-- 'jobshelllaw34.TrapTakes': WHATEVER THE INPUT: true; the input reads as it did. -/
def trapTakesSpec : ChangeSpec := { name := "trapTakes", fn := fun _ => fun
  | [d1, d2] => { results := [.lit (.bool true)], args := [d1, d2] }
  | _ => none }
def trapTakesRow : OpenClaim := { program := "ytfigidknocpdaaadoor", sum := "57b6abaa87ee357fb12717a0399a49520517e33535b8c0782636c02cdf374ce9", func := "jobshell/jobshelllaw34.TrapTakes", spec := "trapTakes", inPlace := ["slices.overlaps[jobshell/api.Trap]", "internal/bytealg.IndexByteString", "internal/bytealg.IndexString", "internal/bytealg.CountString", "internal/abi.NoEscape", "internal/bytealg.MakeNoZero"], named := ["jobshell/signal.names", "internal/strconv.uint64pow10", "math/bits.deBruijn32tab", "math/bits.deBruijn64tab", "internal/bytealg.MaxLen", "unicode/utf8.first", "unicode/utf8.acceptRanges"], apart := false, laid := [("math/bits.deBruijn32tab", laid_math_bits_deBruijn32tab), ("math/bits.deBruijn64tab", laid_math_bits_deBruijn64tab), ("internal/strconv.uint64pow10", laid_internal_strconv_uint64pow10), ("unicode/utf8.acceptRanges", laid_unicode_utf8_acceptRanges), ("jobshell/signal.names", laid_jobshell_signal_names), ("unicode/utf8.first", laid_unicode_utf8_first)] }
def TrapTakesSaid : Prop := trapTakesRow.holds Tryd.pinned (OpenSpec.ofChange trapTakesSpec)

/-- ITS FALSE NEIGHBOUR: 'it returns false'. Refute it at one input. -/
def trapTakesWrong : ChangeSpec := { name := "trapTakes", fn := fun _ => fun
  | [d1, d2] => { results := [.lit (.bool false)], args := [d1, d2] }
  | _ => none }
def TrapTakesWrongFalsely : Prop := trapTakesRow.holds Tryd.pinned (OpenSpec.ofChange trapTakesWrong)

/-- 'jobshelllaw34.TrapSettles': WHATEVER THE INPUT: true; the input reads as it did. -/
def trapSettlesSpec : ChangeSpec := { name := "trapSettles", fn := fun _ => fun
  | [d1, d2, d3] => { results := [.lit (.bool true)], args := [d1, d2, d3] }
  | _ => none }
def trapSettlesRow : OpenClaim := { program := "ytfigidknocpdaaadoor", sum := "57b6abaa87ee357fb12717a0399a49520517e33535b8c0782636c02cdf374ce9", func := "jobshell/jobshelllaw34.TrapSettles", spec := "trapSettles", inPlace := ["slices.overlaps[jobshell/api.Trap]", "internal/bytealg.IndexByteString", "internal/bytealg.IndexString", "internal/bytealg.CountString", "internal/abi.NoEscape", "internal/bytealg.MakeNoZero"], named := ["jobshell/signal.names", "internal/strconv.uint64pow10", "math/bits.deBruijn32tab", "math/bits.deBruijn64tab", "internal/bytealg.MaxLen", "unicode/utf8.first", "unicode/utf8.acceptRanges"], apart := false, laid := [("math/bits.deBruijn32tab", laid_math_bits_deBruijn32tab), ("math/bits.deBruijn64tab", laid_math_bits_deBruijn64tab), ("internal/strconv.uint64pow10", laid_internal_strconv_uint64pow10), ("unicode/utf8.acceptRanges", laid_unicode_utf8_acceptRanges), ("jobshell/signal.names", laid_jobshell_signal_names), ("unicode/utf8.first", laid_unicode_utf8_first)] }
def TrapSettlesSaid : Prop := trapSettlesRow.holds Tryd.pinned (OpenSpec.ofChange trapSettlesSpec)

/-- ITS FALSE NEIGHBOUR: 'it returns false'. Refute it at one input. -/
def trapSettlesWrong : ChangeSpec := { name := "trapSettles", fn := fun _ => fun
  | [d1, d2, d3] => { results := [.lit (.bool false)], args := [d1, d2, d3] }
  | _ => none }
def TrapSettlesWrongFalsely : Prop := trapSettlesRow.holds Tryd.pinned (OpenSpec.ofChange trapSettlesWrong)

/-- 'jobshelllaw34.TrapChanges': WHATEVER THE INPUT: true; the input reads as it did. -/
def trapChangesSpec : ChangeSpec := { name := "trapChanges", fn := fun _ => fun
  | [d1, d2, d3] => { results := [.lit (.bool true)], args := [d1, d2, d3] }
  | _ => none }
def trapChangesRow : OpenClaim := { program := "ytfigidknocpdaaadoor", sum := "57b6abaa87ee357fb12717a0399a49520517e33535b8c0782636c02cdf374ce9", func := "jobshell/jobshelllaw34.TrapChanges", spec := "trapChanges", inPlace := ["slices.overlaps[jobshell/api.Trap]", "internal/bytealg.IndexByteString", "internal/bytealg.IndexString", "internal/bytealg.CountString", "internal/abi.NoEscape", "internal/bytealg.MakeNoZero"], named := ["jobshell/signal.names", "internal/strconv.uint64pow10", "math/bits.deBruijn32tab", "math/bits.deBruijn64tab", "internal/bytealg.MaxLen", "unicode/utf8.first", "unicode/utf8.acceptRanges"], apart := false, laid := [("math/bits.deBruijn32tab", laid_math_bits_deBruijn32tab), ("math/bits.deBruijn64tab", laid_math_bits_deBruijn64tab), ("internal/strconv.uint64pow10", laid_internal_strconv_uint64pow10), ("unicode/utf8.acceptRanges", laid_unicode_utf8_acceptRanges), ("jobshell/signal.names", laid_jobshell_signal_names), ("unicode/utf8.first", laid_unicode_utf8_first)] }
def TrapChangesSaid : Prop := trapChangesRow.holds Tryd.pinned (OpenSpec.ofChange trapChangesSpec)

/-- ITS FALSE NEIGHBOUR: 'it returns false'. Refute it at one input. -/
def trapChangesWrong : ChangeSpec := { name := "trapChanges", fn := fun _ => fun
  | [d1, d2, d3] => { results := [.lit (.bool false)], args := [d1, d2, d3] }
  | _ => none }
def TrapChangesWrongFalsely : Prop := trapChangesRow.holds Tryd.pinned (OpenSpec.ofChange trapChangesWrong)

/-- 'jobshelllaw34.TrapStays': WHATEVER THE INPUT: true; the input reads as it did. -/
def trapStaysSpec : ChangeSpec := { name := "trapStays", fn := fun _ => fun
  | [d1, d2, d3, d4] => { results := [.lit (.bool true)], args := [d1, d2, d3, d4] }
  | _ => none }
def trapStaysRow : OpenClaim := { program := "ytfigidknocpdaaadoor", sum := "57b6abaa87ee357fb12717a0399a49520517e33535b8c0782636c02cdf374ce9", func := "jobshell/jobshelllaw34.TrapStays", spec := "trapStays", inPlace := ["slices.overlaps[jobshell/api.Trap]", "internal/bytealg.IndexByteString", "internal/bytealg.IndexString", "internal/bytealg.CountString", "internal/abi.NoEscape", "internal/bytealg.MakeNoZero"], named := ["jobshell/signal.names", "internal/strconv.uint64pow10", "math/bits.deBruijn32tab", "math/bits.deBruijn64tab", "internal/bytealg.MaxLen", "unicode/utf8.first", "unicode/utf8.acceptRanges"], apart := false, laid := [("math/bits.deBruijn32tab", laid_math_bits_deBruijn32tab), ("math/bits.deBruijn64tab", laid_math_bits_deBruijn64tab), ("internal/strconv.uint64pow10", laid_internal_strconv_uint64pow10), ("unicode/utf8.acceptRanges", laid_unicode_utf8_acceptRanges), ("jobshell/signal.names", laid_jobshell_signal_names), ("unicode/utf8.first", laid_unicode_utf8_first)] }
def TrapStaysSaid : Prop := trapStaysRow.holds Tryd.pinned (OpenSpec.ofChange trapStaysSpec)

/-- ITS FALSE NEIGHBOUR: 'it returns false'. Refute it at one input. -/
def trapStaysWrong : ChangeSpec := { name := "trapStays", fn := fun _ => fun
  | [d1, d2, d3, d4] => { results := [.lit (.bool false)], args := [d1, d2, d3, d4] }
  | _ => none }
def TrapStaysWrongFalsely : Prop := trapStaysRow.holds Tryd.pinned (OpenSpec.ofChange trapStaysWrong)

/- THE SECOND FORM. 'bulk': how many values and letters a reading holds, each counted each time it is reached (what is shared counts as often as it is met; a slice's spare places count too). A statement '..UptoSaid' is the law's where the arguments, and the package variables that the reading takes, are together of bulk at most 1048576: NARROWER than '..Said'. Prove '..Said' where nothing that the law and all that it calls make is longer than what came in: it says more and counts as full. Else prove '..UptoSaid'. A law counts once. -/
mutual
def uptoBulk {H : Type} : DataW H → Nat
  | .lit (.string bytes) => bytes.length + 1
  | .lit _ => 1
  | .nil => 1
  | .ptr d => uptoBulk d + 1
  | .slice elems spare => uptoBulkAll elems + uptoBulkAll spare + 1
  | .agg parts => uptoBulkAll parts + 1
  | .iface _ d => uptoBulk d + 1
  | .map entries => uptoBulkEntries entries + 1
  | .held _ => 1
def uptoBulkAll {H : Type} : List (DataW H) → Nat
  | [] => 0
  | d :: r => uptoBulk d + uptoBulkAll r
def uptoBulkEntries {H : Type} : List (Lit × DataW H) → Nat
  | [] => 0
  | x :: r => uptoBulkEntry x + uptoBulkEntries r
def uptoBulkEntry {H : Type} : Lit × DataW H → Nat
  | (.string bytes, d) => bytes.length + uptoBulk d + 1
  | (_, d) => uptoBulk d + 1
 end
def uptoSmall : (H : Type) → List (DataW H) → Bool := fun _ ds => decide (uptoBulkAll ds ≤ 1048576)
def OpenSpec.upto (s : _root_.Go.ChangeSpec) : _root_.Go.OpenSpec := { _root_.Go.OpenSpec.ofChange s with cond := some uptoSmall }

/-- 'jobshelllaw34.TrapSignals', WHERE WHAT IT READS IS OF BULK AT MOST 1048576: true; the input reads as it did. -/
def trapSignalsUptoRow : OpenClaim := { program := "ytfigidknocpdaaadoor", sum := "57b6abaa87ee357fb12717a0399a49520517e33535b8c0782636c02cdf374ce9", func := "jobshell/jobshelllaw34.TrapSignals", spec := "trapSignals", inPlace := ["slices.overlaps[jobshell/api.Trap]", "internal/bytealg.IndexByteString", "internal/bytealg.IndexString", "internal/bytealg.CountString", "internal/abi.NoEscape", "internal/bytealg.MakeNoZero"], named := ["jobshell/signal.names", "internal/strconv.uint64pow10", "math/bits.deBruijn32tab", "math/bits.deBruijn64tab", "internal/bytealg.MaxLen", "unicode/utf8.first", "unicode/utf8.acceptRanges"], apart := false, laid := [("math/bits.deBruijn32tab", laid_math_bits_deBruijn32tab), ("math/bits.deBruijn64tab", laid_math_bits_deBruijn64tab), ("internal/strconv.uint64pow10", laid_internal_strconv_uint64pow10), ("unicode/utf8.acceptRanges", laid_unicode_utf8_acceptRanges), ("jobshell/signal.names", laid_jobshell_signal_names), ("unicode/utf8.first", laid_unicode_utf8_first)], narrowed := true }
def TrapSignalsUptoSaid : Prop := trapSignalsUptoRow.holds Tryd.pinned (OpenSpec.upto trapSignalsSpec)

/-- 'jobshelllaw34.TrapNexts', WHERE WHAT IT READS IS OF BULK AT MOST 1048576: true; the input reads as it did. -/
def trapNextsUptoRow : OpenClaim := { program := "ytfigidknocpdaaadoor", sum := "57b6abaa87ee357fb12717a0399a49520517e33535b8c0782636c02cdf374ce9", func := "jobshell/jobshelllaw34.TrapNexts", spec := "trapNexts", inPlace := ["slices.overlaps[jobshell/api.Trap]", "internal/bytealg.IndexByteString", "internal/bytealg.IndexString", "internal/bytealg.CountString", "internal/abi.NoEscape", "internal/bytealg.MakeNoZero"], named := ["jobshell/signal.names", "internal/strconv.uint64pow10", "math/bits.deBruijn32tab", "math/bits.deBruijn64tab", "internal/bytealg.MaxLen", "unicode/utf8.first", "unicode/utf8.acceptRanges"], apart := false, laid := [("math/bits.deBruijn32tab", laid_math_bits_deBruijn32tab), ("math/bits.deBruijn64tab", laid_math_bits_deBruijn64tab), ("internal/strconv.uint64pow10", laid_internal_strconv_uint64pow10), ("unicode/utf8.acceptRanges", laid_unicode_utf8_acceptRanges), ("jobshell/signal.names", laid_jobshell_signal_names), ("unicode/utf8.first", laid_unicode_utf8_first)], narrowed := true }
def TrapNextsUptoSaid : Prop := trapNextsUptoRow.holds Tryd.pinned (OpenSpec.upto trapNextsSpec)

/-- 'jobshelllaw34.TrapRequests', WHERE WHAT IT READS IS OF BULK AT MOST 1048576: true; the input reads as it did. -/
def trapRequestsUptoRow : OpenClaim := { program := "ytfigidknocpdaaadoor", sum := "57b6abaa87ee357fb12717a0399a49520517e33535b8c0782636c02cdf374ce9", func := "jobshell/jobshelllaw34.TrapRequests", spec := "trapRequests", inPlace := ["slices.overlaps[jobshell/api.Trap]", "internal/bytealg.IndexByteString", "internal/bytealg.IndexString", "internal/bytealg.CountString", "internal/abi.NoEscape", "internal/bytealg.MakeNoZero"], named := ["jobshell/signal.names", "internal/strconv.uint64pow10", "math/bits.deBruijn32tab", "math/bits.deBruijn64tab", "internal/bytealg.MaxLen", "unicode/utf8.first", "unicode/utf8.acceptRanges"], apart := false, laid := [("math/bits.deBruijn32tab", laid_math_bits_deBruijn32tab), ("math/bits.deBruijn64tab", laid_math_bits_deBruijn64tab), ("internal/strconv.uint64pow10", laid_internal_strconv_uint64pow10), ("unicode/utf8.acceptRanges", laid_unicode_utf8_acceptRanges), ("jobshell/signal.names", laid_jobshell_signal_names), ("unicode/utf8.first", laid_unicode_utf8_first)], narrowed := true }
def TrapRequestsUptoSaid : Prop := trapRequestsUptoRow.holds Tryd.pinned (OpenSpec.upto trapRequestsSpec)

/-- 'jobshelllaw34.TrapTakes', WHERE WHAT IT READS IS OF BULK AT MOST 1048576: true; the input reads as it did. -/
def trapTakesUptoRow : OpenClaim := { program := "ytfigidknocpdaaadoor", sum := "57b6abaa87ee357fb12717a0399a49520517e33535b8c0782636c02cdf374ce9", func := "jobshell/jobshelllaw34.TrapTakes", spec := "trapTakes", inPlace := ["slices.overlaps[jobshell/api.Trap]", "internal/bytealg.IndexByteString", "internal/bytealg.IndexString", "internal/bytealg.CountString", "internal/abi.NoEscape", "internal/bytealg.MakeNoZero"], named := ["jobshell/signal.names", "internal/strconv.uint64pow10", "math/bits.deBruijn32tab", "math/bits.deBruijn64tab", "internal/bytealg.MaxLen", "unicode/utf8.first", "unicode/utf8.acceptRanges"], apart := false, laid := [("math/bits.deBruijn32tab", laid_math_bits_deBruijn32tab), ("math/bits.deBruijn64tab", laid_math_bits_deBruijn64tab), ("internal/strconv.uint64pow10", laid_internal_strconv_uint64pow10), ("unicode/utf8.acceptRanges", laid_unicode_utf8_acceptRanges), ("jobshell/signal.names", laid_jobshell_signal_names), ("unicode/utf8.first", laid_unicode_utf8_first)], narrowed := true }
def TrapTakesUptoSaid : Prop := trapTakesUptoRow.holds Tryd.pinned (OpenSpec.upto trapTakesSpec)

/-- 'jobshelllaw34.TrapSettles', WHERE WHAT IT READS IS OF BULK AT MOST 1048576: true; the input reads as it did. -/
def trapSettlesUptoRow : OpenClaim := { program := "ytfigidknocpdaaadoor", sum := "57b6abaa87ee357fb12717a0399a49520517e33535b8c0782636c02cdf374ce9", func := "jobshell/jobshelllaw34.TrapSettles", spec := "trapSettles", inPlace := ["slices.overlaps[jobshell/api.Trap]", "internal/bytealg.IndexByteString", "internal/bytealg.IndexString", "internal/bytealg.CountString", "internal/abi.NoEscape", "internal/bytealg.MakeNoZero"], named := ["jobshell/signal.names", "internal/strconv.uint64pow10", "math/bits.deBruijn32tab", "math/bits.deBruijn64tab", "internal/bytealg.MaxLen", "unicode/utf8.first", "unicode/utf8.acceptRanges"], apart := false, laid := [("math/bits.deBruijn32tab", laid_math_bits_deBruijn32tab), ("math/bits.deBruijn64tab", laid_math_bits_deBruijn64tab), ("internal/strconv.uint64pow10", laid_internal_strconv_uint64pow10), ("unicode/utf8.acceptRanges", laid_unicode_utf8_acceptRanges), ("jobshell/signal.names", laid_jobshell_signal_names), ("unicode/utf8.first", laid_unicode_utf8_first)], narrowed := true }
def TrapSettlesUptoSaid : Prop := trapSettlesUptoRow.holds Tryd.pinned (OpenSpec.upto trapSettlesSpec)

/-- 'jobshelllaw34.TrapChanges', WHERE WHAT IT READS IS OF BULK AT MOST 1048576: true; the input reads as it did. -/
def trapChangesUptoRow : OpenClaim := { program := "ytfigidknocpdaaadoor", sum := "57b6abaa87ee357fb12717a0399a49520517e33535b8c0782636c02cdf374ce9", func := "jobshell/jobshelllaw34.TrapChanges", spec := "trapChanges", inPlace := ["slices.overlaps[jobshell/api.Trap]", "internal/bytealg.IndexByteString", "internal/bytealg.IndexString", "internal/bytealg.CountString", "internal/abi.NoEscape", "internal/bytealg.MakeNoZero"], named := ["jobshell/signal.names", "internal/strconv.uint64pow10", "math/bits.deBruijn32tab", "math/bits.deBruijn64tab", "internal/bytealg.MaxLen", "unicode/utf8.first", "unicode/utf8.acceptRanges"], apart := false, laid := [("math/bits.deBruijn32tab", laid_math_bits_deBruijn32tab), ("math/bits.deBruijn64tab", laid_math_bits_deBruijn64tab), ("internal/strconv.uint64pow10", laid_internal_strconv_uint64pow10), ("unicode/utf8.acceptRanges", laid_unicode_utf8_acceptRanges), ("jobshell/signal.names", laid_jobshell_signal_names), ("unicode/utf8.first", laid_unicode_utf8_first)], narrowed := true }
def TrapChangesUptoSaid : Prop := trapChangesUptoRow.holds Tryd.pinned (OpenSpec.upto trapChangesSpec)

/-- 'jobshelllaw34.TrapStays', WHERE WHAT IT READS IS OF BULK AT MOST 1048576: true; the input reads as it did. -/
def trapStaysUptoRow : OpenClaim := { program := "ytfigidknocpdaaadoor", sum := "57b6abaa87ee357fb12717a0399a49520517e33535b8c0782636c02cdf374ce9", func := "jobshell/jobshelllaw34.TrapStays", spec := "trapStays", inPlace := ["slices.overlaps[jobshell/api.Trap]", "internal/bytealg.IndexByteString", "internal/bytealg.IndexString", "internal/bytealg.CountString", "internal/abi.NoEscape", "internal/bytealg.MakeNoZero"], named := ["jobshell/signal.names", "internal/strconv.uint64pow10", "math/bits.deBruijn32tab", "math/bits.deBruijn64tab", "internal/bytealg.MaxLen", "unicode/utf8.first", "unicode/utf8.acceptRanges"], apart := false, laid := [("math/bits.deBruijn32tab", laid_math_bits_deBruijn32tab), ("math/bits.deBruijn64tab", laid_math_bits_deBruijn64tab), ("internal/strconv.uint64pow10", laid_internal_strconv_uint64pow10), ("unicode/utf8.acceptRanges", laid_unicode_utf8_acceptRanges), ("jobshell/signal.names", laid_jobshell_signal_names), ("unicode/utf8.first", laid_unicode_utf8_first)], narrowed := true }
def TrapStaysUptoSaid : Prop := trapStaysUptoRow.holds Tryd.pinned (OpenSpec.upto trapStaysSpec)

end Rows
end Go.Proofs.YtfigidknocpdaaaDoor
