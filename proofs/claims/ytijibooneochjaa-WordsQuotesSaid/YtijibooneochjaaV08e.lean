/- Chapter 8: the law WordsQuotes, whole. -/
import Derived.Test.YtijibooneochjaaV08b
import Derived.Test.YtijibooneochjaaW08p
namespace Go.Proofs.Ytijibooneochjaa
open Go.RowKit K
namespace W
theorem WordsQuotes_all (s : List UInt8) (w : World) : Calls Try.prog 3 #[.string ⟨s.toArray⟩] w fun e w' => e = .returned (.bool true) ∧ Below w.heap.size w w' := WordsQuotes_any brAll s w
end W
end Go.Proofs.Ytijibooneochjaa
