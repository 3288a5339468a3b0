/- The brace-form contract, for every depth (BrAll). -/
import Derived.Test.YtmgomklpjjkehaaGreatW08l
import Derived.Test.YtmgomklpjjkehaaGreatYM
namespace Go.Proofs.YtmgomklpjjkehaaGreat
open Go.RowKit K
namespace W
theorem brAll : BrAll := fun _ _ _ _ _ h1 h2 h3 h4 h5 h6 => braced_any h1 h2 h3 h4 h5 h6
end W
end Go.Proofs.YtmgomklpjjkehaaGreat
