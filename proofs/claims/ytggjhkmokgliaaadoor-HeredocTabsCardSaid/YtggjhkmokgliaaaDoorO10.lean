/- Chapter 10: what the row's conditions give the walks: the library's tables. -/
import Derived.Test.YtggjhkmokgliaaaDoorW10d
import Derived.Test.YtggjhkmokgliaaaDoorRows
import Derived.Lib.LaidTab
import Derived.Shelf.Vars
import Derived.Stop.LaidErr
import Derived.LaidSub
namespace Go.Proofs.YtggjhkmokgliaaaDoor
open Go.RowKit K
namespace W
theorem plain_of {P : Program} {l : List (String × DataW Unit)} {w : World} (h : laidMetH P l w) (hn : (l.filter fun x => x.2.handleName?.isNone) = l) : laidMet P l w := by
  have := (laidMetH_iff.1 h).1
  rw [hn] at this
  exact this
theorem laidPow : (Rows.laid_internal_strconv_uint64pow10 : DataW Unit) = Lib.tabData .u64 Lib.pow10Tab := by kernel_rfl
theorem noHandle : (Rows.heredocStripsRow.laid.filter fun x => x.2.handleName?.isNone) = Rows.heredocStripsRow.laid := by kernel_rfl
theorem env_of {W : World} (hL : laidMetH Tryd.prog Rows.heredocStripsRow.laid W) (hsh : W.ShapedOpen Tryd.prog) : Env W := by
  refine ⟨_root_.Go.Proofs.cell_of_shapedOpen_int (g := 0) (t := 3) (zero := #[.int .i64 0]) hsh (of_decide_eq_true (by kernel_rfl)) (by kernel_rfl) rfl (by kernel_rfl) (by kernel_rfl) Tryd.underlying3, ?_⟩
  have h := plain_of hL noHandle
  have h2 : laidMet Tryd.prog (("internal/strconv.uint64pow10", Rows.laid_internal_strconv_uint64pow10) :: _) W := h.tail.tail
  rw [laidPow] at h2
  exact Lib.tabIs_of_head gPow (by kernel_rfl) Tryd.underlying99 Tryd.underlying85 (by kernel_rfl) (by kernel_rfl) h2
end W
end Go.Proofs.YtggjhkmokgliaaaDoor
