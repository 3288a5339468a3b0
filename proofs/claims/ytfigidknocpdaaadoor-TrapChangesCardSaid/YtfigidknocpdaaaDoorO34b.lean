/- Chapter 34: what the row's conditions give the walks: the library's tables and the table of names; lists of traps and of integers out of arguments. -/
import Derived.Test.YtfigidknocpdaaaDoorO34
import Derived.Test.YtfigidknocpdaaaDoorRows
import Derived.Shelf.Vars
import Derived.Stop.LaidErr
import Derived.LaidSub
namespace Go.Proofs.YtfigidknocpdaaaDoor
open Go.RowKit K
namespace W
theorem plain_of {P : Program} {l : List (String × DataW Unit)} {w : World} (h : laidMetH P l w) (hn : (l.filter fun x => x.2.handleName?.isNone) = l) : laidMet P l w := by
  have := (laidMetH_iff.1 h).1
  rw [hn] at this
  exact this
theorem laidPow : (Rows.laid_internal_strconv_uint64pow10 : DataW Unit) = Lib.tabData .u64 Lib.pow10Tab := by kernel_rfl
theorem laidNames : (Rows.laid_jobshell_signal_names : DataW Unit) = .agg (P.names.map fun z => .lit (.string z)) := by kernel_rfl
theorem noHandle : (Rows.trapSignalsRow.laid.filter fun x => x.2.handleName?.isNone) = Rows.trapSignalsRow.laid := by kernel_rfl
theorem names_of {W : World} {rest : List (String × DataW Unit)} (h : laidMet Tryd.prog (("jobshell/signal.names", Rows.laid_jobshell_signal_names) :: rest) W) : W.var? Tryd.prog "jobshell/signal.names" = some namesV := by
  obtain ⟨ps, ⟨g', t', cs, fuel, p, q, hg', ht', hvar, hd, _, _⟩, _⟩ := h
  obtain rfl := Option.some.inj (gNames.symm.trans hg')
  obtain rfl : t' = 63 := Option.some.inj (ht'.symm.trans (by kernel_rfl))
  rw [laidNames] at hd
  have hcs := K.cells_of_strs (zs := P.names) Tryd.underlying63 Tryd.underlying9 (by kernel_rfl) (by kernel_rfl) hd
  rw [hvar]
  unfold namesV
  rw [← hcs]
theorem env_of {W : World} (hL : laidMetH Tryd.prog Rows.trapSignalsRow.laid W) (hsh : W.ShapedOpen Tryd.prog) : Env W := by
  have h := plain_of hL noHandle
  have h2 : laidMet Tryd.prog (("internal/strconv.uint64pow10", Rows.laid_internal_strconv_uint64pow10) :: _) W := h.tail.tail
  have h3 : laidMet Tryd.prog (("jobshell/signal.names", Rows.laid_jobshell_signal_names) :: _) W := h.tail.tail.tail.tail
  rw [laidPow] at h2
  refine ⟨_root_.Go.Proofs.cell_of_shapedOpen_int (g := 2) (t := 3) (zero := #[.int .i64 0]) hsh (of_decide_eq_true (by kernel_rfl)) (by kernel_rfl) rfl (by kernel_rfl) (by kernel_rfl) Tryd.underlying3, ?_, names_of h3⟩
  exact Lib.tabIs_of_head gPow (by kernel_rfl) Tryd.underlying96 Tryd.underlying75 (by kernel_rfl) (by kernel_rfl) h2
end W
end Go.Proofs.YtfigidknocpdaaaDoor
