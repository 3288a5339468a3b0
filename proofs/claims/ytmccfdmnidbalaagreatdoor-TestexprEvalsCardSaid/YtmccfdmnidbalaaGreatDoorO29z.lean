/- Chapter 29: what the row's conditions give the walks. -/
import Derived.Test.YtmccfdmnidbalaaGreatDoorV29e
import Derived.Test.YtmccfdmnidbalaaGreatDoorRows
import Derived.Lib.LaidTab
import Derived.Shelf.Vars
import Derived.Stop.LaidErr
import Derived.LaidSub
namespace Go.Proofs.YtmccfdmnidbalaaGreatDoor
open Go.RowKit K
namespace W
theorem plain_of {P : Program} {l : List (String × DataW Unit)} {w : World} (h : laidMetH P l w) (hn : (l.filter fun x => x.2.handleName?.isNone) = l) : laidMet P l w := by
  have := (laidMetH_iff.1 h).1
  rw [hn] at this
  exact this
theorem noHandle : (Rows.testexprEvalsRow.laid.filter fun x => x.2.handleName?.isNone) = Rows.testexprEvalsRow.laid := by kernel_rfl
theorem gRange : Tryz.prog.globalNamed "strconv.ErrRange" = some 1 := by kernel_rfl
theorem env_of {W : World} (hL : laidMetH Tryz.prog Rows.testexprEvalsRow.laid W) (hsh : W.ShapedOpen Tryz.prog) : Env W := by
  have h := plain_of hL noHandle
  have h2 : laidMet Tryz.prog (("strconv.ErrRange", Rows.laid_strconv_ErrRange) :: _) W := h.tail.tail.tail.tail
  refine ⟨_root_.Go.Proofs.cell_of_shapedOpen_int (g := 2) (t := 3) (zero := #[.int .i64 0]) hsh (of_decide_eq_true (by kernel_rfl)) (by kernel_rfl) rfl (by kernel_rfl) (by kernel_rfl) Tryz.underlying3, ?_⟩
  obtain ⟨ps, ⟨g', t', cs, fuel, p, q, hg', ht', hvar, hd, _, _⟩, _⟩ := h2
  obtain rfl := Option.some.inj (gRange.symm.trans hg')
  obtain rfl : t' = 68 := Option.some.inj (ht'.symm.trans (by kernel_rfl))
  unfold Rows.laid_strconv_ErrRange at hd
  obtain ⟨f1, u, v, hcs, _⟩ := iface_of_trod Tryz.underlying68 hd
  have hc := World.var?_cell gRange hvar 0
  refine ⟨u, v, hc.trans ?_⟩
  have : cs.toList[0]? = some (.iface u v) := by rw [hcs]; rfl
  simpa using this
end W
end Go.Proofs.YtmccfdmnidbalaaGreatDoor
