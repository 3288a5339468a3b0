/- Chapter 43: what the row's conditions give the walks: the library's tables, a history out of an argument. -/
import Derived.Test.YtbiilbdflmiehaaDoorW43l
import Derived.Test.YtbiilbdflmiehaaDoorRows
import Derived.Lib.LaidTab
import Derived.Shelf.Vars
import Derived.Stop.LaidErr
import Derived.LaidSub
namespace Go.Proofs.YtbiilbdflmiehaaDoor
open Go.RowKit K
namespace W
theorem plain_of {P : Program} {l : List (String × DataW Unit)} {w : World} (h : laidMetH P l w) (hn : (l.filter fun x => x.2.handleName?.isNone) = l) : laidMet P l w := by
  have := (laidMetH_iff.1 h).1
  rw [hn] at this
  exact this
theorem laidPow : (Rows.laid_internal_strconv_uint64pow10 : DataW Unit) = Lib.tabData .u64 Lib.pow10Tab := by kernel_rfl
theorem noHandle : (Rows.historyLoadsRow.laid.filter fun x => x.2.handleName?.isNone) = Rows.historyLoadsRow.laid := by kernel_rfl
theorem env_of {W : World} (hL : laidMetH Tryd.prog Rows.historyLoadsRow.laid W) (hsh : W.ShapedOpen Tryd.prog) : Env W := by
  refine ⟨_root_.Go.Proofs.cell_of_shapedOpen_int (g := 0) (t := 3) (zero := #[.int .i64 0]) hsh (of_decide_eq_true (by kernel_rfl)) (by kernel_rfl) rfl (by kernel_rfl) (by kernel_rfl) Tryd.underlying3, ?_⟩
  have h := plain_of hL noHandle
  have h2 : laidMet Tryd.prog (("internal/strconv.uint64pow10", Rows.laid_internal_strconv_uint64pow10) :: _) W := h.tail.tail
  rw [laidPow] at h2
  exact Lib.tabIs_of_head gPow (by kernel_rfl) Tryd.underlying87 Tryd.underlying77 (by kernel_rfl) (by kernel_rfl) h2
section
open Go.ChangeShapes Go.WideShapes
variable {H : Type} {enc : TypeId × Value → H} {w : World}
theorem hist_of {r : Reach} {b0 : Nat} {v : Value} {d : DataW H} {p : List MemPlace} (hv0 : Value.okWide Tryd.prog w r b0 24 v) (h : DataW.Trod enc Tryd.prog w 0 (fun _ => true) true 24 v d p) (hw : ∀ n ∈ d.weights Tryd.prog 24, n ≤ reachBytes) :
    ∃ first ls, HV w v first ls ∧ ls.length ≤ 8796093022208 ∧ ∀ s ∈ ls, s.length ≤ 140737488351232 := by
  obtain ⟨v0, v1, y0, y1, n, rfl, rfl, rfl, h0, h1⟩ := Joins.open_agg2 Tryd.underlying24 (by kernel_rfl) (by kernel_rfl) hv0 h
  obtain ⟨z, hz, hy0, _⟩ := DataW.trod_int Tryd.underlying3 h0
  have hw1 : ∀ m ∈ y1.1.weights Tryd.prog 22, m ≤ reachBytes := by
    intro m hm
    refine hw m ?_
    simp only [DataW.weights, Tryd.underlying24, DataW.weightsEach, List.map_cons, List.map_nil, List.mem_append]
    exact .inr (.inl hm)
  obtain ⟨A, c, ls, rfl, hl, hc, hA, hS, hs⟩ := strings_of Tryd.underlying22 Tryd.underlying9 (by kernel_rfl) h1 hw1 (by kernel_rfl)
  simp at hz
  subst hz
  exact ⟨z, ls, ⟨A, c, rfl, hl, by omega, hA, hS⟩, by omega, hs⟩
end
end W
end Go.Proofs.YtbiilbdflmiehaaDoor
