/- Chapter 29: lists of strings out of arguments. -/
import Derived.Test.YtmccfdmnidbalaaGreatDoorO29cz
import Derived.Test.YtmccfdmnidbalaaGreatDoorV29e
namespace Go.Proofs.YtmccfdmnidbalaaGreatDoor
open Go.RowKit K
namespace W
section
open Go.ChangeShapes Go.WideShapes
variable {H : Type} {enc : TypeId × Value → H} {w : World}
set_option maxRecDepth 100000 in
theorem strs_of {r : Reach} {b0 : Nat} {v : Value} {d : DataW H} {p : List MemPlace} (hv0 : Value.okWide Tryz.prog w r b0 22 v) (h : DataW.Trod enc Tryz.prog w 0 (fun _ => true) true 22 v d p) (hw : ∀ n ∈ d.weights Tryz.prog 22, n ≤ reachBytes) :
    ∃ ls : List (List UInt8), StV w v ls := by
  obtain ⟨m, h⟩ := h
  obtain ⟨a0, len0, cap0, rfl⟩ := okWide_slice Tryz.underlying22 hv0
  obtain ⟨A, c, ls, hv, hl, hc, hA, hS, -⟩ := strings_of Tryz.underlying22 Tryz.underlying9 (by kernel_rfl) h hw (by kernel_rfl)
  exact ⟨ls, A, c, hv, hl, hc, hA, hS⟩
end
end W
end Go.Proofs.YtmccfdmnidbalaaGreatDoor
