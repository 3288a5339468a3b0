/- Expansion: an environment is copied; printed by gen21j.py. -/
import Derived.Test.YtkceenmlhfkkhaaGreatDoorY21h
import Derived.Laws.Rows
namespace Go.Proofs.YtkceenmlhfkkhaaGreatDoor
open Go.RowKit K
namespace W
set_option maxRecDepth 100000
theorem blk15 {v : World} {b : Nat} {a0 a1 a2 a3 a4 a5 a6 a7 a8 a9 a10 a11 a12 a13 a14 : Value} {t : TypeId} (h : v.heap[b]? = some (.cells #[a0, a1, a2, a3, a4, a5, a6, a7, a8, a9, a10, a11, a12, a13, a14] t (0, 0))) :
    v.cell? ⟨b, 0, none⟩ = some a0 ∧ v.cell? ⟨b, 1, none⟩ = some a1 ∧ v.cell? ⟨b, 2, none⟩ = some a2 ∧ v.cell? ⟨b, 3, none⟩ = some a3 ∧ v.cell? ⟨b, 4, none⟩ = some a4 ∧ v.cell? ⟨b, 5, none⟩ = some a5 ∧ v.cell? ⟨b, 6, none⟩ = some a6 ∧ v.cell? ⟨b, 7, none⟩ = some a7 ∧ v.cell? ⟨b, 8, none⟩ = some a8 ∧ v.cell? ⟨b, 9, none⟩ = some a9 ∧ v.cell? ⟨b, 10, none⟩ = some a10 ∧ v.cell? ⟨b, 11, none⟩ = some a11 ∧ v.cell? ⟨b, 12, none⟩ = some a12 ∧ v.cell? ⟨b, 13, none⟩ = some a13 ∧ v.cell? ⟨b, 14, none⟩ = some a14 :=
  ⟨Lib.cell_of_heap h 0, Lib.cell_of_heap h 1, Lib.cell_of_heap h 2, Lib.cell_of_heap h 3, Lib.cell_of_heap h 4, Lib.cell_of_heap h 5, Lib.cell_of_heap h 6, Lib.cell_of_heap h 7, Lib.cell_of_heap h 8, Lib.cell_of_heap h 9, Lib.cell_of_heap h 10, Lib.cell_of_heap h 11, Lib.cell_of_heap h 12, Lib.cell_of_heap h 13, Lib.cell_of_heap h 14⟩
theorem frz15 {v : World} {b : Nat} {a0 a1 a2 a3 a4 a5 a6 a7 a8 a9 a10 a11 a12 a13 a14 : Value} {t : TypeId} (h : v.heap[b]? = some (.cells #[a0, a1, a2, a3, a4, a5, a6, a7, a8, a9, a10, a11, a12, a13, a14] t (0, 0))) :
    v.frozen? ⟨b, 0, none⟩ = false ∧ v.frozen? ⟨b, 1, none⟩ = false ∧ v.frozen? ⟨b, 2, none⟩ = false ∧ v.frozen? ⟨b, 3, none⟩ = false ∧ v.frozen? ⟨b, 4, none⟩ = false ∧ v.frozen? ⟨b, 5, none⟩ = false ∧ v.frozen? ⟨b, 6, none⟩ = false ∧ v.frozen? ⟨b, 7, none⟩ = false ∧ v.frozen? ⟨b, 8, none⟩ = false ∧ v.frozen? ⟨b, 9, none⟩ = false ∧ v.frozen? ⟨b, 10, none⟩ = false ∧ v.frozen? ⟨b, 11, none⟩ = false ∧ v.frozen? ⟨b, 12, none⟩ = false ∧ v.frozen? ⟨b, 13, none⟩ = false ∧ v.frozen? ⟨b, 14, none⟩ = false :=
  ⟨Lib.frozen_of_heap h 0, Lib.frozen_of_heap h 1, Lib.frozen_of_heap h 2, Lib.frozen_of_heap h 3, Lib.frozen_of_heap h 4, Lib.frozen_of_heap h 5, Lib.frozen_of_heap h 6, Lib.frozen_of_heap h 7, Lib.frozen_of_heap h 8, Lib.frozen_of_heap h 9, Lib.frozen_of_heap h 10, Lib.frozen_of_heap h 11, Lib.frozen_of_heap h 12, Lib.frozen_of_heap h 13, Lib.frozen_of_heap h 14⟩
theorem put15 {v : World} {b : Nat} {a0 a1 a2 a3 a4 a5 a6 a7 a8 a9 a10 a11 a12 a13 a14 : Value} {t : TypeId} (h : v.heap[b]? = some (.cells #[a0, a1, a2, a3, a4, a5, a6, a7, a8, a9, a10, a11, a12, a13, a14] t (0, 0))) (u0 u1 u2 u3 u4 u5 u6 u7 u8 u9 u10 u11 u12 u13 u14 : Value) :
    (((((((((((((((v.setCell ⟨b, 0, none⟩ u0).setCell ⟨b, 1, none⟩ u1).setCell ⟨b, 2, none⟩ u2).setCell ⟨b, 3, none⟩ u3).setCell ⟨b, 4, none⟩ u4).setCell ⟨b, 5, none⟩ u5).setCell ⟨b, 6, none⟩ u6).setCell ⟨b, 7, none⟩ u7).setCell ⟨b, 8, none⟩ u8).setCell ⟨b, 9, none⟩ u9).setCell ⟨b, 10, none⟩ u10).setCell ⟨b, 11, none⟩ u11).setCell ⟨b, 12, none⟩ u12).setCell ⟨b, 13, none⟩ u13).setCell ⟨b, 14, none⟩ u14).heap[b]? = some (.cells #[u0, u1, u2, u3, u4, u5, u6, u7, u8, u9, u10, u11, u12, u13, u14] t (0, 0)) := by
  have h0 : (v.setCell ⟨b, 0, none⟩ u0).heap[b]? = some (.cells #[u0, a1, a2, a3, a4, a5, a6, a7, a8, a9, a10, a11, a12, a13, a14] t (0, 0)) := heap_setCell_same _ b 0 _ _ u0 h
  have h1 : ((v.setCell ⟨b, 0, none⟩ u0).setCell ⟨b, 1, none⟩ u1).heap[b]? = some (.cells #[u0, u1, a2, a3, a4, a5, a6, a7, a8, a9, a10, a11, a12, a13, a14] t (0, 0)) := heap_setCell_same _ b 1 _ _ u1 h0
  have h2 : (((v.setCell ⟨b, 0, none⟩ u0).setCell ⟨b, 1, none⟩ u1).setCell ⟨b, 2, none⟩ u2).heap[b]? = some (.cells #[u0, u1, u2, a3, a4, a5, a6, a7, a8, a9, a10, a11, a12, a13, a14] t (0, 0)) := heap_setCell_same _ b 2 _ _ u2 h1
  have h3 : ((((v.setCell ⟨b, 0, none⟩ u0).setCell ⟨b, 1, none⟩ u1).setCell ⟨b, 2, none⟩ u2).setCell ⟨b, 3, none⟩ u3).heap[b]? = some (.cells #[u0, u1, u2, u3, a4, a5, a6, a7, a8, a9, a10, a11, a12, a13, a14] t (0, 0)) := heap_setCell_same _ b 3 _ _ u3 h2
  have h4 : (((((v.setCell ⟨b, 0, none⟩ u0).setCell ⟨b, 1, none⟩ u1).setCell ⟨b, 2, none⟩ u2).setCell ⟨b, 3, none⟩ u3).setCell ⟨b, 4, none⟩ u4).heap[b]? = some (.cells #[u0, u1, u2, u3, u4, a5, a6, a7, a8, a9, a10, a11, a12, a13, a14] t (0, 0)) := heap_setCell_same _ b 4 _ _ u4 h3
  have h5 : ((((((v.setCell ⟨b, 0, none⟩ u0).setCell ⟨b, 1, none⟩ u1).setCell ⟨b, 2, none⟩ u2).setCell ⟨b, 3, none⟩ u3).setCell ⟨b, 4, none⟩ u4).setCell ⟨b, 5, none⟩ u5).heap[b]? = some (.cells #[u0, u1, u2, u3, u4, u5, a6, a7, a8, a9, a10, a11, a12, a13, a14] t (0, 0)) := heap_setCell_same _ b 5 _ _ u5 h4
  have h6 : (((((((v.setCell ⟨b, 0, none⟩ u0).setCell ⟨b, 1, none⟩ u1).setCell ⟨b, 2, none⟩ u2).setCell ⟨b, 3, none⟩ u3).setCell ⟨b, 4, none⟩ u4).setCell ⟨b, 5, none⟩ u5).setCell ⟨b, 6, none⟩ u6).heap[b]? = some (.cells #[u0, u1, u2, u3, u4, u5, u6, a7, a8, a9, a10, a11, a12, a13, a14] t (0, 0)) := heap_setCell_same _ b 6 _ _ u6 h5
  have h7 : ((((((((v.setCell ⟨b, 0, none⟩ u0).setCell ⟨b, 1, none⟩ u1).setCell ⟨b, 2, none⟩ u2).setCell ⟨b, 3, none⟩ u3).setCell ⟨b, 4, none⟩ u4).setCell ⟨b, 5, none⟩ u5).setCell ⟨b, 6, none⟩ u6).setCell ⟨b, 7, none⟩ u7).heap[b]? = some (.cells #[u0, u1, u2, u3, u4, u5, u6, u7, a8, a9, a10, a11, a12, a13, a14] t (0, 0)) := heap_setCell_same _ b 7 _ _ u7 h6
  have h8 : (((((((((v.setCell ⟨b, 0, none⟩ u0).setCell ⟨b, 1, none⟩ u1).setCell ⟨b, 2, none⟩ u2).setCell ⟨b, 3, none⟩ u3).setCell ⟨b, 4, none⟩ u4).setCell ⟨b, 5, none⟩ u5).setCell ⟨b, 6, none⟩ u6).setCell ⟨b, 7, none⟩ u7).setCell ⟨b, 8, none⟩ u8).heap[b]? = some (.cells #[u0, u1, u2, u3, u4, u5, u6, u7, u8, a9, a10, a11, a12, a13, a14] t (0, 0)) := heap_setCell_same _ b 8 _ _ u8 h7
  have h9 : ((((((((((v.setCell ⟨b, 0, none⟩ u0).setCell ⟨b, 1, none⟩ u1).setCell ⟨b, 2, none⟩ u2).setCell ⟨b, 3, none⟩ u3).setCell ⟨b, 4, none⟩ u4).setCell ⟨b, 5, none⟩ u5).setCell ⟨b, 6, none⟩ u6).setCell ⟨b, 7, none⟩ u7).setCell ⟨b, 8, none⟩ u8).setCell ⟨b, 9, none⟩ u9).heap[b]? = some (.cells #[u0, u1, u2, u3, u4, u5, u6, u7, u8, u9, a10, a11, a12, a13, a14] t (0, 0)) := heap_setCell_same _ b 9 _ _ u9 h8
  have h10 : (((((((((((v.setCell ⟨b, 0, none⟩ u0).setCell ⟨b, 1, none⟩ u1).setCell ⟨b, 2, none⟩ u2).setCell ⟨b, 3, none⟩ u3).setCell ⟨b, 4, none⟩ u4).setCell ⟨b, 5, none⟩ u5).setCell ⟨b, 6, none⟩ u6).setCell ⟨b, 7, none⟩ u7).setCell ⟨b, 8, none⟩ u8).setCell ⟨b, 9, none⟩ u9).setCell ⟨b, 10, none⟩ u10).heap[b]? = some (.cells #[u0, u1, u2, u3, u4, u5, u6, u7, u8, u9, u10, a11, a12, a13, a14] t (0, 0)) := heap_setCell_same _ b 10 _ _ u10 h9
  have h11 : ((((((((((((v.setCell ⟨b, 0, none⟩ u0).setCell ⟨b, 1, none⟩ u1).setCell ⟨b, 2, none⟩ u2).setCell ⟨b, 3, none⟩ u3).setCell ⟨b, 4, none⟩ u4).setCell ⟨b, 5, none⟩ u5).setCell ⟨b, 6, none⟩ u6).setCell ⟨b, 7, none⟩ u7).setCell ⟨b, 8, none⟩ u8).setCell ⟨b, 9, none⟩ u9).setCell ⟨b, 10, none⟩ u10).setCell ⟨b, 11, none⟩ u11).heap[b]? = some (.cells #[u0, u1, u2, u3, u4, u5, u6, u7, u8, u9, u10, u11, a12, a13, a14] t (0, 0)) := heap_setCell_same _ b 11 _ _ u11 h10
  have h12 : (((((((((((((v.setCell ⟨b, 0, none⟩ u0).setCell ⟨b, 1, none⟩ u1).setCell ⟨b, 2, none⟩ u2).setCell ⟨b, 3, none⟩ u3).setCell ⟨b, 4, none⟩ u4).setCell ⟨b, 5, none⟩ u5).setCell ⟨b, 6, none⟩ u6).setCell ⟨b, 7, none⟩ u7).setCell ⟨b, 8, none⟩ u8).setCell ⟨b, 9, none⟩ u9).setCell ⟨b, 10, none⟩ u10).setCell ⟨b, 11, none⟩ u11).setCell ⟨b, 12, none⟩ u12).heap[b]? = some (.cells #[u0, u1, u2, u3, u4, u5, u6, u7, u8, u9, u10, u11, u12, a13, a14] t (0, 0)) := heap_setCell_same _ b 12 _ _ u12 h11
  have h13 : ((((((((((((((v.setCell ⟨b, 0, none⟩ u0).setCell ⟨b, 1, none⟩ u1).setCell ⟨b, 2, none⟩ u2).setCell ⟨b, 3, none⟩ u3).setCell ⟨b, 4, none⟩ u4).setCell ⟨b, 5, none⟩ u5).setCell ⟨b, 6, none⟩ u6).setCell ⟨b, 7, none⟩ u7).setCell ⟨b, 8, none⟩ u8).setCell ⟨b, 9, none⟩ u9).setCell ⟨b, 10, none⟩ u10).setCell ⟨b, 11, none⟩ u11).setCell ⟨b, 12, none⟩ u12).setCell ⟨b, 13, none⟩ u13).heap[b]? = some (.cells #[u0, u1, u2, u3, u4, u5, u6, u7, u8, u9, u10, u11, u12, u13, a14] t (0, 0)) := heap_setCell_same _ b 13 _ _ u13 h12
  have h14 : (((((((((((((((v.setCell ⟨b, 0, none⟩ u0).setCell ⟨b, 1, none⟩ u1).setCell ⟨b, 2, none⟩ u2).setCell ⟨b, 3, none⟩ u3).setCell ⟨b, 4, none⟩ u4).setCell ⟨b, 5, none⟩ u5).setCell ⟨b, 6, none⟩ u6).setCell ⟨b, 7, none⟩ u7).setCell ⟨b, 8, none⟩ u8).setCell ⟨b, 9, none⟩ u9).setCell ⟨b, 10, none⟩ u10).setCell ⟨b, 11, none⟩ u11).setCell ⟨b, 12, none⟩ u12).setCell ⟨b, 13, none⟩ u13).setCell ⟨b, 14, none⟩ u14).heap[b]? = some (.cells #[u0, u1, u2, u3, u4, u5, u6, u7, u8, u9, u10, u11, u12, u13, u14] t (0, 0)) := heap_setCell_same _ b 14 _ _ u14 h13
  exact h14
theorem putB15 {B b : Nat} {w v : World} (h : Below B w v) (hb : B ≤ b) (u0 u1 u2 u3 u4 u5 u6 u7 u8 u9 u10 u11 u12 u13 u14 : Value) : Below B w (((((((((((((((v.setCell ⟨b, 0, none⟩ u0).setCell ⟨b, 1, none⟩ u1).setCell ⟨b, 2, none⟩ u2).setCell ⟨b, 3, none⟩ u3).setCell ⟨b, 4, none⟩ u4).setCell ⟨b, 5, none⟩ u5).setCell ⟨b, 6, none⟩ u6).setCell ⟨b, 7, none⟩ u7).setCell ⟨b, 8, none⟩ u8).setCell ⟨b, 9, none⟩ u9).setCell ⟨b, 10, none⟩ u10).setCell ⟨b, 11, none⟩ u11).setCell ⟨b, 12, none⟩ u12).setCell ⟨b, 13, none⟩ u13).setCell ⟨b, 14, none⟩ u14) :=
  (((((((((((((((h.setCell hb u0).setCell hb u1).setCell hb u2).setCell hb u3).setCell hb u4).setCell hb u5).setCell hb u6).setCell hb u7).setCell hb u8).setCell hb u9).setCell hb u10).setCell hb u11).setCell hb u12).setCell hb u13).setCell hb u14)
theorem blk20 {v : World} {b : Nat} {a0 a1 a2 a3 a4 a5 a6 a7 a8 a9 a10 a11 a12 a13 a14 a15 a16 a17 a18 a19 : Value} {t : TypeId} (h : v.heap[b]? = some (.cells #[a0, a1, a2, a3, a4, a5, a6, a7, a8, a9, a10, a11, a12, a13, a14, a15, a16, a17, a18, a19] t (0, 0))) :
    v.cell? ⟨b, 0, none⟩ = some a0 ∧ v.cell? ⟨b, 1, none⟩ = some a1 ∧ v.cell? ⟨b, 2, none⟩ = some a2 ∧ v.cell? ⟨b, 3, none⟩ = some a3 ∧ v.cell? ⟨b, 4, none⟩ = some a4 ∧ v.cell? ⟨b, 5, none⟩ = some a5 ∧ v.cell? ⟨b, 6, none⟩ = some a6 ∧ v.cell? ⟨b, 7, none⟩ = some a7 ∧ v.cell? ⟨b, 8, none⟩ = some a8 ∧ v.cell? ⟨b, 9, none⟩ = some a9 ∧ v.cell? ⟨b, 10, none⟩ = some a10 ∧ v.cell? ⟨b, 11, none⟩ = some a11 ∧ v.cell? ⟨b, 12, none⟩ = some a12 ∧ v.cell? ⟨b, 13, none⟩ = some a13 ∧ v.cell? ⟨b, 14, none⟩ = some a14 ∧ v.cell? ⟨b, 15, none⟩ = some a15 ∧ v.cell? ⟨b, 16, none⟩ = some a16 ∧ v.cell? ⟨b, 17, none⟩ = some a17 ∧ v.cell? ⟨b, 18, none⟩ = some a18 ∧ v.cell? ⟨b, 19, none⟩ = some a19 :=
  ⟨Lib.cell_of_heap h 0, Lib.cell_of_heap h 1, Lib.cell_of_heap h 2, Lib.cell_of_heap h 3, Lib.cell_of_heap h 4, Lib.cell_of_heap h 5, Lib.cell_of_heap h 6, Lib.cell_of_heap h 7, Lib.cell_of_heap h 8, Lib.cell_of_heap h 9, Lib.cell_of_heap h 10, Lib.cell_of_heap h 11, Lib.cell_of_heap h 12, Lib.cell_of_heap h 13, Lib.cell_of_heap h 14, Lib.cell_of_heap h 15, Lib.cell_of_heap h 16, Lib.cell_of_heap h 17, Lib.cell_of_heap h 18, Lib.cell_of_heap h 19⟩
theorem frz20 {v : World} {b : Nat} {a0 a1 a2 a3 a4 a5 a6 a7 a8 a9 a10 a11 a12 a13 a14 a15 a16 a17 a18 a19 : Value} {t : TypeId} (h : v.heap[b]? = some (.cells #[a0, a1, a2, a3, a4, a5, a6, a7, a8, a9, a10, a11, a12, a13, a14, a15, a16, a17, a18, a19] t (0, 0))) :
    v.frozen? ⟨b, 0, none⟩ = false ∧ v.frozen? ⟨b, 1, none⟩ = false ∧ v.frozen? ⟨b, 2, none⟩ = false ∧ v.frozen? ⟨b, 3, none⟩ = false ∧ v.frozen? ⟨b, 4, none⟩ = false ∧ v.frozen? ⟨b, 5, none⟩ = false ∧ v.frozen? ⟨b, 6, none⟩ = false ∧ v.frozen? ⟨b, 7, none⟩ = false ∧ v.frozen? ⟨b, 8, none⟩ = false ∧ v.frozen? ⟨b, 9, none⟩ = false ∧ v.frozen? ⟨b, 10, none⟩ = false ∧ v.frozen? ⟨b, 11, none⟩ = false ∧ v.frozen? ⟨b, 12, none⟩ = false ∧ v.frozen? ⟨b, 13, none⟩ = false ∧ v.frozen? ⟨b, 14, none⟩ = false ∧ v.frozen? ⟨b, 15, none⟩ = false ∧ v.frozen? ⟨b, 16, none⟩ = false ∧ v.frozen? ⟨b, 17, none⟩ = false ∧ v.frozen? ⟨b, 18, none⟩ = false ∧ v.frozen? ⟨b, 19, none⟩ = false :=
  ⟨Lib.frozen_of_heap h 0, Lib.frozen_of_heap h 1, Lib.frozen_of_heap h 2, Lib.frozen_of_heap h 3, Lib.frozen_of_heap h 4, Lib.frozen_of_heap h 5, Lib.frozen_of_heap h 6, Lib.frozen_of_heap h 7, Lib.frozen_of_heap h 8, Lib.frozen_of_heap h 9, Lib.frozen_of_heap h 10, Lib.frozen_of_heap h 11, Lib.frozen_of_heap h 12, Lib.frozen_of_heap h 13, Lib.frozen_of_heap h 14, Lib.frozen_of_heap h 15, Lib.frozen_of_heap h 16, Lib.frozen_of_heap h 17, Lib.frozen_of_heap h 18, Lib.frozen_of_heap h 19⟩
theorem put20 {v : World} {b : Nat} {a0 a1 a2 a3 a4 a5 a6 a7 a8 a9 a10 a11 a12 a13 a14 a15 a16 a17 a18 a19 : Value} {t : TypeId} (h : v.heap[b]? = some (.cells #[a0, a1, a2, a3, a4, a5, a6, a7, a8, a9, a10, a11, a12, a13, a14, a15, a16, a17, a18, a19] t (0, 0))) (u0 u1 u2 u3 u4 u5 u6 u7 u8 u9 u10 u11 u12 u13 u14 u15 u16 u17 u18 u19 : Value) :
    ((((((((((((((((((((v.setCell ⟨b, 0, none⟩ u0).setCell ⟨b, 1, none⟩ u1).setCell ⟨b, 2, none⟩ u2).setCell ⟨b, 3, none⟩ u3).setCell ⟨b, 4, none⟩ u4).setCell ⟨b, 5, none⟩ u5).setCell ⟨b, 6, none⟩ u6).setCell ⟨b, 7, none⟩ u7).setCell ⟨b, 8, none⟩ u8).setCell ⟨b, 9, none⟩ u9).setCell ⟨b, 10, none⟩ u10).setCell ⟨b, 11, none⟩ u11).setCell ⟨b, 12, none⟩ u12).setCell ⟨b, 13, none⟩ u13).setCell ⟨b, 14, none⟩ u14).setCell ⟨b, 15, none⟩ u15).setCell ⟨b, 16, none⟩ u16).setCell ⟨b, 17, none⟩ u17).setCell ⟨b, 18, none⟩ u18).setCell ⟨b, 19, none⟩ u19).heap[b]? = some (.cells #[u0, u1, u2, u3, u4, u5, u6, u7, u8, u9, u10, u11, u12, u13, u14, u15, u16, u17, u18, u19] t (0, 0)) := by
  have h0 : (v.setCell ⟨b, 0, none⟩ u0).heap[b]? = some (.cells #[u0, a1, a2, a3, a4, a5, a6, a7, a8, a9, a10, a11, a12, a13, a14, a15, a16, a17, a18, a19] t (0, 0)) := heap_setCell_same _ b 0 _ _ u0 h
  have h1 : ((v.setCell ⟨b, 0, none⟩ u0).setCell ⟨b, 1, none⟩ u1).heap[b]? = some (.cells #[u0, u1, a2, a3, a4, a5, a6, a7, a8, a9, a10, a11, a12, a13, a14, a15, a16, a17, a18, a19] t (0, 0)) := heap_setCell_same _ b 1 _ _ u1 h0
  have h2 : (((v.setCell ⟨b, 0, none⟩ u0).setCell ⟨b, 1, none⟩ u1).setCell ⟨b, 2, none⟩ u2).heap[b]? = some (.cells #[u0, u1, u2, a3, a4, a5, a6, a7, a8, a9, a10, a11, a12, a13, a14, a15, a16, a17, a18, a19] t (0, 0)) := heap_setCell_same _ b 2 _ _ u2 h1
  have h3 : ((((v.setCell ⟨b, 0, none⟩ u0).setCell ⟨b, 1, none⟩ u1).setCell ⟨b, 2, none⟩ u2).setCell ⟨b, 3, none⟩ u3).heap[b]? = some (.cells #[u0, u1, u2, u3, a4, a5, a6, a7, a8, a9, a10, a11, a12, a13, a14, a15, a16, a17, a18, a19] t (0, 0)) := heap_setCell_same _ b 3 _ _ u3 h2
  have h4 : (((((v.setCell ⟨b, 0, none⟩ u0).setCell ⟨b, 1, none⟩ u1).setCell ⟨b, 2, none⟩ u2).setCell ⟨b, 3, none⟩ u3).setCell ⟨b, 4, none⟩ u4).heap[b]? = some (.cells #[u0, u1, u2, u3, u4, a5, a6, a7, a8, a9, a10, a11, a12, a13, a14, a15, a16, a17, a18, a19] t (0, 0)) := heap_setCell_same _ b 4 _ _ u4 h3
  have h5 : ((((((v.setCell ⟨b, 0, none⟩ u0).setCell ⟨b, 1, none⟩ u1).setCell ⟨b, 2, none⟩ u2).setCell ⟨b, 3, none⟩ u3).setCell ⟨b, 4, none⟩ u4).setCell ⟨b, 5, none⟩ u5).heap[b]? = some (.cells #[u0, u1, u2, u3, u4, u5, a6, a7, a8, a9, a10, a11, a12, a13, a14, a15, a16, a17, a18, a19] t (0, 0)) := heap_setCell_same _ b 5 _ _ u5 h4
  have h6 : (((((((v.setCell ⟨b, 0, none⟩ u0).setCell ⟨b, 1, none⟩ u1).setCell ⟨b, 2, none⟩ u2).setCell ⟨b, 3, none⟩ u3).setCell ⟨b, 4, none⟩ u4).setCell ⟨b, 5, none⟩ u5).setCell ⟨b, 6, none⟩ u6).heap[b]? = some (.cells #[u0, u1, u2, u3, u4, u5, u6, a7, a8, a9, a10, a11, a12, a13, a14, a15, a16, a17, a18, a19] t (0, 0)) := heap_setCell_same _ b 6 _ _ u6 h5
  have h7 : ((((((((v.setCell ⟨b, 0, none⟩ u0).setCell ⟨b, 1, none⟩ u1).setCell ⟨b, 2, none⟩ u2).setCell ⟨b, 3, none⟩ u3).setCell ⟨b, 4, none⟩ u4).setCell ⟨b, 5, none⟩ u5).setCell ⟨b, 6, none⟩ u6).setCell ⟨b, 7, none⟩ u7).heap[b]? = some (.cells #[u0, u1, u2, u3, u4, u5, u6, u7, a8, a9, a10, a11, a12, a13, a14, a15, a16, a17, a18, a19] t (0, 0)) := heap_setCell_same _ b 7 _ _ u7 h6
  have h8 : (((((((((v.setCell ⟨b, 0, none⟩ u0).setCell ⟨b, 1, none⟩ u1).setCell ⟨b, 2, none⟩ u2).setCell ⟨b, 3, none⟩ u3).setCell ⟨b, 4, none⟩ u4).setCell ⟨b, 5, none⟩ u5).setCell ⟨b, 6, none⟩ u6).setCell ⟨b, 7, none⟩ u7).setCell ⟨b, 8, none⟩ u8).heap[b]? = some (.cells #[u0, u1, u2, u3, u4, u5, u6, u7, u8, a9, a10, a11, a12, a13, a14, a15, a16, a17, a18, a19] t (0, 0)) := heap_setCell_same _ b 8 _ _ u8 h7
  have h9 : ((((((((((v.setCell ⟨b, 0, none⟩ u0).setCell ⟨b, 1, none⟩ u1).setCell ⟨b, 2, none⟩ u2).setCell ⟨b, 3, none⟩ u3).setCell ⟨b, 4, none⟩ u4).setCell ⟨b, 5, none⟩ u5).setCell ⟨b, 6, none⟩ u6).setCell ⟨b, 7, none⟩ u7).setCell ⟨b, 8, none⟩ u8).setCell ⟨b, 9, none⟩ u9).heap[b]? = some (.cells #[u0, u1, u2, u3, u4, u5, u6, u7, u8, u9, a10, a11, a12, a13, a14, a15, a16, a17, a18, a19] t (0, 0)) := heap_setCell_same _ b 9 _ _ u9 h8
  have h10 : (((((((((((v.setCell ⟨b, 0, none⟩ u0).setCell ⟨b, 1, none⟩ u1).setCell ⟨b, 2, none⟩ u2).setCell ⟨b, 3, none⟩ u3).setCell ⟨b, 4, none⟩ u4).setCell ⟨b, 5, none⟩ u5).setCell ⟨b, 6, none⟩ u6).setCell ⟨b, 7, none⟩ u7).setCell ⟨b, 8, none⟩ u8).setCell ⟨b, 9, none⟩ u9).setCell ⟨b, 10, none⟩ u10).heap[b]? = some (.cells #[u0, u1, u2, u3, u4, u5, u6, u7, u8, u9, u10, a11, a12, a13, a14, a15, a16, a17, a18, a19] t (0, 0)) := heap_setCell_same _ b 10 _ _ u10 h9
  have h11 : ((((((((((((v.setCell ⟨b, 0, none⟩ u0).setCell ⟨b, 1, none⟩ u1).setCell ⟨b, 2, none⟩ u2).setCell ⟨b, 3, none⟩ u3).setCell ⟨b, 4, none⟩ u4).setCell ⟨b, 5, none⟩ u5).setCell ⟨b, 6, none⟩ u6).setCell ⟨b, 7, none⟩ u7).setCell ⟨b, 8, none⟩ u8).setCell ⟨b, 9, none⟩ u9).setCell ⟨b, 10, none⟩ u10).setCell ⟨b, 11, none⟩ u11).heap[b]? = some (.cells #[u0, u1, u2, u3, u4, u5, u6, u7, u8, u9, u10, u11, a12, a13, a14, a15, a16, a17, a18, a19] t (0, 0)) := heap_setCell_same _ b 11 _ _ u11 h10
  have h12 : (((((((((((((v.setCell ⟨b, 0, none⟩ u0).setCell ⟨b, 1, none⟩ u1).setCell ⟨b, 2, none⟩ u2).setCell ⟨b, 3, none⟩ u3).setCell ⟨b, 4, none⟩ u4).setCell ⟨b, 5, none⟩ u5).setCell ⟨b, 6, none⟩ u6).setCell ⟨b, 7, none⟩ u7).setCell ⟨b, 8, none⟩ u8).setCell ⟨b, 9, none⟩ u9).setCell ⟨b, 10, none⟩ u10).setCell ⟨b, 11, none⟩ u11).setCell ⟨b, 12, none⟩ u12).heap[b]? = some (.cells #[u0, u1, u2, u3, u4, u5, u6, u7, u8, u9, u10, u11, u12, a13, a14, a15, a16, a17, a18, a19] t (0, 0)) := heap_setCell_same _ b 12 _ _ u12 h11
  have h13 : ((((((((((((((v.setCell ⟨b, 0, none⟩ u0).setCell ⟨b, 1, none⟩ u1).setCell ⟨b, 2, none⟩ u2).setCell ⟨b, 3, none⟩ u3).setCell ⟨b, 4, none⟩ u4).setCell ⟨b, 5, none⟩ u5).setCell ⟨b, 6, none⟩ u6).setCell ⟨b, 7, none⟩ u7).setCell ⟨b, 8, none⟩ u8).setCell ⟨b, 9, none⟩ u9).setCell ⟨b, 10, none⟩ u10).setCell ⟨b, 11, none⟩ u11).setCell ⟨b, 12, none⟩ u12).setCell ⟨b, 13, none⟩ u13).heap[b]? = some (.cells #[u0, u1, u2, u3, u4, u5, u6, u7, u8, u9, u10, u11, u12, u13, a14, a15, a16, a17, a18, a19] t (0, 0)) := heap_setCell_same _ b 13 _ _ u13 h12
  have h14 : (((((((((((((((v.setCell ⟨b, 0, none⟩ u0).setCell ⟨b, 1, none⟩ u1).setCell ⟨b, 2, none⟩ u2).setCell ⟨b, 3, none⟩ u3).setCell ⟨b, 4, none⟩ u4).setCell ⟨b, 5, none⟩ u5).setCell ⟨b, 6, none⟩ u6).setCell ⟨b, 7, none⟩ u7).setCell ⟨b, 8, none⟩ u8).setCell ⟨b, 9, none⟩ u9).setCell ⟨b, 10, none⟩ u10).setCell ⟨b, 11, none⟩ u11).setCell ⟨b, 12, none⟩ u12).setCell ⟨b, 13, none⟩ u13).setCell ⟨b, 14, none⟩ u14).heap[b]? = some (.cells #[u0, u1, u2, u3, u4, u5, u6, u7, u8, u9, u10, u11, u12, u13, u14, a15, a16, a17, a18, a19] t (0, 0)) := heap_setCell_same _ b 14 _ _ u14 h13
  have h15 : ((((((((((((((((v.setCell ⟨b, 0, none⟩ u0).setCell ⟨b, 1, none⟩ u1).setCell ⟨b, 2, none⟩ u2).setCell ⟨b, 3, none⟩ u3).setCell ⟨b, 4, none⟩ u4).setCell ⟨b, 5, none⟩ u5).setCell ⟨b, 6, none⟩ u6).setCell ⟨b, 7, none⟩ u7).setCell ⟨b, 8, none⟩ u8).setCell ⟨b, 9, none⟩ u9).setCell ⟨b, 10, none⟩ u10).setCell ⟨b, 11, none⟩ u11).setCell ⟨b, 12, none⟩ u12).setCell ⟨b, 13, none⟩ u13).setCell ⟨b, 14, none⟩ u14).setCell ⟨b, 15, none⟩ u15).heap[b]? = some (.cells #[u0, u1, u2, u3, u4, u5, u6, u7, u8, u9, u10, u11, u12, u13, u14, u15, a16, a17, a18, a19] t (0, 0)) := heap_setCell_same _ b 15 _ _ u15 h14
  have h16 : (((((((((((((((((v.setCell ⟨b, 0, none⟩ u0).setCell ⟨b, 1, none⟩ u1).setCell ⟨b, 2, none⟩ u2).setCell ⟨b, 3, none⟩ u3).setCell ⟨b, 4, none⟩ u4).setCell ⟨b, 5, none⟩ u5).setCell ⟨b, 6, none⟩ u6).setCell ⟨b, 7, none⟩ u7).setCell ⟨b, 8, none⟩ u8).setCell ⟨b, 9, none⟩ u9).setCell ⟨b, 10, none⟩ u10).setCell ⟨b, 11, none⟩ u11).setCell ⟨b, 12, none⟩ u12).setCell ⟨b, 13, none⟩ u13).setCell ⟨b, 14, none⟩ u14).setCell ⟨b, 15, none⟩ u15).setCell ⟨b, 16, none⟩ u16).heap[b]? = some (.cells #[u0, u1, u2, u3, u4, u5, u6, u7, u8, u9, u10, u11, u12, u13, u14, u15, u16, a17, a18, a19] t (0, 0)) := heap_setCell_same _ b 16 _ _ u16 h15
  have h17 : ((((((((((((((((((v.setCell ⟨b, 0, none⟩ u0).setCell ⟨b, 1, none⟩ u1).setCell ⟨b, 2, none⟩ u2).setCell ⟨b, 3, none⟩ u3).setCell ⟨b, 4, none⟩ u4).setCell ⟨b, 5, none⟩ u5).setCell ⟨b, 6, none⟩ u6).setCell ⟨b, 7, none⟩ u7).setCell ⟨b, 8, none⟩ u8).setCell ⟨b, 9, none⟩ u9).setCell ⟨b, 10, none⟩ u10).setCell ⟨b, 11, none⟩ u11).setCell ⟨b, 12, none⟩ u12).setCell ⟨b, 13, none⟩ u13).setCell ⟨b, 14, none⟩ u14).setCell ⟨b, 15, none⟩ u15).setCell ⟨b, 16, none⟩ u16).setCell ⟨b, 17, none⟩ u17).heap[b]? = some (.cells #[u0, u1, u2, u3, u4, u5, u6, u7, u8, u9, u10, u11, u12, u13, u14, u15, u16, u17, a18, a19] t (0, 0)) := heap_setCell_same _ b 17 _ _ u17 h16
  have h18 : (((((((((((((((((((v.setCell ⟨b, 0, none⟩ u0).setCell ⟨b, 1, none⟩ u1).setCell ⟨b, 2, none⟩ u2).setCell ⟨b, 3, none⟩ u3).setCell ⟨b, 4, none⟩ u4).setCell ⟨b, 5, none⟩ u5).setCell ⟨b, 6, none⟩ u6).setCell ⟨b, 7, none⟩ u7).setCell ⟨b, 8, none⟩ u8).setCell ⟨b, 9, none⟩ u9).setCell ⟨b, 10, none⟩ u10).setCell ⟨b, 11, none⟩ u11).setCell ⟨b, 12, none⟩ u12).setCell ⟨b, 13, none⟩ u13).setCell ⟨b, 14, none⟩ u14).setCell ⟨b, 15, none⟩ u15).setCell ⟨b, 16, none⟩ u16).setCell ⟨b, 17, none⟩ u17).setCell ⟨b, 18, none⟩ u18).heap[b]? = some (.cells #[u0, u1, u2, u3, u4, u5, u6, u7, u8, u9, u10, u11, u12, u13, u14, u15, u16, u17, u18, a19] t (0, 0)) := heap_setCell_same _ b 18 _ _ u18 h17
  have h19 : ((((((((((((((((((((v.setCell ⟨b, 0, none⟩ u0).setCell ⟨b, 1, none⟩ u1).setCell ⟨b, 2, none⟩ u2).setCell ⟨b, 3, none⟩ u3).setCell ⟨b, 4, none⟩ u4).setCell ⟨b, 5, none⟩ u5).setCell ⟨b, 6, none⟩ u6).setCell ⟨b, 7, none⟩ u7).setCell ⟨b, 8, none⟩ u8).setCell ⟨b, 9, none⟩ u9).setCell ⟨b, 10, none⟩ u10).setCell ⟨b, 11, none⟩ u11).setCell ⟨b, 12, none⟩ u12).setCell ⟨b, 13, none⟩ u13).setCell ⟨b, 14, none⟩ u14).setCell ⟨b, 15, none⟩ u15).setCell ⟨b, 16, none⟩ u16).setCell ⟨b, 17, none⟩ u17).setCell ⟨b, 18, none⟩ u18).setCell ⟨b, 19, none⟩ u19).heap[b]? = some (.cells #[u0, u1, u2, u3, u4, u5, u6, u7, u8, u9, u10, u11, u12, u13, u14, u15, u16, u17, u18, u19] t (0, 0)) := heap_setCell_same _ b 19 _ _ u19 h18
  exact h19
theorem putB20 {B b : Nat} {w v : World} (h : Below B w v) (hb : B ≤ b) (u0 u1 u2 u3 u4 u5 u6 u7 u8 u9 u10 u11 u12 u13 u14 u15 u16 u17 u18 u19 : Value) : Below B w ((((((((((((((((((((v.setCell ⟨b, 0, none⟩ u0).setCell ⟨b, 1, none⟩ u1).setCell ⟨b, 2, none⟩ u2).setCell ⟨b, 3, none⟩ u3).setCell ⟨b, 4, none⟩ u4).setCell ⟨b, 5, none⟩ u5).setCell ⟨b, 6, none⟩ u6).setCell ⟨b, 7, none⟩ u7).setCell ⟨b, 8, none⟩ u8).setCell ⟨b, 9, none⟩ u9).setCell ⟨b, 10, none⟩ u10).setCell ⟨b, 11, none⟩ u11).setCell ⟨b, 12, none⟩ u12).setCell ⟨b, 13, none⟩ u13).setCell ⟨b, 14, none⟩ u14).setCell ⟨b, 15, none⟩ u15).setCell ⟨b, 16, none⟩ u16).setCell ⟨b, 17, none⟩ u17).setCell ⟨b, 18, none⟩ u18).setCell ⟨b, 19, none⟩ u19) :=
  ((((((((((((((((((((h.setCell hb u0).setCell hb u1).setCell hb u2).setCell hb u3).setCell hb u4).setCell hb u5).setCell hb u6).setCell hb u7).setCell hb u8).setCell hb u9).setCell hb u10).setCell hb u11).setCell hb u12).setCell hb u13).setCell hb u14).setCell hb u15).setCell hb u16).setCell hb u17).setCell hb u18).setCell hb u19)
/-- The two boxes of cloneEnv: the copy, and the result. -/
def CE (W : World) (b : Nat) (v1 v2 : Value) (opt : Int) : Prop :=
  W.heap[b]? = some (.cells #[.string ⟨shellName.toArray⟩, v1, v2, .slice none 0 0, .slice none 0 0, .slice none 0 0, .int .i64 opt, .int .i64 0, .int .i64 0, .int .i64 0, .string ⟨#[47]⟩, .int .i64 1, .int .i64 0, .int .i64 0, .bool false] 31 (0, 0)) ∧ W.heap[b + 1]? = some (.cells #[.string ⟨#[]⟩, .slice none 0 0, .slice none 0 0, .slice none 0 0, .slice none 0 0, .slice none 0 0, .int .i64 0, .int .i64 0, .int .i64 0, .int .i64 0, .string ⟨#[]⟩, .int .i64 0, .int .i64 0, .int .i64 0, .bool false] 31 (0, 0))
theorem CE.below {W W' : World} {b : Nat} {v1 v2 : Value} {opt : Int} (h : CE W b v1 v2 opt) (hb : Below W.heap.size W W') : CE W' b v1 v2 opt :=
  ⟨(hb.block _ (Array.getElem?_eq_some_iff.1 h.1).1).trans h.1, (hb.block _ (Array.getElem?_eq_some_iff.1 h.2).1).trans h.2⟩
theorem CE.put1 {W : World} {b : Nat} {v1 v2 : Value} {opt : Int} (h : CE W b v1 v2 opt) (u : Value) : CE (W.setCell ⟨b, 1, none⟩ u) b u v2 opt :=
  ⟨heap_setCell_same _ b 1 _ _ u h.1, by rw [Below.heap_setCell _ _ _ (b + 1) (show b + 1 ≠ b by omega)]; exact h.2⟩
theorem CE.put2 {W : World} {b : Nat} {v1 v2 : Value} {opt : Int} (h : CE W b v1 v2 opt) (u : Value) : CE (W.setCell ⟨b, 2, none⟩ u) b v1 u opt :=
  ⟨heap_setCell_same _ b 2 _ _ u h.1, by rw [Below.heap_setCell _ _ _ (b + 1) (show b + 1 ≠ b by omega)]; exact h.2⟩
theorem CE.put3 {W : World} {b : Nat} {v1 v2 : Value} {opt : Int} (h : CE W b v1 v2 opt) : CE (W.setCell ⟨b, 3, none⟩ (.slice none 0 0)) b v1 v2 opt :=
  ⟨heap_setCell_same _ b 3 _ _ (.slice none 0 0) h.1, by rw [Below.heap_setCell _ _ _ (b + 1) (show b + 1 ≠ b by omega)]; exact h.2⟩
theorem CE.put4 {W : World} {b : Nat} {v1 v2 : Value} {opt : Int} (h : CE W b v1 v2 opt) : CE (W.setCell ⟨b, 4, none⟩ (.slice none 0 0)) b v1 v2 opt :=
  ⟨heap_setCell_same _ b 4 _ _ (.slice none 0 0) h.1, by rw [Below.heap_setCell _ _ _ (b + 1) (show b + 1 ≠ b by omega)]; exact h.2⟩
theorem CE.put5 {W : World} {b : Nat} {v1 v2 : Value} {opt : Int} (h : CE W b v1 v2 opt) : CE (W.setCell ⟨b, 5, none⟩ (.slice none 0 0)) b v1 v2 opt :=
  ⟨heap_setCell_same _ b 5 _ _ (.slice none 0 0) h.1, by rw [Below.heap_setCell _ _ _ (b + 1) (show b + 1 ≠ b by omega)]; exact h.2⟩
def CloneOut (w : World) (vn pn : Nat) (opt : Int) (e : Ending) (w' : World) : Prop := ∃ A1 c1 A2 c2, e = .returned (.agg (envC (.slice A1 vn c1) (.slice A2 pn c2) opt)) ∧ Below w.heap.size w w'
section
variable {w : World} {VA : Option Addr} {vn vc : Nat} {PA : Option Addr} {pn pc : Nat} {opt : Int} {vars : List VR.Var} {ps : List (List UInt8)}
set_option maxHeartbeats 16000000 in
theorem cloneEnv_any (hv : VV w (.slice VA vn vc) vars) (hs : SV w (.slice PA pn pc) ps) (hvl : vars.length ≤ 1000) (hpl : ps.length ≤ 500) :
    Calls Tryz.prog 41 #[.agg (envC (.slice VA vn vc) (.slice PA pn pc) opt)] w (CloneOut w vn pn opt) := by
  obtain ⟨X, hX⟩ : ∃ X, X = (w.alloc (.cells (envC (.slice VA vn vc) (.slice PA pn pc) opt) 31)).alloc (.cells #[.string ⟨#[]⟩, .slice none 0 0, .slice none 0 0, .slice none 0 0, .slice none 0 0, .slice none 0 0, .int .i64 0, .int .i64 0, .int .i64 0, .int .i64 0, .string ⟨#[]⟩, .int .i64 0, .int .i64 0, .int .i64 0, .bool false] 31) := ⟨_, rfl⟩
  have hCX : CE X w.heap.size (.slice VA vn vc) (.slice PA pn pc) opt := by
    rw [hX]
    exact ⟨(Below.heap_alloc _ _ _ (by simp)).trans (al_new w _), al_new' _ _ _ (by simp)⟩
  have HX := Lib.hid hX
  have HCX := Lib.hid hCX
  have HBX := Lib.hid (show Below w.heap.size w X by rw [hX]; exact btr (balloc _ _) (balloc _ _))
  have HCV := Lib.hid (fun Y (hY : Below w.heap.size w Y) => clone_vars VA vn vc vars Y (hv.below hY) hvl)
  have HCS := Lib.hid (fun Y (hY : Below w.heap.size w Y) => clone_strs PA pn pc ps Y (hs.below hY) (by omega))
  have HCA := Lib.hid (fun Y => clone_aliases Y)
  have HCT := Lib.hid (fun Y => clone_traps Y)
  have HCF := Lib.hid (fun Y => clone_funcs Y)
  have hcz := Array.getElem?_eq_some_iff.1 hCX.1
  have hxz := hcz.1
  obtain ⟨c0, c1, c2, c3, c4, c5, c6, c7, c8, c9, c10, c11, c12, c13, c14⟩ := blk15 hCX.1
  clear hX hCX hcz hv hs
  unfold envC at HX ⊢
  go_enter Tryz.func41, Tryz.ntmps41
  go_upto_region 1 with (fail)
  rw [← HX.out]
  go_wp2_with fail
  refine (HCV.out _ HBX.out).mono ?_
  rintro e Y ⟨A1, d1, rfl, -, hY⟩
  have HC1 := Lib.hid (HCX.out.below hY)
  have HB1 := Lib.hid (btr HBX.out hY)
  have f0 := (frz15 HC1.out.1).2.1
  have f1 := (blk15 HC1.out.1).2.1
  have k0 := HC1.out.1
  have zz := (Array.getElem?_eq_some_iff.1 HC1.out.1).1
  clear hY c0 c1 c2 c3 c4 c5 c6 c7 c8 c9 c10 c11 c12 c13 c14 hxz
  obtain ⟨W1, hW1⟩ : ∃ W, W = Y.setCell ⟨w.heap.size, 1, none⟩ (.slice A1 vn d1) := ⟨_, rfl⟩
  have HW1 := Lib.hid hW1
  have HCW1 := Lib.hid (show CE W1 w.heap.size (.slice A1 vn d1) (.slice PA pn pc) opt by rw [hW1]; exact HC1.out.put1 _)
  have HBW1 := Lib.hid (show Below w.heap.size w W1 by rw [hW1]; exact HB1.out.setCell (Nat.le_refl _) _)
  clear hW1
  go_upto_region 2 with (fail)
  rw [← HW1.out]
  clear f0 f1 k0 zz
  obtain ⟨c0, c1, c2, c3, c4, c5, c6, c7, c8, c9, c10, c11, c12, c13, c14⟩ := blk15 HCW1.out.1
  have zz2 := (Array.getElem?_eq_some_iff.1 HCW1.out.1).1
  go_wp2_with fail
  refine (HCS.out _ HBW1.out).mono ?_
  rintro e Y ⟨A2, d2, rfl, -, hY⟩
  have HC2 := Lib.hid (HCW1.out.below hY)
  have HB2 := Lib.hid (btr HBW1.out hY)
  have f0 := (frz15 HC2.out.1).2.2.1
  have f1 := (blk15 HC2.out.1).2.2.1
  have k0 := HC2.out.1
  have zz := (Array.getElem?_eq_some_iff.1 HC2.out.1).1
  clear hY c0 c1 c2 c3 c4 c5 c6 c7 c8 c9 c10 c11 c12 c13 c14 zz2
  obtain ⟨W2, hW2⟩ : ∃ W, W = Y.setCell ⟨w.heap.size, 2, none⟩ (.slice A2 pn d2) := ⟨_, rfl⟩
  have HW2 := Lib.hid hW2
  have HCW2 := Lib.hid (show CE W2 w.heap.size (.slice A1 vn d1) (.slice A2 pn d2) opt by rw [hW2]; exact HC2.out.put2 _)
  have HBW2 := Lib.hid (show Below w.heap.size w W2 by rw [hW2]; exact HB2.out.setCell (Nat.le_refl _) _)
  clear hW2
  go_upto_region 3 with (fail)
  rw [← HW2.out]
  clear f0 f1 k0 zz
  obtain ⟨c0, c1, c2, c3, c4, c5, c6, c7, c8, c9, c10, c11, c12, c13, c14⟩ := blk15 HCW2.out.1
  have zz2 := (Array.getElem?_eq_some_iff.1 HCW2.out.1).1
  go_wp2_with fail
  refine (HCA.out _).mono ?_
  rintro e Y ⟨rfl, hyw⟩
  have hY : Below W2.heap.size W2 Y := by rw [hyw]; exact Below.refl _ _
  clear hyw
  have HC3 := Lib.hid (HCW2.out.below hY)
  have HB3 := Lib.hid (btr HBW2.out hY)
  have f0 := (frz15 HC3.out.1).2.2.2.2.1
  have f1 := (blk15 HC3.out.1).2.2.2.2.1
  have k0 := HC3.out.1
  have zz := (Array.getElem?_eq_some_iff.1 HC3.out.1).1
  clear hY c0 c1 c2 c3 c4 c5 c6 c7 c8 c9 c10 c11 c12 c13 c14 zz2
  obtain ⟨W3, hW3⟩ : ∃ W, W = Y.setCell ⟨w.heap.size, 4, none⟩ (.slice none 0 0) := ⟨_, rfl⟩
  have HW3 := Lib.hid hW3
  have HCW3 := Lib.hid (show CE W3 w.heap.size (.slice A1 vn d1) (.slice A2 pn d2) opt by rw [hW3]; exact HC3.out.put4 )
  have HBW3 := Lib.hid (show Below w.heap.size w W3 by rw [hW3]; exact HB3.out.setCell (Nat.le_refl _) _)
  clear hW3
  go_upto_region 4 with (fail)
  rw [← HW3.out]
  clear f0 f1 k0 zz
  obtain ⟨c0, c1, c2, c3, c4, c5, c6, c7, c8, c9, c10, c11, c12, c13, c14⟩ := blk15 HCW3.out.1
  have zz2 := (Array.getElem?_eq_some_iff.1 HCW3.out.1).1
  go_wp2_with fail
  refine (HCT.out _).mono ?_
  rintro e Y ⟨rfl, hyw⟩
  have hY : Below W3.heap.size W3 Y := by rw [hyw]; exact Below.refl _ _
  clear hyw
  have HC4 := Lib.hid (HCW3.out.below hY)
  have HB4 := Lib.hid (btr HBW3.out hY)
  have f0 := (frz15 HC4.out.1).2.2.2.2.2.1
  have f1 := (blk15 HC4.out.1).2.2.2.2.2.1
  have k0 := HC4.out.1
  have zz := (Array.getElem?_eq_some_iff.1 HC4.out.1).1
  clear hY c0 c1 c2 c3 c4 c5 c6 c7 c8 c9 c10 c11 c12 c13 c14 zz2
  obtain ⟨W4, hW4⟩ : ∃ W, W = Y.setCell ⟨w.heap.size, 5, none⟩ (.slice none 0 0) := ⟨_, rfl⟩
  have HW4 := Lib.hid hW4
  have HCW4 := Lib.hid (show CE W4 w.heap.size (.slice A1 vn d1) (.slice A2 pn d2) opt by rw [hW4]; exact HC4.out.put5 )
  have HBW4 := Lib.hid (show Below w.heap.size w W4 by rw [hW4]; exact HB4.out.setCell (Nat.le_refl _) _)
  clear hW4
  go_upto_region 5 with (fail)
  rw [← HW4.out]
  clear f0 f1 k0 zz
  obtain ⟨c0, c1, c2, c3, c4, c5, c6, c7, c8, c9, c10, c11, c12, c13, c14⟩ := blk15 HCW4.out.1
  have zz2 := (Array.getElem?_eq_some_iff.1 HCW4.out.1).1
  go_wp2_with fail
  refine (HCF.out _).mono ?_
  rintro e Y ⟨rfl, hyw⟩
  have hY : Below W4.heap.size W4 Y := by rw [hyw]; exact Below.refl _ _
  clear hyw
  have HC5 := Lib.hid (HCW4.out.below hY)
  have HB5 := Lib.hid (btr HBW4.out hY)
  have f0 := (frz15 HC5.out.1).2.2.2.1
  have f1 := (blk15 HC5.out.1).2.2.2.1
  have k0 := HC5.out.1
  have zz := (Array.getElem?_eq_some_iff.1 HC5.out.1).1
  clear hY c0 c1 c2 c3 c4 c5 c6 c7 c8 c9 c10 c11 c12 c13 c14 zz2
  obtain ⟨W5, hW5⟩ : ∃ W, W = Y.setCell ⟨w.heap.size, 3, none⟩ (.slice none 0 0) := ⟨_, rfl⟩
  have HW5 := Lib.hid hW5
  have HCW5 := Lib.hid (show CE W5 w.heap.size (.slice A1 vn d1) (.slice A2 pn d2) opt by rw [hW5]; exact HC5.out.put3 )
  have HBW5 := Lib.hid (show Below w.heap.size w W5 by rw [hW5]; exact HB5.out.setCell (Nat.le_refl _) _)
  clear hW5
  go_upto_region 6 with (fail)
  rw [← HW5.out]
  clear f0 f1 k0 zz
  obtain ⟨c0, c1, c2, c3, c4, c5, c6, c7, c8, c9, c10, c11, c12, c13, c14⟩ := blk15 HCW5.out.1
  have zz2 := (Array.getElem?_eq_some_iff.1 HCW5.out.1).1
  go_wp2
  go_loopw [27] (fun i wr => i = .int .i64 0 ∧ Hid (wr = W5)) (fun _ _ => 0)
  case atStart => exact ⟨rfl, Lib.hid rfl⟩
  case round =>
    obtain ⟨rfl, hwr⟩ := hrel
    have hwr := hwr.out
    subst hwr
    obtain ⟨g0, g1, g2, g3, g4, g5, g6, g7, g8, g9, g10, g11, g12, g13, g14⟩ := frz15 HCW5.out.2
    have zz3 := (Array.getElem?_eq_some_iff.1 HCW5.out.2).1
    obtain ⟨r0, r1, r2, r3, r4, r5, r6, r7, r8, r9, r10, r11, r12, r13, r14⟩ := blk15 HCW5.out.2
    go_wp2
    have hput := put15 HCW5.out.2 (.string ⟨shellName.toArray⟩) (.slice A1 vn d1) (.slice A2 pn d2) (.slice none 0 0) (.slice none 0 0) (.slice none 0 0) (.int .i64 opt) (.int .i64 0) (.int .i64 0) (.int .i64 0) (.string ⟨#[47]⟩) (.int .i64 1) (.int .i64 0) (.int .i64 0) (.bool false)
    have hbel := putB15 HBW5.out (Nat.le_succ _) (.string ⟨shellName.toArray⟩) (.slice A1 vn d1) (.slice A2 pn d2) (.slice none 0 0) (.slice none 0 0) (.slice none 0 0) (.int .i64 opt) (.int .i64 0) (.int .i64 0) (.int .i64 0) (.string ⟨#[47]⟩) (.int .i64 1) (.int .i64 0) (.int .i64 0) (.bool false)
    obtain ⟨W, hW⟩ : ∃ W, W = (((((((((((((((wr.setCell ⟨w.heap.size + 1, 0, none⟩ (.string ⟨shellName.toArray⟩)).setCell ⟨w.heap.size + 1, 1, none⟩ (.slice A1 vn d1)).setCell ⟨w.heap.size + 1, 2, none⟩ (.slice A2 pn d2)).setCell ⟨w.heap.size + 1, 3, none⟩ (.slice none 0 0)).setCell ⟨w.heap.size + 1, 4, none⟩ (.slice none 0 0)).setCell ⟨w.heap.size + 1, 5, none⟩ (.slice none 0 0)).setCell ⟨w.heap.size + 1, 6, none⟩ (.int .i64 opt)).setCell ⟨w.heap.size + 1, 7, none⟩ (.int .i64 0)).setCell ⟨w.heap.size + 1, 8, none⟩ (.int .i64 0)).setCell ⟨w.heap.size + 1, 9, none⟩ (.int .i64 0)).setCell ⟨w.heap.size + 1, 10, none⟩ (.string ⟨#[47]⟩)).setCell ⟨w.heap.size + 1, 11, none⟩ (.int .i64 1)).setCell ⟨w.heap.size + 1, 12, none⟩ (.int .i64 0)).setCell ⟨w.heap.size + 1, 13, none⟩ (.int .i64 0)).setCell ⟨w.heap.size + 1, 14, none⟩ (.bool false)) := ⟨_, rfl⟩
    rw [← hW] at hput hbel ⊢
    obtain ⟨q0, q1, q2, q3, q4, q5, q6, q7, q8, q9, q10, q11, q12, q13, q14⟩ := blk15 hput
    clear hW hput g0 g1 g2 g3 g4 g5 g6 g7 g8 g9 g10 g11 g12 g13 g14 r0 r1 r2 r3 r4 r5 r6 r7 r8 r9 r10 r11 r12 r13 r14 c0 c1 c2 c3 c4 c5 c6 c7 c8 c9 c10 c11 c12 c13 c14
    exact bodyPost_ret (v := .agg #[.string ⟨shellName.toArray⟩, .slice A1 vn d1, .slice A2 pn d2, .slice none 0 0, .slice none 0 0, .slice none 0 0, .int .i64 opt, .int .i64 0, .int .i64 0, .int .i64 0, .string ⟨#[47]⟩, .int .i64 1, .int .i64 0, .int .i64 0, .bool false]) (by simp [results, Tryz.results41, go_sem, q0, q1, q2, q3, q4, q5, q6, q7, q8, q9, q10, q11, q12, q13, q14]) rfl ⟨_, _, _, _, rfl, hbel⟩
end
end W
end Go.Proofs.YtkceenmlhfkkhaaGreatDoor
