/- Chapter 9: pass at an operator. -/
import Derived.Test.YtelhobphphkidaaGreatDoorW09t
namespace Go.Proofs.YtelhobphphkidaaGreatDoor
open Go.RowKit K
namespace W
def opsL : List (List UInt8) := [[59], [38], [38, 38], [124, 124], [124], [40]]
set_option maxRecDepth 100000 in
set_option maxHeartbeats 1000000 in
theorem pass_op (ps st : Nat) (tx : List UInt8) (g : Nat) (s : List UInt8) (at_ : Int) (va vm vb vl : Value) (c str : Bool) (w : World) (he : EB w g s at_ va vm vb c false str vl) :
    Calls Tryz.prog 36 #[.pointer (some ⟨g, 0, none⟩), .agg #[.int .i64 2, .int .i64 ps, .int .i64 st, .string ⟨tx.toArray⟩]] w fun e w' => e = .returned (.tuple #[]) ∧ EB w' g s st va vm vb (AX.opensB tx) (tx == [60, 60] || tx == [60, 60, 45]) (tx == [60, 60, 45]) vl ∧ OneBox g w w' := by
  obtain ⟨b1, hb1⟩ : ∃ b1, (tx == [60, 60]) = b1 := ⟨_, rfl⟩
  obtain ⟨b2, hb2⟩ : ∃ b2, (tx == [60, 60, 45]) = b2 := ⟨_, rfl⟩
  have hgs := he.lt
  obtain ⟨V, hV⟩ : ∃ V, V = w.setCell ⟨g, 1, none⟩ (.int .i64 st) := ⟨_, rfl⟩
  have e1 : EB V g s st va vm vb c false str vl := by rw [hV]; exact he.set1 _
  have hVs : V.heap.size = w.heap.size := by rw [hV]; simp
  have hV1 : OneBox g w V := by rw [hV]; exact (OneBox.refl g w).set 1 _
  obtain ⟨X, hX⟩ : ∃ X, X = V.alloc (.cells #[.int .i64 2, .int .i64 ps, .int .i64 st, .string ⟨tx.toArray⟩] 62) := ⟨_, rfl⟩
  have e2 : EB X g s st va vm vb c false str vl := by rw [hX]; exact e1.new (balloc V _)
  have hX1 : OneBox g w X := by rw [hX]; exact hV1.alloc hgs _
  have hXs : X.heap.size = w.heap.size + 1 := by rw [hX]; simp [hVs]
  have hnX : X.heap[w.heap.size]? = some (.cells #[.int .i64 2, .int .i64 ps, .int .i64 st, .string ⟨tx.toArray⟩] 62 (0, 0)) := by rw [hX, ← hVs]; exact al_new V _
  obtain ⟨Y, hY⟩ : ∃ Y, Y = (X.setCell ⟨g, 6, none⟩ (.bool (b1 || b2))).setCell ⟨g, 7, none⟩ (.bool b2) := ⟨_, rfl⟩
  have e3 : EB Y g s st va vm vb c (b1 || b2) b2 vl := by rw [hY]; exact (e2.set6 _).set7 _
  have hY1 : OneBox g w Y := by rw [hY]; exact (hX1.set 6 _).set 7 _
  have hYs : Y.heap.size = w.heap.size + 1 := by rw [hY]; simp [hXs]
  obtain ⟨Z, hZ⟩ : ∃ Z, Z = Y.alloc (.cells #[.string ⟨#[59]⟩, .string ⟨#[38]⟩, .string ⟨#[38, 38]⟩, .string ⟨#[124, 124]⟩, .string ⟨#[124]⟩, .string ⟨#[40]⟩] 9) := ⟨_, rfl⟩
  have e4 : EB Z g s st va vm vb c (b1 || b2) b2 vl := by rw [hZ]; exact e3.new (balloc Y _)
  have hZ1 : OneBox g w Z := by rw [hZ]; exact hY1.alloc hgs _
  have hnZ : Z.heap[w.heap.size + 1]? = some (.cells #[.string ⟨#[59]⟩, .string ⟨#[38]⟩, .string ⟨#[38, 38]⟩, .string ⟨#[124, 124]⟩, .string ⟨#[124]⟩, .string ⟨#[40]⟩] 9 (0, 0)) := by rw [hZ, ← hYs]; exact al_new Y _
  obtain ⟨-, w1, -, -, -, -, w6, w7, -⟩ := he.cells
  have wf := he.thaw 1
  obtain ⟨-, -, -, -, -, x5, x6, x7, -⟩ := e2.cells
  have f5 := e2.thaw 5
  have f6 := e2.thaw 6
  have f7 := e2.thaw 7
  have t0 : X.cell? ⟨w.heap.size, 0, none⟩ = some (.int .i64 2) := Lib.cell_of_heap hnX 0
  have t3 : X.cell? ⟨w.heap.size, 3, none⟩ = some (.string ⟨tx.toArray⟩) := Lib.cell_of_heap hnX 3
  have HX := Lib.hid (show X = (w.setCell ⟨g, 1, none⟩ (.int .i64 st)).alloc (.cells #[.int .i64 2, .int .i64 ps, .int .i64 st, .string ⟨tx.toArray⟩] 62) by rw [hX, hV])
  have HC := Lib.hid (Contains_str opsL tx (w.heap.size + 1) 6 Z (fun j x hx => by
    match j, hx with
    | 0, h => simp [opsL] at h; subst h; exact Lib.cell_of_heap hnZ 0
    | 1, h => simp [opsL] at h; subst h; exact Lib.cell_of_heap hnZ 1
    | 2, h => simp [opsL] at h; subst h; exact Lib.cell_of_heap hnZ 2
    | 3, h => simp [opsL] at h; subst h; exact Lib.cell_of_heap hnZ 3
    | 4, h => simp [opsL] at h; subst h; exact Lib.cell_of_heap hnZ 4
    | 5, h => simp [opsL] at h; subst h; exact Lib.cell_of_heap hnZ 5
    | n + 6, h => simp [opsL] at h) (by decide))
  have HF := Lib.hid (fun b => show EB (Z.setCell ⟨g, 5, none⟩ (.bool b)) g s st va vm vb b (b1 || b2) b2 vl ∧ OneBox g w (Z.setCell ⟨g, 5, none⟩ (.bool b)) from ⟨e4.set5 b, hZ1.set _ _⟩)
  obtain ⟨-, -, -, -, -, z5, -⟩ := e4.cells
  have zf := e4.thaw 5
  have HZ := Lib.hid (show Z = ((X.setCell ⟨g, 6, none⟩ (.bool (b1 || b2))).setCell ⟨g, 7, none⟩ (.bool b2)).alloc (.cells #[.string ⟨#[59]⟩, .string ⟨#[38]⟩, .string ⟨#[38, 38]⟩, .string ⟨#[124, 124]⟩, .string ⟨#[124]⟩, .string ⟨#[40]⟩] 9) by rw [hZ, hY])
  have hopens : AX.opensB tx = opsL.contains tx := rfl
  rw [hopens, hb1, hb2]
  obtain ⟨bo, hbo⟩ : ∃ bo, opsL.contains tx = bo := ⟨_, rfl⟩
  rw [hbo] at HC ⊢
  clear hbo
  have hgx : g < X.heap.size := by omega
  have hsx : w.heap.size < X.heap.size := by omega
  have hgw : g ≠ w.heap.size := by omega
  clear he e1 hV1 hX hV e2 hX1 hnX hVs e3 hY1 hYs hY hZ hnZ e4 hZ1 hopens
  cases b1
  case false =>
    have HZ2 := HZ.out
    simp only [Bool.false_or] at HZ2
    have HZ3 := Lib.hid HZ2
    clear HZ2 HZ
    go_enter Tryz.func36, Tryz.ntmps36
    go_upto_region 2 with (fail)
    rw [← HX.out]
    go_upto_region 15 with (fail)
    go_wp2_with fail
    rw [← HZ3.out]
    refine HC.out.mono ?_
    rintro e Z1 ⟨rfl, rfl⟩
    go_wp2
    first | go_end0 | refine bodyPost_ret (results_none rfl _ _ _) rfl ?_
    exact ⟨rfl, HF.out _⟩
  case true =>
    have HZ2 := HZ.out
    simp only [Bool.true_or] at HZ2
    have HZ3 := Lib.hid HZ2
    clear HZ2 HZ
    go_enter Tryz.func36, Tryz.ntmps36
    go_upto_region 2 with (fail)
    rw [← HX.out]
    go_upto_region 15 with (fail)
    go_wp2_with fail
    rw [← HZ3.out]
    refine HC.out.mono ?_
    rintro e Z1 ⟨rfl, rfl⟩
    go_wp2
    first | go_end0 | refine bodyPost_ret (results_none rfl _ _ _) rfl ?_
    exact ⟨rfl, HF.out _⟩
end W
end Go.Proofs.YtelhobphphkidaaGreatDoor
