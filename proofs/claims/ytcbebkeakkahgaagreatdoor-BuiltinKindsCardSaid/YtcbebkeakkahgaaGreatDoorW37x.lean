/- Built-in commands: the reference's Same at two zero environments. -/
import Derived.Test.YtcbebkeakkahgaaGreatDoorW37w
import Derived.Laws.StructEq
namespace Go.Proofs.YtcbebkeakkahgaaGreatDoor
open Go.RowKit K
namespace W
set_option maxRecDepth 100000
set_option maxHeartbeats 8000000 in
theorem sameEnv_zero (w : World) : Calls Tryz.prog 15 #[.agg #[.string ⟨#[]⟩, .slice none 0 0, .slice none 0 0, .slice none 0 0, .slice none 0 0, .slice none 0 0, .int .i64 0, .int .i64 0, .int .i64 0, .int .i64 0, .string ⟨#[]⟩, .int .i64 0, .int .i64 0, .int .i64 0, .bool false], .agg #[.string ⟨#[]⟩, .slice none 0 0, .slice none 0 0, .slice none 0 0, .slice none 0 0, .slice none 0 0, .int .i64 0, .int .i64 0, .int .i64 0, .int .i64 0, .string ⟨#[]⟩, .int .i64 0, .int .i64 0, .int .i64 0, .bool false]] w fun e w' => e = .returned (.bool true) ∧ Below w.heap.size w w' := by
  obtain ⟨X, hX⟩ : ∃ X, X = (w.alloc (.cells #[.string ⟨#[]⟩, .slice none 0 0, .slice none 0 0, .slice none 0 0, .slice none 0 0, .slice none 0 0, .int .i64 0, .int .i64 0, .int .i64 0, .int .i64 0, .string ⟨#[]⟩, .int .i64 0, .int .i64 0, .int .i64 0, .bool false] 31)).alloc (.cells #[.string ⟨#[]⟩, .slice none 0 0, .slice none 0 0, .slice none 0 0, .slice none 0 0, .slice none 0 0, .int .i64 0, .int .i64 0, .int .i64 0, .int .i64 0, .string ⟨#[]⟩, .int .i64 0, .int .i64 0, .int .i64 0, .bool false] 31) := ⟨_, rfl⟩
  have HX := Lib.hid hX
  have HB := Lib.hid (show Below w.heap.size w X by rw [hX]; exact btr (balloc _ _) (balloc _ _))
  have hx0 : X.heap[w.heap.size]? = some (.cells #[.string ⟨#[]⟩, .slice none 0 0, .slice none 0 0, .slice none 0 0, .slice none 0 0, .slice none 0 0, .int .i64 0, .int .i64 0, .int .i64 0, .int .i64 0, .string ⟨#[]⟩, .int .i64 0, .int .i64 0, .int .i64 0, .bool false] 31 (0, 0)) := by rw [hX, (balloc _ _).block _ (by simp)]; exact al_new w _
  have hx1 : X.heap[w.heap.size + 1]? = some (.cells #[.string ⟨#[]⟩, .slice none 0 0, .slice none 0 0, .slice none 0 0, .slice none 0 0, .slice none 0 0, .int .i64 0, .int .i64 0, .int .i64 0, .int .i64 0, .string ⟨#[]⟩, .int .i64 0, .int .i64 0, .int .i64 0, .bool false] 31 (0, 0)) := by rw [hX]; exact al_new' _ _ _ (by simp)
  have e0 : X.cell? ⟨w.heap.size, 0, none⟩ = some (.string ⟨#[]⟩) := Lib.cell_of_heap hx0 0
  have f0 : X.cell? ⟨w.heap.size + 1, 0, none⟩ = some (.string ⟨#[]⟩) := Lib.cell_of_heap hx1 0
  have e1 : X.cell? ⟨w.heap.size, 1, none⟩ = some (.slice none 0 0) := Lib.cell_of_heap hx0 1
  have f1 : X.cell? ⟨w.heap.size + 1, 1, none⟩ = some (.slice none 0 0) := Lib.cell_of_heap hx1 1
  have e2 : X.cell? ⟨w.heap.size, 2, none⟩ = some (.slice none 0 0) := Lib.cell_of_heap hx0 2
  have f2 : X.cell? ⟨w.heap.size + 1, 2, none⟩ = some (.slice none 0 0) := Lib.cell_of_heap hx1 2
  have e3 : X.cell? ⟨w.heap.size, 3, none⟩ = some (.slice none 0 0) := Lib.cell_of_heap hx0 3
  have f3 : X.cell? ⟨w.heap.size + 1, 3, none⟩ = some (.slice none 0 0) := Lib.cell_of_heap hx1 3
  have e4 : X.cell? ⟨w.heap.size, 4, none⟩ = some (.slice none 0 0) := Lib.cell_of_heap hx0 4
  have f4 : X.cell? ⟨w.heap.size + 1, 4, none⟩ = some (.slice none 0 0) := Lib.cell_of_heap hx1 4
  have e5 : X.cell? ⟨w.heap.size, 5, none⟩ = some (.slice none 0 0) := Lib.cell_of_heap hx0 5
  have f5 : X.cell? ⟨w.heap.size + 1, 5, none⟩ = some (.slice none 0 0) := Lib.cell_of_heap hx1 5
  have e6 : X.cell? ⟨w.heap.size, 6, none⟩ = some (.int .i64 0) := Lib.cell_of_heap hx0 6
  have f6 : X.cell? ⟨w.heap.size + 1, 6, none⟩ = some (.int .i64 0) := Lib.cell_of_heap hx1 6
  have e7 : X.cell? ⟨w.heap.size, 7, none⟩ = some (.int .i64 0) := Lib.cell_of_heap hx0 7
  have f7 : X.cell? ⟨w.heap.size + 1, 7, none⟩ = some (.int .i64 0) := Lib.cell_of_heap hx1 7
  have e8 : X.cell? ⟨w.heap.size, 8, none⟩ = some (.int .i64 0) := Lib.cell_of_heap hx0 8
  have f8 : X.cell? ⟨w.heap.size + 1, 8, none⟩ = some (.int .i64 0) := Lib.cell_of_heap hx1 8
  have e9 : X.cell? ⟨w.heap.size, 9, none⟩ = some (.int .i64 0) := Lib.cell_of_heap hx0 9
  have f9 : X.cell? ⟨w.heap.size + 1, 9, none⟩ = some (.int .i64 0) := Lib.cell_of_heap hx1 9
  have e10 : X.cell? ⟨w.heap.size, 10, none⟩ = some (.string ⟨#[]⟩) := Lib.cell_of_heap hx0 10
  have f10 : X.cell? ⟨w.heap.size + 1, 10, none⟩ = some (.string ⟨#[]⟩) := Lib.cell_of_heap hx1 10
  have e11 : X.cell? ⟨w.heap.size, 11, none⟩ = some (.int .i64 0) := Lib.cell_of_heap hx0 11
  have f11 : X.cell? ⟨w.heap.size + 1, 11, none⟩ = some (.int .i64 0) := Lib.cell_of_heap hx1 11
  have e12 : X.cell? ⟨w.heap.size, 12, none⟩ = some (.int .i64 0) := Lib.cell_of_heap hx0 12
  have f12 : X.cell? ⟨w.heap.size + 1, 12, none⟩ = some (.int .i64 0) := Lib.cell_of_heap hx1 12
  have e13 : X.cell? ⟨w.heap.size, 13, none⟩ = some (.int .i64 0) := Lib.cell_of_heap hx0 13
  have f13 : X.cell? ⟨w.heap.size + 1, 13, none⟩ = some (.int .i64 0) := Lib.cell_of_heap hx1 13
  have e14 : X.cell? ⟨w.heap.size, 14, none⟩ = some (.bool false) := Lib.cell_of_heap hx0 14
  have f14 : X.cell? ⟨w.heap.size + 1, 14, none⟩ = some (.bool false) := Lib.cell_of_heap hx1 14
  have h15 := Lib.hid (same15_nil X)
  have h03 := Lib.hid (sameTexts_nil X)
  have hfu := Lib.hid (sameFuncs_nil X)
  have h09 := Lib.hid (same09_nil X)
  have htr := Lib.hid (sameTraps_nil X)
  clear hX hx0 hx1
  go_enter Tryz.func15, Tryz.ntmps15
  go_upto_region 1 with (fail)
  rw [← HX.out]
  go_wp2_with fail
  refine h15.out.mono ?_
  rintro e Y ⟨rfl, hY⟩
  obtain rfl : X = Y := hY.symm
  go_wp2_with fail
  refine h03.out.mono ?_
  rintro e Y ⟨rfl, hY⟩
  obtain rfl : X = Y := hY.symm
  go_wp2_with fail
  refine hfu.out.mono ?_
  rintro e Y ⟨rfl, hY⟩
  obtain rfl : X = Y := hY.symm
  go_wp2_with fail
  refine h09.out.mono ?_
  rintro e Y ⟨rfl, hY⟩
  obtain rfl : X = Y := hY.symm
  go_wp2_with fail
  refine htr.out.mono ?_
  rintro e Y ⟨rfl, hY⟩
  obtain rfl : X = Y := hY.symm
  go_wp2_with fail
  go_ret
  exact ⟨rfl, HB.out⟩
set_option maxHeartbeats 8000000 in
theorem sameResult_zero (w : World) : Calls Tryz.prog 11 #[.agg #[.string ⟨#[]⟩, .slice none 0 0, .slice none 0 0, .slice none 0 0, .slice none 0 0, .slice none 0 0, .int .i64 0, .int .i64 0, .int .i64 0, .int .i64 0, .string ⟨#[]⟩, .int .i64 0, .int .i64 0, .int .i64 0, .bool false, .string ⟨#[]⟩, .string ⟨#[]⟩, .int .i64 0, .int .i64 0, .int .i64 0, .string ⟨#[]⟩, .slice none 0 0], .agg #[.string ⟨#[]⟩, .slice none 0 0, .slice none 0 0, .slice none 0 0, .slice none 0 0, .slice none 0 0, .int .i64 0, .int .i64 0, .int .i64 0, .int .i64 0, .string ⟨#[]⟩, .int .i64 0, .int .i64 0, .int .i64 0, .bool false, .string ⟨#[]⟩, .string ⟨#[]⟩, .int .i64 0, .int .i64 0, .int .i64 0, .string ⟨#[]⟩, .slice none 0 0]] w fun e w' => e = .returned (.bool true) ∧ Below w.heap.size w w' := by
  obtain ⟨X, hX⟩ : ∃ X, X = (w.alloc (.cells #[.string ⟨#[]⟩, .slice none 0 0, .slice none 0 0, .slice none 0 0, .slice none 0 0, .slice none 0 0, .int .i64 0, .int .i64 0, .int .i64 0, .int .i64 0, .string ⟨#[]⟩, .int .i64 0, .int .i64 0, .int .i64 0, .bool false, .string ⟨#[]⟩, .string ⟨#[]⟩, .int .i64 0, .int .i64 0, .int .i64 0, .string ⟨#[]⟩, .slice none 0 0] 33)).alloc (.cells #[.string ⟨#[]⟩, .slice none 0 0, .slice none 0 0, .slice none 0 0, .slice none 0 0, .slice none 0 0, .int .i64 0, .int .i64 0, .int .i64 0, .int .i64 0, .string ⟨#[]⟩, .int .i64 0, .int .i64 0, .int .i64 0, .bool false, .string ⟨#[]⟩, .string ⟨#[]⟩, .int .i64 0, .int .i64 0, .int .i64 0, .string ⟨#[]⟩, .slice none 0 0] 33) := ⟨_, rfl⟩
  have HX := Lib.hid hX
  have HB := Lib.hid (show Below w.heap.size w X by rw [hX]; exact btr (balloc _ _) (balloc _ _))
  have hx0 : X.heap[w.heap.size]? = some (.cells #[.string ⟨#[]⟩, .slice none 0 0, .slice none 0 0, .slice none 0 0, .slice none 0 0, .slice none 0 0, .int .i64 0, .int .i64 0, .int .i64 0, .int .i64 0, .string ⟨#[]⟩, .int .i64 0, .int .i64 0, .int .i64 0, .bool false, .string ⟨#[]⟩, .string ⟨#[]⟩, .int .i64 0, .int .i64 0, .int .i64 0, .string ⟨#[]⟩, .slice none 0 0] 33 (0, 0)) := by rw [hX, (balloc _ _).block _ (by simp)]; exact al_new w _
  have hx1 : X.heap[w.heap.size + 1]? = some (.cells #[.string ⟨#[]⟩, .slice none 0 0, .slice none 0 0, .slice none 0 0, .slice none 0 0, .slice none 0 0, .int .i64 0, .int .i64 0, .int .i64 0, .int .i64 0, .string ⟨#[]⟩, .int .i64 0, .int .i64 0, .int .i64 0, .bool false, .string ⟨#[]⟩, .string ⟨#[]⟩, .int .i64 0, .int .i64 0, .int .i64 0, .string ⟨#[]⟩, .slice none 0 0] 33 (0, 0)) := by rw [hX]; exact al_new' _ _ _ (by simp)
  have hsx : X.heap.size = w.heap.size + 2 := by rw [hX]; simp
  have e0 : X.cell? ⟨w.heap.size, 0, none⟩ = some (.string ⟨#[]⟩) := Lib.cell_of_heap hx0 0
  have f0 : X.cell? ⟨w.heap.size + 1, 0, none⟩ = some (.string ⟨#[]⟩) := Lib.cell_of_heap hx1 0
  have e1 : X.cell? ⟨w.heap.size, 1, none⟩ = some (.slice none 0 0) := Lib.cell_of_heap hx0 1
  have f1 : X.cell? ⟨w.heap.size + 1, 1, none⟩ = some (.slice none 0 0) := Lib.cell_of_heap hx1 1
  have e2 : X.cell? ⟨w.heap.size, 2, none⟩ = some (.slice none 0 0) := Lib.cell_of_heap hx0 2
  have f2 : X.cell? ⟨w.heap.size + 1, 2, none⟩ = some (.slice none 0 0) := Lib.cell_of_heap hx1 2
  have e3 : X.cell? ⟨w.heap.size, 3, none⟩ = some (.slice none 0 0) := Lib.cell_of_heap hx0 3
  have f3 : X.cell? ⟨w.heap.size + 1, 3, none⟩ = some (.slice none 0 0) := Lib.cell_of_heap hx1 3
  have e4 : X.cell? ⟨w.heap.size, 4, none⟩ = some (.slice none 0 0) := Lib.cell_of_heap hx0 4
  have f4 : X.cell? ⟨w.heap.size + 1, 4, none⟩ = some (.slice none 0 0) := Lib.cell_of_heap hx1 4
  have e5 : X.cell? ⟨w.heap.size, 5, none⟩ = some (.slice none 0 0) := Lib.cell_of_heap hx0 5
  have f5 : X.cell? ⟨w.heap.size + 1, 5, none⟩ = some (.slice none 0 0) := Lib.cell_of_heap hx1 5
  have e6 : X.cell? ⟨w.heap.size, 6, none⟩ = some (.int .i64 0) := Lib.cell_of_heap hx0 6
  have f6 : X.cell? ⟨w.heap.size + 1, 6, none⟩ = some (.int .i64 0) := Lib.cell_of_heap hx1 6
  have e7 : X.cell? ⟨w.heap.size, 7, none⟩ = some (.int .i64 0) := Lib.cell_of_heap hx0 7
  have f7 : X.cell? ⟨w.heap.size + 1, 7, none⟩ = some (.int .i64 0) := Lib.cell_of_heap hx1 7
  have e8 : X.cell? ⟨w.heap.size, 8, none⟩ = some (.int .i64 0) := Lib.cell_of_heap hx0 8
  have f8 : X.cell? ⟨w.heap.size + 1, 8, none⟩ = some (.int .i64 0) := Lib.cell_of_heap hx1 8
  have e9 : X.cell? ⟨w.heap.size, 9, none⟩ = some (.int .i64 0) := Lib.cell_of_heap hx0 9
  have f9 : X.cell? ⟨w.heap.size + 1, 9, none⟩ = some (.int .i64 0) := Lib.cell_of_heap hx1 9
  have e10 : X.cell? ⟨w.heap.size, 10, none⟩ = some (.string ⟨#[]⟩) := Lib.cell_of_heap hx0 10
  have f10 : X.cell? ⟨w.heap.size + 1, 10, none⟩ = some (.string ⟨#[]⟩) := Lib.cell_of_heap hx1 10
  have e11 : X.cell? ⟨w.heap.size, 11, none⟩ = some (.int .i64 0) := Lib.cell_of_heap hx0 11
  have f11 : X.cell? ⟨w.heap.size + 1, 11, none⟩ = some (.int .i64 0) := Lib.cell_of_heap hx1 11
  have e12 : X.cell? ⟨w.heap.size, 12, none⟩ = some (.int .i64 0) := Lib.cell_of_heap hx0 12
  have f12 : X.cell? ⟨w.heap.size + 1, 12, none⟩ = some (.int .i64 0) := Lib.cell_of_heap hx1 12
  have e13 : X.cell? ⟨w.heap.size, 13, none⟩ = some (.int .i64 0) := Lib.cell_of_heap hx0 13
  have f13 : X.cell? ⟨w.heap.size + 1, 13, none⟩ = some (.int .i64 0) := Lib.cell_of_heap hx1 13
  have e14 : X.cell? ⟨w.heap.size, 14, none⟩ = some (.bool false) := Lib.cell_of_heap hx0 14
  have f14 : X.cell? ⟨w.heap.size + 1, 14, none⟩ = some (.bool false) := Lib.cell_of_heap hx1 14
  have e15 : X.cell? ⟨w.heap.size, 15, none⟩ = some (.string ⟨#[]⟩) := Lib.cell_of_heap hx0 15
  have f15 : X.cell? ⟨w.heap.size + 1, 15, none⟩ = some (.string ⟨#[]⟩) := Lib.cell_of_heap hx1 15
  have e16 : X.cell? ⟨w.heap.size, 16, none⟩ = some (.string ⟨#[]⟩) := Lib.cell_of_heap hx0 16
  have f16 : X.cell? ⟨w.heap.size + 1, 16, none⟩ = some (.string ⟨#[]⟩) := Lib.cell_of_heap hx1 16
  have e17 : X.cell? ⟨w.heap.size, 17, none⟩ = some (.int .i64 0) := Lib.cell_of_heap hx0 17
  have f17 : X.cell? ⟨w.heap.size + 1, 17, none⟩ = some (.int .i64 0) := Lib.cell_of_heap hx1 17
  have e18 : X.cell? ⟨w.heap.size, 18, none⟩ = some (.int .i64 0) := Lib.cell_of_heap hx0 18
  have f18 : X.cell? ⟨w.heap.size + 1, 18, none⟩ = some (.int .i64 0) := Lib.cell_of_heap hx1 18
  have e19 : X.cell? ⟨w.heap.size, 19, none⟩ = some (.int .i64 0) := Lib.cell_of_heap hx0 19
  have f19 : X.cell? ⟨w.heap.size + 1, 19, none⟩ = some (.int .i64 0) := Lib.cell_of_heap hx1 19
  have e20 : X.cell? ⟨w.heap.size, 20, none⟩ = some (.string ⟨#[]⟩) := Lib.cell_of_heap hx0 20
  have f20 : X.cell? ⟨w.heap.size + 1, 20, none⟩ = some (.string ⟨#[]⟩) := Lib.cell_of_heap hx1 20
  have e21 : X.cell? ⟨w.heap.size, 21, none⟩ = some (.slice none 0 0) := Lib.cell_of_heap hx0 21
  have f21 : X.cell? ⟨w.heap.size + 1, 21, none⟩ = some (.slice none 0 0) := Lib.cell_of_heap hx1 21
  have HX0 := Lib.hid hx0
  have HX1 := Lib.hid hx1
  have HE := Lib.hid (sameEnv_zero X)
  clear hX hx0 hx1
  go_enter Tryz.func11, Tryz.ntmps11
  go_upto_region 1 with (fail)
  rw [← HX.out]
  go_wp2_with fail
  refine HE.out.mono ?_
  rintro e Y ⟨rfl, hY⟩
  have hy0 := (hY.block w.heap.size (by omega)).trans HX0.out
  have hy1 := (hY.block (w.heap.size + 1) (by omega)).trans HX1.out
  have g15 : Y.cell? ⟨w.heap.size, 15, none⟩ = some (.string ⟨#[]⟩) := Lib.cell_of_heap hy0 15
  have k15 : Y.cell? ⟨w.heap.size + 1, 15, none⟩ = some (.string ⟨#[]⟩) := Lib.cell_of_heap hy1 15
  have g16 : Y.cell? ⟨w.heap.size, 16, none⟩ = some (.string ⟨#[]⟩) := Lib.cell_of_heap hy0 16
  have k16 : Y.cell? ⟨w.heap.size + 1, 16, none⟩ = some (.string ⟨#[]⟩) := Lib.cell_of_heap hy1 16
  have g17 : Y.cell? ⟨w.heap.size, 17, none⟩ = some (.int .i64 0) := Lib.cell_of_heap hy0 17
  have k17 : Y.cell? ⟨w.heap.size + 1, 17, none⟩ = some (.int .i64 0) := Lib.cell_of_heap hy1 17
  have g18 : Y.cell? ⟨w.heap.size, 18, none⟩ = some (.int .i64 0) := Lib.cell_of_heap hy0 18
  have k18 : Y.cell? ⟨w.heap.size + 1, 18, none⟩ = some (.int .i64 0) := Lib.cell_of_heap hy1 18
  have g19 : Y.cell? ⟨w.heap.size, 19, none⟩ = some (.int .i64 0) := Lib.cell_of_heap hy0 19
  have k19 : Y.cell? ⟨w.heap.size + 1, 19, none⟩ = some (.int .i64 0) := Lib.cell_of_heap hy1 19
  have g20 : Y.cell? ⟨w.heap.size, 20, none⟩ = some (.string ⟨#[]⟩) := Lib.cell_of_heap hy0 20
  have k20 : Y.cell? ⟨w.heap.size + 1, 20, none⟩ = some (.string ⟨#[]⟩) := Lib.cell_of_heap hy1 20
  have g21 : Y.cell? ⟨w.heap.size, 21, none⟩ = some (.slice none 0 0) := Lib.cell_of_heap hy0 21
  have k21 : Y.cell? ⟨w.heap.size + 1, 21, none⟩ = some (.slice none 0 0) := Lib.cell_of_heap hy1 21
  have HBY := Lib.hid (btr HB.out hY)
  have h03 := Lib.hid (sameTexts_nil Y)
  clear hY hy0 hy1
  go_wp2_with fail
  refine h03.out.mono ?_
  rintro e Z ⟨rfl, hZ⟩
  obtain rfl : Y = Z := hZ.symm
  go_wp2_with fail
  go_ret
  exact ⟨rfl, HBY.out⟩
end W
end Go.Proofs.YtcbebkeakkahgaaGreatDoor
