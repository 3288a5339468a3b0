/- Built-in commands: the options' specification. -/
import Derived.Test.YtcbebkeakkahgaaGreatDoorW37l
import Derived.Test.YtcbebkeakkahgaaGreatDoorShelf
namespace Go.Proofs.YtcbebkeakkahgaaGreatDoor
open Go.RowKit K
namespace W
set_option maxRecDepth 100000
theorem isOption_v (w : World) : Calls Tryz.prog 158 #[.int .u8 118] w fun e w' => e = .returned (.bool true) ∧ w' = w := by
  go_enter Tryz.func158, Tryz.ntmps158
  go_wp2
  go_ret
  exact ⟨rfl, rfl⟩
theorem inRange_nil (GA : Option Addr) (gc : Nat) (w : World) : Calls Tryz.prog 126 #[.slice GA 0 gc, .agg #[.int .i64 1, .int .i64 0]] w fun e w' => e = .returned (.bool true) ∧ Below w.heap.size w w' := by
  obtain ⟨X, hX⟩ : ∃ X, X = w.alloc (.cells #[.int .i64 1, .int .i64 0] 24) := ⟨_, rfl⟩
  have HX := Lib.hid hX
  have hb : X.heap[w.heap.size]? = some (.cells #[.int .i64 1, .int .i64 0] 24 (0, 0)) := by rw [hX]; exact al_new w _
  have e0 : X.cell? ⟨w.heap.size, 0, none⟩ = some (.int .i64 1) := Lib.cell_of_heap hb 0
  have e1 : X.cell? ⟨w.heap.size, 1, none⟩ = some (.int .i64 0) := Lib.cell_of_heap hb 1
  have hl := (Array.getElem?_eq_some_iff.1 hb).1
  have HB := Lib.hid (show Below w.heap.size w X by rw [hX]; exact balloc _ _)
  clear hX hb
  go_enter Tryz.func126, Tryz.ntmps126
  go_upto_region 1 with (fail)
  rw [← HX.out]
  go_wp2_with fail
  go_quiet (fail)
  go_wp2
  go_ret
  exact ⟨rfl, bdN HB.out _⟩
theorem last_nil (w : World) : Calls Tryz.prog 54 #[.string ⟨#[]⟩] w fun e w' => e = .returned (.string ⟨#[]⟩) ∧ w' = w := by
  go_enter Tryz.func54, Tryz.ntmps54
  go_wp2
  go_ret
  exact ⟨rfl, rfl⟩
end W
end Go.Proofs.YtcbebkeakkahgaaGreatDoor
