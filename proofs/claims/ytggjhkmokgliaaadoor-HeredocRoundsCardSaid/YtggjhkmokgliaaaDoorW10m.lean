/- Chapter 10: Here at "$x\n", Body, Read at one delimiter. -/
import Derived.Test.YtggjhkmokgliaaaDoorW10l
namespace Go.Proofs.YtggjhkmokgliaaaDoor
open Go.RowKit K
namespace W
theorem Here_here (w : World) :
    Calls Tryd.prog 23 #[.string ⟨#[36, 120, 10]⟩] w fun e w' => (∃ A c, e = .returned (.tuple #[.slice A 2 c, .int .i64 0, .int .i64 0])) ∧ Below w.heap.size w w' := by
  have HP := Lib.hid (wparse_here w)
  go_enter Tryd.func23, Tryd.ntmps23
  go_wp2_with fail
  refine HP.out.mono ?_
  rintro e w1 ⟨⟨A, c, rfl⟩, hb⟩
  go_wp2
  go_ret3
  exact ⟨⟨A, c, rfl⟩, hb⟩
theorem Body_here (w : World) :
    Calls Tryd.prog 13 #[.string ⟨#[36, 120, 10]⟩, .bool false] w fun e w' => (∃ A c, e = .returned (.tuple #[.slice A 2 c, .int .i64 0, .int .i64 0])) ∧ Below w.heap.size w w' := by
  have HP := Lib.hid (Here_here w)
  go_enter Tryd.func13, Tryd.ntmps13
  go_wp2_with fail
  refine HP.out.mono ?_
  rintro e w1 ⟨⟨A, c, rfl⟩, hb⟩
  go_wp2
  go_ret3
  exact ⟨⟨A, c, rfl⟩, hb⟩
theorem Body_quoted (c : UInt8) (s : List UInt8) (w : World) :
    Calls Tryd.prog 13 #[.string ⟨(c :: s).toArray⟩, .bool true] w fun e w' => e = .returned (.tuple #[.slice (some ⟨w.heap.size, 0, none⟩) 1 1, .int .i64 0, .int .i64 0]) ∧ w'.cell? ⟨w.heap.size, 0, none⟩ = some (.int .i64 2) ∧ w'.cell? ⟨w.heap.size, 1, none⟩ = some (.string ⟨(c :: s).toArray⟩) ∧ Below w.heap.size w w' := by
  go_enter Tryd.func13, Tryd.ntmps13
  go_wp2
  go_ret3
  exact ⟨rfl, by simp, by simp, balloc _ _⟩
end W
end Go.Proofs.YtggjhkmokgliaaaDoor
