/- Chapter 9: introduces. -/
import Derived.Test.YtelhobphphkidaaGreatDoorP09x
namespace Go.Proofs.YtelhobphphkidaaGreatDoor
open Go.RowKit K
namespace AX
def intros : List (List UInt8) := [[33], [123], [100, 111], [101, 108, 105, 102], [101, 108, 115, 101], [105, 102], [116, 104, 101, 110], [117, 110, 116, 105, 108], [119, 104, 105, 108, 101]]
theorem introB_eq (t : List UInt8) : introB t = intros.contains t := rfl
end AX
namespace W
set_option maxRecDepth 100000 in
set_option maxHeartbeats 1000000 in
theorem introduces_any (t : List UInt8) (w : World) : Calls Tryz.prog 59 #[.string ⟨t.toArray⟩] w fun e w' => e = .returned (.bool (AX.introB t)) ∧ w = w' := by
  rw [AX.introB_eq]
  by_cases h : t ∈ AX.intros
  · have HR := Lib.hid (show AX.intros.contains t = true from List.contains_iff_mem.2 h)
    simp only [AX.intros, List.mem_cons, List.not_mem_nil, or_false] at h
    rcases h with rfl | rfl | rfl | rfl | rfl | rfl | rfl | rfl | rfl
    all_goals
      go_enter Tryz.func59, Tryz.ntmps59
      go_wp2
      go_ret
      exact ⟨ret_bool HR.out.symm, rfl⟩
  · have HR := Lib.hid (show AX.intros.contains t = false by rw [← Bool.not_eq_true, List.contains_iff_mem]; exact h)
    have hn : ∀ x ∈ AX.intros, (t == x) = false := fun x hx => by rw [beq_eq_false_iff_ne]; rintro rfl; exact h hx
    have n0 := hn [33] (by decide)
    have n1 := hn [123] (by decide)
    have n2 := hn [100, 111] (by decide)
    have n3 := hn [101, 108, 105, 102] (by decide)
    have n4 := hn [101, 108, 115, 101] (by decide)
    have n5 := hn [105, 102] (by decide)
    have n6 := hn [116, 104, 101, 110] (by decide)
    have n7 := hn [117, 110, 116, 105, 108] (by decide)
    have n8 := hn [119, 104, 105, 108, 101] (by decide)
    clear hn h
    go_enter Tryz.func59, Tryz.ntmps59
    go_wp2
    go_ret
    exact ⟨ret_bool HR.out.symm, rfl⟩
end W
end Go.Proofs.YtelhobphphkidaaGreatDoor
