/- Chapter 34: SameReq of the reference at equal requests. -/
import Derived.Test.YtfigidknocpdaaaDoorW34p
namespace Go.Proofs.YtfigidknocpdaaaDoor
open Go.RowKit K
namespace W
theorem Texts_nil (w : World) :
    Calls Tryd.prog 42 #[.slice none 0 0, .slice none 0 0] w fun e w' => e = .returned (.bool true) ∧ w = w' := by
  go_enter Tryd.func42, Tryd.ntmps42
  go_wp2
  go_loop [5] (fun i => i = .int .i64 0) (fun _ => 0)
  case atStart => rfl
  case round =>
    subst hrel
    go_wp2
    go_ret
    exact ⟨rfl, rfl⟩
set_option maxHeartbeats 2000000 in
set_option maxRecDepth 100000 in
theorem SameReq_eq (r : Int × Int) (w : World) :
    Calls Tryd.prog 19 #[.agg (rcell r).toArray, .agg (rcell r).toArray] w fun e w' => e = .returned (.bool true) ∧ Below w.heap.size w w' := by
  obtain ⟨z, n⟩ := r
  have HT := Lib.hid (fun w => Texts_nil w)
  have e1 : (z != z) = false := by simp
  have e2 : (n != n) = false := by simp
  unfold rcell
  obtain ⟨x, hx⟩ : ∃ x : World, x = (w.alloc (.cells #[.int .i64 14, .int .i64 0, .int .i64 0, .int .i64 0, .int .i64 0, .int .i64 z, .int .i64 n, .int .i64 0, .string ⟨#[]⟩, .string ⟨#[]⟩, .slice none 0 0, .slice none 0 0] 40)).alloc (.cells #[.int .i64 14, .int .i64 0, .int .i64 0, .int .i64 0, .int .i64 0, .int .i64 z, .int .i64 n, .int .i64 0, .string ⟨#[]⟩, .string ⟨#[]⟩, .slice none 0 0, .slice none 0 0] 40) := ⟨_, rfl⟩
  have HX := Lib.hid hx
  have HB := Lib.hid (show Below w.heap.size w x by rw [hx]; exact ((Below.refl _ _).alloc (Nat.le_refl _) _).alloc (by simp) _)
  clear hx
  go_enter Tryd.func19, Tryd.ntmps19
  go_wp2_with fail; refine (HT.out _).mono ?_; rintro e w1 ⟨rfl, rfl⟩
  go_wp2_with fail; refine (HT.out _).mono ?_; rintro e w1 ⟨rfl, rfl⟩
  go_wp2
  rw [← HX.out]
  go_ret
  exact ⟨rfl, HB.out⟩
end W
end Go.Proofs.YtfigidknocpdaaaDoor
