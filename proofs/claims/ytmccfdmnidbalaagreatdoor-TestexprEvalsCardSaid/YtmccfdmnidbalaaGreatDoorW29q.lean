/- Chapter 29: awake. -/
import Derived.Test.YtmccfdmnidbalaaGreatDoorW29p
namespace Go.Proofs.YtmccfdmnidbalaaGreatDoor
open Go.RowKit K
namespace W
set_option maxHeartbeats 2000000 in
set_option maxRecDepth 100000 in
theorem awake_any (w : World) (hw : Env w) :
    Calls Tryz.prog 5 #[] w fun e w' => e = .returned (.bool true) ∧ Below w.heap.size w w' := by
  obtain ⟨x, hx⟩ : ∃ x, x = w.alloc (.cells #[.string ⟨#[47]⟩, .bool true, .string ⟨#[]⟩, .string ⟨#[47, 100]⟩, .bool true, .string ⟨#[]⟩, .string ⟨#[47, 102]⟩, .bool false, .string ⟨#[]⟩] 35) := ⟨_, rfl⟩
  have HX := Lib.hid hx
  have HV := Lib.hid (show FV x (.slice (some ⟨w.heap.size, 0, none⟩) 3 3) three by rw [hx]; exact FV.three w _)
  have HBx := Lib.hid (show Below w.heap.size w x by rw [hx]; exact balloc _ _)
  have HE := Lib.hid (hw.below HBx.out)
  have H1 := Lib.hid (show ∀ w1, Below x.heap.size x w1 → Calls Tryz.prog 6 #[.slice (some ⟨w1.heap.size, 0, none⟩) 2 2, .slice (some ⟨w.heap.size, 0, none⟩) 3 3, .string ⟨#[47]⟩] (w1.alloc (.cells #[.string ⟨#[45, 100]⟩, .string ⟨#[100]⟩] 9)) fun e w' => e = .returned (.tuple #[.bool true, .int .i64 0]) ∧ Below w1.heap.size w1 w' from fun w1 hb => ev_at w1 _ (HV.out.below hb) (HE.out.below hb) A1 (by decide) (asc (by kernel_rfl)) _ ev1)
  have H2 := Lib.hid (show ∀ w1, Below x.heap.size x w1 → Calls Tryz.prog 6 #[.slice (some ⟨w1.heap.size, 0, none⟩) 8 8, .slice (some ⟨w.heap.size, 0, none⟩) 3 3, .string ⟨#[47]⟩] (w1.alloc (.cells #[.string ⟨#[97]⟩, .string ⟨#[61]⟩, .string ⟨#[97]⟩, .string ⟨#[45, 97]⟩, .string ⟨#[33]⟩, .string ⟨#[98]⟩, .string ⟨#[61]⟩, .string ⟨#[99]⟩] 9)) fun e w' => e = .returned (.tuple #[.bool true, .int .i64 0]) ∧ Below w1.heap.size w1 w' from fun w1 hb => ev_at w1 _ (HV.out.below hb) (HE.out.below hb) A2 (by decide) (asc (by kernel_rfl)) _ ev2)
  have H3 := Lib.hid (show ∀ w1, Below x.heap.size x w1 → Calls Tryz.prog 6 #[.slice (some ⟨w1.heap.size, 0, none⟩) 3 3, .slice (some ⟨w.heap.size, 0, none⟩) 3 3, .string ⟨#[47]⟩] (w1.alloc (.cells #[.string ⟨#[51]⟩, .string ⟨#[45, 108, 116]⟩, .string ⟨#[50, 48]⟩] 9)) fun e w' => e = .returned (.tuple #[.bool true, .int .i64 0]) ∧ Below w1.heap.size w1 w' from fun w1 hb => ev_at w1 _ (HV.out.below hb) (HE.out.below hb) A3 (by decide) (asc (by kernel_rfl)) _ ev3)
  have H4 := Lib.hid (show ∀ w1, Below x.heap.size x w1 → Calls Tryz.prog 6 #[.slice (some ⟨w1.heap.size, 0, none⟩) 3 3, .slice (some ⟨w.heap.size, 0, none⟩) 3 3, .string ⟨#[47]⟩] (w1.alloc (.cells #[.string ⟨#[51]⟩, .string ⟨#[45, 108, 116]⟩, .string ⟨#[50, 120]⟩] 9)) fun e w' => e = .returned (.tuple #[.bool false, .int .i64 1]) ∧ Below w1.heap.size w1 w' from fun w1 hb => ev_at w1 _ (HV.out.below hb) (HE.out.below hb) A4 (by decide) (asc (by kernel_rfl)) _ ev4)
  have H5 := Lib.hid (show ∀ w1, Below x.heap.size x w1 → Calls Tryz.prog 6 #[.slice (some ⟨w1.heap.size, 0, none⟩) 2 2, .slice (some ⟨w.heap.size, 0, none⟩) 3 3, .string ⟨#[47]⟩] (w1.alloc (.cells #[.string ⟨#[97]⟩, .string ⟨#[98]⟩] 9)) fun e w' => e = .returned (.tuple #[.bool false, .int .i64 27]) ∧ Below w1.heap.size w1 w' from fun w1 hb => ev_at w1 _ (HV.out.below hb) (HE.out.below hb) A5 (by decide) (asc (by kernel_rfl)) _ ev5)
  have HSX := Lib.hid (show x.heap.size = w.heap.size + 1 by rw [hx]; simp)
  have H1x := Lib.hid (H1.out x (Below.refl _ _))
  rw [HSX.out] at H1x
  clear hx hw
  go_enter Tryz.func5, Tryz.ntmps5
  go_wp2_with fail
  rw [← HX.out]
  refine H1x.out.mono ?_
  rintro e w1 ⟨rfl, hb1⟩
  rw [← HSX.out] at hb1
  have B1 := Lib.hid hb1
  clear hb1
  go_wp2_with fail
  refine (H2.out w1 B1.out).mono ?_
  rintro e w2 ⟨rfl, hb2⟩
  have B2 := Lib.hid (btr B1.out hb2)
  clear hb2
  go_wp2_with fail
  refine (H3.out w2 B2.out).mono ?_
  rintro e w3 ⟨rfl, hb3⟩
  have B3 := Lib.hid (btr B2.out hb3)
  clear hb3
  go_wp2_with fail
  refine (H4.out w3 B3.out).mono ?_
  rintro e w4 ⟨rfl, hb4⟩
  have B4 := Lib.hid (btr B3.out hb4)
  clear hb4
  go_wp2_with fail
  refine (H5.out w4 B4.out).mono ?_
  rintro e w5 ⟨rfl, hb5⟩
  have B5 := Lib.hid (btr B4.out hb5)
  clear hb5
  go_wp2
  go_ret
  exact ⟨rfl, btr HBx.out B5.out⟩
end W
end Go.Proofs.YtmccfdmnidbalaaGreatDoor
