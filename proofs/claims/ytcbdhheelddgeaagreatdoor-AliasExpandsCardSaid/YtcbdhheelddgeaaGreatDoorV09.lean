/- Chapter 9: awake. -/
import Derived.Test.YtcbdhheelddgeaaGreatDoorNA
namespace Go.Proofs.YtcbdhheelddgeaaGreatDoor
open Go.RowKit K
namespace W
theorem lit_as (V : World) : AS (V.alloc (.cells #[.string ⟨#[105, 102]⟩, .string ⟨#[]⟩] 32)) (.slice (some ⟨V.heap.size, 0, none⟩) 1 1) [([105, 102], [])] := by
 have h := al_new V (.cells #[.string ⟨#[105, 102]⟩, .string ⟨#[]⟩] 32)
 refine ⟨_, 1, rfl, by simp, by unfold maxLen; omega, fun k a ha => ?_⟩
 match k, ha with
 | 0, ha =>
  simp at ha
  subst ha
  exact ⟨V.heap.size, 0, rfl, by simp, Lib.cell_of_heap h 0, Lib.cell_of_heap h 1⟩
 | k + 1, ha => simp at ha
set_option maxRecDepth 100000 in
set_option maxHeartbeats 4000000 in
theorem awake_any (w : World) : Calls Tryz.prog 5 #[] w fun e w' => e = .returned (.bool true) ∧ Below w.heap.size w w' := by
 have T1 := Lib.hid (Set_any [] [108, 108] [108, 115, 32, 45, 108] (.slice none 0 0) w (TV.nil w) (by simp) (by decide) (by decide))
 rw [AX.ex_set1] at T1
 go_enter Tryz.func5, Tryz.ntmps5
 go_wp2_with fail
 refine T1.out.mono ?_
 rintro e w1 ⟨v1, rfl, hb1, hV1⟩
 have T2 := Lib.hid (Set_any [([108, 108], [108, 115, 32, 45, 108])] [115, 117, 100, 111] [115, 117, 100, 111, 32] v1 w1 hV1 (by simp) (by decide) (by decide))
 rw [AX.ex_set2] at T2
 have HB1 := Lib.hid hb1
 obtain ⟨A1, c1, rfl⟩ := (show ∃ A c, v1 = .slice A 1 c from hV1.val)
 clear T1 hb1 hV1
 go_wp2_with fail
 refine T2.out.mono ?_
 rintro e w2 ⟨v2, rfl, hb2, hV2⟩
 obtain ⟨A2, c2, rfl⟩ := (show ∃ A c, v2 = .slice A 2 c from hV2.val)
 have T3 := Lib.hid (Expand_any AX.exL AX.exS (AX.exR, 0) 30 A2 c2 w2 hV2.as (by decide) (by decide) (by decide) AX.ex_expand)
 have HB2 := Lib.hid (btr HB1.out hb2)
 have HV2 := Lib.hid hV2
 clear T2 hb2 hV2 HB1
 go_wp2_with fail
 refine T3.out.mono ?_
 rintro e w3 ⟨rfl, hb3⟩
 have HV3 := Lib.hid (HV2.out.below hb3)
 have HB3 := Lib.hid (btr HB2.out hb3)
 have T4 := Lib.hid (Get_any AX.exL [108, 108] _ w3 HV3.out.as (by decide))
 rw [AX.ex_get] at T4
 clear T3 hb3 HV2 HB2
 go_wp2_with fail
 refine T4.out.mono ?_
 rintro e w4 ⟨rfl, hb4⟩
 have HV4 := Lib.hid (HV3.out.below hb4)
 have HB4 := Lib.hid (btr HB3.out hb4)
 have T5 := Lib.hid (Unset_any AX.exL [108, 108] _ w4 HV4.out (by decide))
 rw [AX.ex_unset] at T5
 clear T4 hb4 HV3 HB3
 go_wp2_with fail
 refine T5.out.mono ?_
 rintro e w5 ⟨v5, rfl, hb5, hV5⟩
 obtain ⟨A5, c5, rfl⟩ := (show ∃ A c, v5 = .slice A 1 c from hV5.val)
 have HV5 := Lib.hid (HV4.out.below hb5)
 have HB5 := Lib.hid (btr HB4.out hb5)
 have T6 := Lib.hid (fun V (hb : Below w5.heap.size w5 V) => show Calls Tryz.prog 11 #[.slice A2 2 c2] V (fun e w' => e = .returned (.int .i64 0) ∧ Below V.heap.size V w') from by
  have := Valid_any AX.exL _ V (HV5.out.below hb).as (by decide)
  rwa [show AL.valid AX.exL = 0 by decide +kernel] at this)
 have T7 := Lib.hid (fun V => show Calls Tryz.prog 11 #[.slice (some ⟨V.heap.size, 0, none⟩) 1 1] (V.alloc (.cells #[.string ⟨#[105, 102]⟩, .string ⟨#[]⟩] 32)) (fun e w' => e = .returned (.int .i64 10) ∧ Below V.heap.size V w') from by
  have := Valid_any [([105, 102], [])] _ _ (lit_as V) (by decide)
  rw [show AL.valid [([105, 102], [])] = 10 by decide +kernel] at this
  exact this.mono fun e w' ⟨h1, h2⟩ => ⟨h1, btr (balloc _ _) h2⟩)
 clear T5 hb5 HV4 HB4 hV5
 go_wp2_with fail
 refine (T6.out w5 (Below.refl _ _)).mono ?_
 rintro e w6 ⟨rfl, hb6⟩
 have HB6 := Lib.hid (btr HB5.out hb6)
 have T8 := Lib.hid (T7.out w6)
 clear hb6 T6 T7
 go_wp2_with fail
 refine T8.out.mono ?_
 rintro e w7 ⟨rfl, hb7⟩
 have HB7 := Lib.hid (btr HB6.out hb7)
 clear hb7
 go_wp2
 go_ret
 exact ⟨rfl, HB7.out⟩
end W
end Go.Proofs.YtcbdhheelddgeaaGreatDoor
