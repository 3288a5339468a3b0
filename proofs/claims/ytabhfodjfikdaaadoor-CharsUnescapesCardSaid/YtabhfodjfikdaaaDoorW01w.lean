/- Chapter 1: the examples (awake). -/
import Derived.Test.YtabhfodjfikdaaaDoorW01g
namespace Go.Proofs.YtabhfodjfikdaaaDoor
open Go.RowKit K
namespace W

theorem awake_any (w : World) (hw : Env w) :
    Calls Tryd.prog 10 #[] w fun e w' => e = .returned (.bool true) ∧ Below w.heap.size w w' := by
  have h1 := Lib.hid (fun w => Digits_any [49, 50, 48] w (by simp))
  have h2 := Lib.hid (fun w => Unquote_any [97, 34, 98, 92, 36, 99, 34, 39, 100, 39] w (by simp))
  have h3 := Lib.hid (fun w => Unescape_any [92, 110, 92, 120, 48, 49] w (by simp))
  have h4 := Lib.hid (fun w => Name_any [95, 97, 49] w (by simp))
  have h5 := Lib.hid (fun w => Name_any [49, 97] w (by simp))
  have h6 := Lib.hid (fun w h => Quote_any [105, 116, 39, 115] w (by simp) h)
  have h7 := Lib.hid (fun w => Plain_any [97, 47, 98] w (by simp))
  have h8 := Lib.hid (fun w => Escape_any [9] w (by simp))
  have e1 := Lib.hid (show P.digitsI [49, 50, 48] = some 120 by decide +kernel)
  have e2 := Lib.hid (show P.unquote [97, 34, 98, 92, 36, 99, 34, 39, 100, 39] = .ok [97, 98, 36, 99, 100] by rfl)
  have e3 := Lib.hid (show P.unescape [92, 110, 92, 120, 48, 49] = .ok [10, 1] by rfl)
  have e4 := Lib.hid (show P.nameB [95, 97, 49] = true by decide +kernel)
  have e5 := Lib.hid (show P.nameB [49, 97] = false by decide +kernel)
  have e6 := Lib.hid (show P.quote [105, 116, 39, 115] = [39, 105, 116, 39, 92, 39, 39, 115, 39] by decide +kernel)
  have e7 := Lib.hid (show P.plainB [97, 47, 98] = true by decide +kernel)
  have e8 := Lib.hid (show P.escape [9] = [92, 116] by decide +kernel)
  go_enter Tryd.func10, Tryd.ntmps10
  go_wp2_with fail
  refine (h1.out _).mono ?_
  rintro e w1 ⟨rfl, hb1⟩
  rw [e1.out]
  have t1 := Lib.hid (hw.below hb1)
  simp only [optInt, Option.getD_some, Option.isSome_some]
  go_wp2_with fail
  refine (h2.out _).mono ?_
  rintro e w2 ⟨rfl, hb2⟩
  rw [e2.out]
  have t2 := Lib.hid (t1.out.below hb2)
  simp only [strErr]
  go_wp2_with fail
  refine (h3.out _).mono ?_
  rintro e w3 ⟨rfl, hb3⟩
  rw [e3.out]
  have t3 := Lib.hid (t2.out.below hb3)
  simp only [strErr]
  go_wp2_with fail
  refine (h4.out _).mono ?_
  rintro e w4 ⟨rfl, hb4⟩
  rw [e4.out]
  have t4 := Lib.hid (t3.out.below hb4)
  go_wp2_with fail
  refine (h5.out _).mono ?_
  rintro e w5 ⟨rfl, hb5⟩
  rw [e5.out]
  have t5 := Lib.hid (t4.out.below hb5)
  go_wp2_with fail
  refine (h6.out _ t5.out).mono ?_
  rintro e w6 ⟨rfl, hb6⟩
  rw [e6.out]
  go_wp2_with fail
  refine (h7.out _).mono ?_
  rintro e w7 ⟨rfl, hb7⟩
  rw [e7.out]
  go_wp2_with fail
  refine (h8.out _).mono ?_
  rintro e w8 ⟨rfl, hb8⟩
  rw [e8.out]
  go_wp2
  go_ret
  exact ⟨rfl, btr (btr (btr (btr (btr (btr (btr hb1 hb2) hb3) hb4) hb5) hb6) hb7) hb8⟩
end W
end Go.Proofs.YtabhfodjfikdaaaDoor
