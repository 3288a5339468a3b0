/- Chapter 1: the walks of the laws. -/
import Derived.Test.YtabhfodjfikdaaaDoorW01w
namespace Go.Proofs.YtabhfodjfikdaaaDoor
open Go.RowKit K
namespace W

theorem CharsNames_walk (l : List UInt8) (w : World) (hw : Env w) :
    Calls Tryd.prog 3 #[.string ⟨l.toArray⟩] w fun e w' => e = .returned (.bool true) ∧ Below w.heap.size w w' := by
  have HA := Lib.hid awake_any
  by_cases hl : 1000 < l.length
  · go_enter Tryd.func3, Tryd.ntmps3
    go_wp2_with fail
    refine (HA.out _ hw).mono ?_
    rintro e w1 ⟨rfl, hb1⟩
    go_wp2
    go_ret
    exact ⟨rfl, hb1⟩
  · have hl2 : l.length ≤ 1000 := by omega
    have h1 := Lib.hid (fun w => Digits_any l w (by omega))
    have h2 := Lib.hid (fun w => Digits_ref l w (by omega))
    have h3 := Lib.hid (fun w => Name_any l w (by omega))
    have h4 := Lib.hid (fun w => Name_ref l w (by omega))
    have h5 := Lib.hid (fun w => Plain_any l w (by omega))
    have h6 := Lib.hid (fun w => Plain_ref l w (by omega))
    have hd := Lib.hid (P.digitsI_eq l)
    go_enter Tryd.func3, Tryd.ntmps3
    go_wp2_with fail
    refine (h1.out _).mono ?_
    rintro e w1 ⟨rfl, hb1⟩
    rw [hd.out]
    have t1 := Lib.hid (hw.below hb1)
    simp only [optInt]
    go_wp2_with fail
    refine (h2.out _).mono ?_
    rintro e w' ⟨rfl, rfl⟩
    simp only [optInt]
    go_wp2_with fail
    refine (h3.out _).mono ?_
    rintro e w2 ⟨rfl, hb2⟩
    have t2 := Lib.hid (t1.out.below hb2)
    go_wp2_with fail
    refine (h4.out _).mono ?_
    rintro e w' ⟨rfl, rfl⟩
    go_wp2_with fail
    refine (h5.out _).mono ?_
    rintro e w3 ⟨rfl, hb3⟩
    have t3 := Lib.hid (t2.out.below hb3)
    go_wp2_with fail
    refine (h6.out _).mono ?_
    rintro e w' ⟨rfl, rfl⟩
    go_wp2_with fail
    refine (HA.out _ t3.out).mono ?_
    rintro e w4 ⟨rfl, hb4⟩
    go_wp2
    go_ret
    exact ⟨rfl, btr (btr (btr hb1 hb2) hb3) hb4⟩
end W
end Go.Proofs.YtabhfodjfikdaaaDoor
