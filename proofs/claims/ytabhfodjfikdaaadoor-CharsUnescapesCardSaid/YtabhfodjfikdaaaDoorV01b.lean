/- Chapter 1: the walk of the law CharsUnescapes. -/
import Derived.Test.YtabhfodjfikdaaaDoorW01w
import Derived.Test.YtabhfodjfikdaaaDoorW01h
namespace Go.Proofs.YtabhfodjfikdaaaDoor
open Go.RowKit K
namespace W

theorem CharsUnescapes_walk (l : List UInt8) (w : World) (hw : Env w) :
    Calls Tryd.prog 9 #[.string ⟨l.toArray⟩] w fun e w' => e = .returned (.bool true) ∧ Below w.heap.size w w' := by
  have HA := Lib.hid awake_any
  by_cases hl : 300 < l.length
  · go_enter Tryd.func9, Tryd.ntmps9
    go_wp2_with fail
    refine (HA.out _ hw).mono ?_
    rintro e w1 ⟨rfl, hb1⟩
    go_wp2
    go_ret
    exact ⟨rfl, hb1⟩
  · have hl2 : l.length ≤ 300 := by omega
    have h1 := Lib.hid (fun w => Unescape_any l w (by omega))
    have h2 := Lib.hid (fun w => Unescape_ref l w (by omega))
    have HQ := Lib.hid (P.unescapeR_eq l)
    cases hu : P.unescape l with
    | ok a =>
      have HU := Lib.hid hu
      have HB := Lib.hid (P.escape_unescape hu)
      have hla : a.length ≤ 300 := by
        have := congrArg List.length (P.escape_unescape hu)
        have h3 := P.escape_ge a
        omega
      have h4 := Lib.hid (fun w => Escape_any a w (by omega))
      clear hu
      go_enter Tryd.func9, Tryd.ntmps9
      go_wp2_with fail
      refine (h1.out _).mono ?_
      rintro e w1 ⟨rfl, hb1⟩
      rw [HU.out]
      simp only [strErr]
      have t1 := Lib.hid (hw.below hb1)
      go_wp2_with fail
      refine (h2.out _).mono ?_
      rintro e w2 ⟨rfl, hb2⟩
      rw [HQ.out, HU.out]
      simp only [strErr]
      have t2 := Lib.hid (t1.out.below hb2)
      go_wp2_with fail
      refine (h4.out _).mono ?_
      rintro e w3 ⟨rfl, hb3⟩
      rw [HB.out]
      have t3 := Lib.hid (t2.out.below hb3)
      go_wp2_with fail
      refine (HA.out _ t3.out).mono ?_
      rintro e w4 ⟨rfl, hb4⟩
      go_wp2
      go_ret
      exact ⟨rfl, btr (btr (btr hb1 hb2) hb3) hb4⟩
    | error z =>
      have HU := Lib.hid hu
      have hz : z = 28 ∨ z = 6 := P.unescape_err hu
      have hz1 : (z != 0) = true := by simp; omega
      clear hu
      go_enter Tryd.func9, Tryd.ntmps9
      go_wp2_with fail
      refine (h1.out _).mono ?_
      rintro e w1 ⟨rfl, hb1⟩
      rw [HU.out]
      simp only [strErr]
      have t1 := Lib.hid (hw.below hb1)
      go_wp2_with fail
      refine (h2.out _).mono ?_
      rintro e w2 ⟨rfl, hb2⟩
      rw [HQ.out, HU.out]
      simp only [strErr]
      have t2 := Lib.hid (t1.out.below hb2)
      go_wp2_with fail
      refine (HA.out _ t2.out).mono ?_
      rintro e w3 ⟨rfl, hb3⟩
      go_wp2
      go_ret
      exact ⟨rfl, btr (btr hb1 hb2) hb3⟩
end W
end Go.Proofs.YtabhfodjfikdaaaDoor
