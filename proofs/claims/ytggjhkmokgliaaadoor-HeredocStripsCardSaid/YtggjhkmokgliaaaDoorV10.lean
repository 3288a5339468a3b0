/- Chapter 10: the law HeredocStrips. -/
import Derived.Test.YtggjhkmokgliaaaDoorW10p
namespace Go.Proofs.YtggjhkmokgliaaaDoor
open Go.RowKit K
namespace W
set_option maxRecDepth 100000 in
set_option maxHeartbeats 2000000 in
theorem HeredocStrips_any (s : List UInt8) (w : World) (hw : Env w) : Calls Tryd.prog 3 #[.string ⟨s.toArray⟩] w fun e w' => e = .returned (.bool true) ∧ Below w.heap.size w w' := by
  go_enter Tryd.func3, Tryd.ntmps3
  rcases Nat.lt_or_ge 2000 s.length with h | h
  · have h' : ((2000 : Int) < (s.length : Int)) = True := eq_true (by omega)
    go_wp2_with fail
    refine (awake_any _ hw).mono ?_
    rintro e w1 ⟨rfl, hb⟩
    go_wp2
    go_ret
    exact ⟨rfl, hb⟩
  · have h' : ((2000 : Int) < (s.length : Int)) = False := eq_false (by omega)
    obtain ⟨t, ht⟩ : ∃ t, t = P.stripP s := ⟨_, rfl⟩
    have h1 := Lib.hid (show ∀ v, Calls Tryd.prog 8 #[.string ⟨s.toArray⟩] v fun e w' => e = .returned (.string ⟨t.toArray⟩) ∧ Below v.heap.size v w' from fun v => by rw [ht]; exact Strip_any s v (by omega))
    have h2 := Lib.hid (show ∀ v, Calls Tryd.prog 8 #[.string ⟨t.toArray⟩] v fun e w' => e = .returned (.string ⟨t.toArray⟩) ∧ Below v.heap.size v w' from fun v => by have := Strip_any t v (by rw [ht]; have := P.stripP_len s; omega); rw [show P.stripP t = t by rw [ht]; exact P.strip_twice s] at this; exact this)
    have h3 := Lib.hid (show ∀ v, Calls Tryd.prog 9 #[.string ⟨s.toArray⟩] v fun e w' => e = .returned (.string ⟨t.toArray⟩) ∧ v = w' from fun v => by rw [ht, ← P.stripR_eq]; exact StripR_any s v (by omega))
    clear ht
    go_wp2_with fail
    refine (h1.out _).mono ?_
    rintro e w1 ⟨rfl, hb1⟩
    have HB1 := Lib.hid hb1
    clear hb1
    go_wp2_with fail
    refine (h3.out _).mono ?_
    rintro e w1' ⟨rfl, rfl⟩
    go_wp2_with fail
    refine (h2.out _).mono ?_
    rintro e w2 ⟨rfl, hb2⟩
    have HB2 := Lib.hid (btr HB1.out hb2)
    clear hb2
    go_wp2_with fail
    refine (awake_any _ (hw.below HB2.out)).mono ?_
    rintro e w3 ⟨rfl, hb3⟩
    have HB3 := Lib.hid (btr HB2.out hb3)
    clear hb3
    go_wp2
    go_ret
    exact ⟨rfl, HB3.out⟩
end W
end Go.Proofs.YtggjhkmokgliaaaDoor
