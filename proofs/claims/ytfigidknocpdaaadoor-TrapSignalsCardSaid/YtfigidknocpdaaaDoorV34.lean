/- Chapter 34: the law TrapSignals, walked. -/
import Derived.Test.YtfigidknocpdaaaDoorW34s
namespace Go.Proofs.YtfigidknocpdaaaDoor
open Go.RowKit K
namespace W
theorem TrapSignals_any (s : List UInt8) (w : World) (hw : Env w) :
    Calls Tryd.prog 3 #[.string ⟨s.toArray⟩] w fun e w' => e = .returned (.bool true) ∧ Below w.heap.size w w' := by
  have HA := Lib.hid (awake_any w hw)
  have H1 := Lib.hid (Signal_any s w hw)
  have H2 := Lib.hid (SignalR_any s w)
  rw [P.signal_eq] at H2
  generalize P.signal s = o at H1 H2
  unfold optI at H1 H2
  by_cases hl : 100 < s.length
  · have e1 : ((100 : Int) < (s.length : Int)) = True := eq_true (by omega)
    clear hl hw H1 H2
    go_enter Tryd.func3, Tryd.ntmps3
    go_wp2_with fail; refine (HA.out).mono ?_; rintro e w1 ⟨rfl, hb⟩
    have HB := Lib.hid hb
    clear hb
    go_wp2
    go_ret
    exact ⟨rfl, HB.out⟩
  · have e1 : ((100 : Int) < (s.length : Int)) = False := eq_false (by omega)
    have H3 := Lib.hid (H2.out (by omega))
    clear hl hw H2
    go_enter Tryd.func3, Tryd.ntmps3
    go_wp2_with fail; refine (H1.out).mono ?_; rintro e w1 ⟨rfl, rfl⟩
    go_wp2_with fail; refine (H3.out).mono ?_; rintro e w1 ⟨rfl, rfl⟩
    go_wp2_with fail; refine (HA.out).mono ?_; rintro e w1 ⟨rfl, hb⟩
    have HB := Lib.hid hb
    clear hb
    go_wp2
    go_ret
    exact ⟨rfl, HB.out⟩
end W
end Go.Proofs.YtfigidknocpdaaaDoor
