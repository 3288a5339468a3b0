/- Chapter 9: AliasNone, walked. -/
import Derived.Test.YtelhobphphkidaaGreatDoorW09nd
import Derived.Test.YtelhobphphkidaaGreatDoorV09
import Derived.Test.YtelhobphphkidaaGreatDoorW08p
namespace Go.Proofs.YtelhobphphkidaaGreatDoor
open Go.RowKit K
namespace W
abbrev Env (w : World) : Prop := Env9 w
set_option maxRecDepth 100000 in
set_option maxHeartbeats 2000000 in
theorem AliasNone_walk (hB : BrAll) (s : List UInt8) (w : World) (hE : Env w) :
    Calls Tryz.prog 7 #[.string ⟨s.toArray⟩] w fun e w' => e = .returned (.bool true) ∧ Below w.heap.size w w' := by
  by_cases h1 : 17000 < s.length
  · have h2 : ((17000 : Int) < (s.length : Int)) = True := eq_true (by omega)
    have HA := Lib.hid (awake_any w)
    clear h1 hB hE
    go_enter Tryz.func7, Tryz.ntmps7
    go_wp2_with fail
    refine HA.out.mono ?_
    rintro e w2 ⟨rfl, hb⟩
    have HB2 := Lib.hid hb
    clear hb
    go_wp2
    go_ret
    exact ⟨rfl, HB2.out⟩
  have h2 : ((17000 : Int) < (s.length : Int)) = False := eq_false (by omega)
  have HX := Lib.hid (Expand_none hB s w hE (by omega))
  clear h1 hB hE
  by_cases h3 : 16384 < s.length
  · have h4 : ((16384 : Int) < (s.length : Int)) = True := eq_true (by omega)
    rw [show bareR s = ([], 3) by unfold bareR; rw [if_pos h3]] at HX
    clear h3
    go_enter Tryz.func7, Tryz.ntmps7
    go_wp2_with fail
    refine HX.out.mono ?_
    rintro e w2 ⟨rfl, hb⟩
    have HB2 := Lib.hid hb
    have HA := Lib.hid (awake_any w2)
    clear hb
    go_wp2_with fail
    refine HA.out.mono ?_
    rintro e w3 ⟨rfl, hb⟩
    have HB3 := Lib.hid (btr HB2.out hb)
    clear hb
    go_wp2
    go_ret
    exact ⟨rfl, HB3.out⟩
  · have h4 : ((16384 : Int) < (s.length : Int)) = False := eq_false (by omega)
    rw [show bareR s = (s, 0) by unfold bareR; rw [if_neg h3]] at HX
    clear h3
    go_enter Tryz.func7, Tryz.ntmps7
    go_wp2_with fail
    refine HX.out.mono ?_
    rintro e w2 ⟨rfl, hb⟩
    have HB2 := Lib.hid hb
    have HA := Lib.hid (awake_any w2)
    clear hb
    go_wp2_with fail
    refine HA.out.mono ?_
    rintro e w3 ⟨rfl, hb⟩
    have HB3 := Lib.hid (btr HB2.out hb)
    clear hb
    go_wp2
    go_ret
    exact ⟨rfl, HB3.out⟩
theorem AliasNone_any (s : List UInt8) (w : World) (hE : Env w) : Calls Tryz.prog 7 #[.string ⟨s.toArray⟩] w fun e w' => e = .returned (.bool true) ∧ Below w.heap.size w w' := AliasNone_walk brAll s w hE
end W
end Go.Proofs.YtelhobphphkidaaGreatDoor
