/- Built-in commands: the law BuiltinKinds walked, whatever the name. -/
import Derived.Test.YtcbebkeakkahgaaGreatDoorW39y
namespace Go.Proofs.YtcbebkeakkahgaaGreatDoor
open Go.RowKit K
namespace W
set_option maxRecDepth 100000
set_option maxHeartbeats 4000000 in
theorem BuiltinKinds_any (nm : List UInt8) (w : World) (hw : Env w) : Calls Tryz.prog 3 #[.string ⟨nm.toArray⟩] w fun e w' => e = .returned (.bool true) ∧ Below w.heap.size w w' := by
  by_cases h : nm.length ≤ 100
  · cases hk : BK.knB nm with
    | true => exact Kinds_known nm hk h w hw
    | false => exact Kinds_unknown nm hk h w hw
  · have q1 : ((100 : Int) < (nm.length : Int)) = True := eq_true (by omega)
    have HA := Lib.hid (awake_any w hw)
    clear hw
    go_enter Tryz.func3, Tryz.ntmps3
    go_wp2_with (fail)
    refine HA.out.mono ?_
    rintro e Y ⟨rfl, hy⟩
    have HY := Lib.hid hy
    clear hy
    go_wp2
    go_ret
    exact ⟨rfl, HY.out⟩
end W
end Go.Proofs.YtcbebkeakkahgaaGreatDoor
