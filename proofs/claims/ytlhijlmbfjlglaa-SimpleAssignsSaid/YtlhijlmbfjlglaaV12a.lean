/- Chapter 12: SimpleAssigns walked. -/
import Derived.Test.YtlhijlmbfjlglaaV12
import Derived.Test.YtlhijlmbfjlglaaYC
import Derived.Test.YtlhijlmbfjlglaaW08p
namespace Go.Proofs.Ytlhijlmbfjlglaa
open Go.RowKit K
namespace W
set_option maxRecDepth 100000 in
theorem SimpleAssigns_any (hB : BrAll) (s : List UInt8) (w : World) (hw : Env w) : Calls Try.prog 3 #[.string ⟨s.toArray⟩] w fun e w' => e = .returned (.bool true) ∧ Below w.heap.size w w' := by
  have HAW := Lib.hid (fun V (hV : Env V) => awake12_any hB V hV)
  have HE := Lib.hid hw
  by_cases hl : s.length ≤ 1000
  case neg =>
    have hl1 : ((1000 : Int) < (s.length : Int)) = True := eq_true (by omega)
    have HA := Lib.hid (HAW.out w HE.out)
    clear hw hB hl
    go_enter Try.func3, Try.ntmps3
    go_wp2_with fail
    refine HA.out.mono ?_
    rintro e w' ⟨rfl, hb⟩
    have HB := Lib.hid hb
    clear hb
    go_wp2
    go_ret
    exact ⟨rfl, HB.out⟩
  have hl1 : ((1000 : Int) < (s.length : Int)) = False := eq_false (by omega)
  obtain ⟨⟨a, b, ok⟩, hA⟩ : ∃ q, SC.asg s = q := ⟨_, rfl⟩
  have HA1 := Lib.hid (fun V (hV : Env V) => Assignment_any s V hV (by omega) a b ok hA)
  have HA2 := Lib.hid (fun V => AssignR_any s V (by omega) a b ok ((SC.asg_R s).trans hA))
  have HA := Lib.hid (HA1.out w HE.out)
  clear hw hB hl hA
  go_enter Try.func3, Try.ntmps3
  go_wp2_with fail
  refine HA.out.mono ?_
  rintro e w1 ⟨rfl, hb⟩
  have HB1 := Lib.hid hb
  have HE1 := Lib.hid (HE.out.below hb)
  clear hb HA
  go_wp2_with fail
  refine (HA2.out w1).mono ?_
  rintro e w2 ⟨rfl, hb⟩
  have HB2 := Lib.hid (btr HB1.out hb)
  have HW := Lib.hid (HAW.out w2 (HE1.out.below hb))
  clear hb
  go_wp2_with fail
  refine HW.out.mono ?_
  rintro e w3 ⟨rfl, hb⟩
  have HB3 := Lib.hid (btr HB2.out hb)
  clear hb
  go_wp2
  go_ret
  exact ⟨rfl, HB3.out⟩
theorem SimpleAssigns_all (s : List UInt8) (w : World) (hw : Env w) : Calls Try.prog 3 #[.string ⟨s.toArray⟩] w fun e w' => e = .returned (.bool true) ∧ Below w.heap.size w w' := SimpleAssigns_any brAll s w hw
end W
end Go.Proofs.Ytlhijlmbfjlglaa
