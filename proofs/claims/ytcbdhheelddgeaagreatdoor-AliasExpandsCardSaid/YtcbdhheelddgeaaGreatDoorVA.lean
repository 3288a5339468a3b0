/- Several texts in one: W08p V09x. -/
import Derived.Test.YtcbdhheelddgeaaGreatDoorW08l
import Derived.Test.YtcbdhheelddgeaaGreatDoorZJ
import Derived.Test.YtcbdhheelddgeaaGreatDoorRD
import Derived.Test.YtcbdhheelddgeaaGreatDoorSA
import Derived.Test.YtcbdhheelddgeaaGreatDoorV09
import Derived.Test.YtcbdhheelddgeaaGreatDoorPC
import Derived.Test.YtcbdhheelddgeaaGreatDoorZD
namespace Go.Proofs.YtcbdhheelddgeaaGreatDoor
open Go.RowKit K
namespace W
theorem brAll : BrAll := fun _ _ _ _ _ h1 h2 h3 h4 h5 h6 => braced_any h1 h2 h3 h4 h5 h6
end W
end Go.Proofs.YtcbdhheelddgeaaGreatDoor
namespace Go.Proofs.YtcbdhheelddgeaaGreatDoor
open Go.RowKit K
namespace AL
theorem few_lenX {l : List Al} (h : fewB l = true) : l.length ≤ 70 ∧ ∀ a ∈ l, a.1.length ≤ 10000 ∧ a.2.length ≤ 10000 := by
 unfold fewB at h
 rw [Bool.and_eq_true, decide_eq_true_eq, decide_eq_true_eq] at h
 refine ⟨h.1, fun a ha => ?_⟩
 have := tot_mem ha
 omega
end AL
namespace W
abbrev Env (w : World) : Prop := Env9 w
abbrev Sized (l : List AL.Al) : Prop := ∀ a ∈ l, a.1.length ≤ 140737488351232 ∧ a.2.length ≤ 140737488351232
set_option maxRecDepth 100000 in
set_option maxHeartbeats 4000000 in
theorem AliasExpands_any (s : List UInt8) (v : Value) (l : List AL.Al) (w : World) (hV : TV w v l) (hz : Sized l) (hE : Env w) :
  Calls Tryz.prog 3 #[.string ⟨s.toArray⟩, v] w fun e w' => e = .returned (.bool true) ∧ Below w.heap.size w w' := by
 obtain ⟨A, c, rfl⟩ := hV.val
 have HF := Lib.hid (few_any l _ w hV.as hz)
 have HAS := Lib.hid hV.as
 have HENV := Lib.hid hE
 obtain ⟨f, hf⟩ : ∃ f, AL.fewB l = f := ⟨_, rfl⟩
 rw [hf] at HF
 cases f with
 | false =>
  clear hf hV hz hE
  go_enter Tryz.func3, Tryz.ntmps3
  go_wp2_with fail
  refine HF.out.mono ?_
  rintro e w1 ⟨rfl, hb⟩
  have HB := Lib.hid hb
  have HA := Lib.hid (awake_any w1)
  clear hb
  go_wp2_with fail
  refine HA.out.mono ?_
  rintro e w2 ⟨rfl, hb⟩
  have HB2 := Lib.hid (btr HB.out hb)
  clear hb
  go_wp2
  go_ret
  exact ⟨rfl, HB2.out⟩
 | true =>
  obtain ⟨hl, hzz⟩ := AL.few_lenX hf
  have HZ := Lib.hid hzz
  have HL := Lib.hid hl
  clear hf hl hzz hV hz hE
  by_cases h5 : 500 < s.length
  ·have t1 : ((500 : Int) < (s.length : Int)) = True := eq_true (by omega)
   have t2 : decide ((500 : Int) < (s.length : Int)) = true := decide_eq_true (by omega)
   clear h5
   go_enter Tryz.func3, Tryz.ntmps3
   go_wp2_with fail
   refine HF.out.mono ?_
   rintro e w1 ⟨rfl, hb⟩
   have HB := Lib.hid hb
   have HA := Lib.hid (awake_any w1)
   clear hb
   go_wp2_with fail
   refine HA.out.mono ?_
   rintro e w2 ⟨rfl, hb⟩
   have HB2 := Lib.hid (btr HB.out hb)
   clear hb
   go_wp2
   go_ret
   exact ⟨rfl, HB2.out⟩
  ·have t1 : ((500 : Int) < (s.length : Int)) = False := eq_false (by omega)
   have t2 : decide ((500 : Int) < (s.length : Int)) = false := decide_eq_false (by omega)
   obtain ⟨R, hY, hR⟩ := AY.expand_both l s
   have HX := Lib.hid (fun (V : World) (hb : Below w.heap.size w V) => ExpandS_any brAll l s R 1081500 A c V (HAS.out.go hb) HZ.out (by omega) (by omega) (HENV.out.go hb) hY)
   have HXR := Lib.hid (fun (V : World) (hb : Below w.heap.size w V) => Expand_ref l s (.slice A l.length c) V (HAS.out.go hb) (by have := HL.out; omega) HZ.out (by omega))
   rw [hR] at HXR
   obtain ⟨R1, R2⟩ := R
   clear hY hR h5
   go_enter Tryz.func3, Tryz.ntmps3
   go_wp2_with fail
   refine HF.out.mono ?_
   rintro e w1 ⟨rfl, hb⟩
   have HB := Lib.hid hb
   clear hb
   go_wp2_with fail
   refine (HX.out _ HB.out).mono ?_
   rintro e w2 ⟨rfl, hb⟩
   have HB2 := Lib.hid (btr HB.out hb)
   clear hb
   go_wp2_with fail
   refine (HXR.out _ HB2.out).mono ?_
   rintro e w3 ⟨rfl, hb⟩
   have HB3 := Lib.hid (btr HB2.out hb)
   have HA := Lib.hid (awake_any w3)
   clear hb
   go_wp2_with fail
   refine HA.out.mono ?_
   rintro e w4 ⟨rfl, hb⟩
   have HB4 := Lib.hid (btr HB3.out hb)
   clear hb
   go_wp2
   go_ret
   exact ⟨rfl, HB4.out⟩
end W
end Go.Proofs.YtcbdhheelddgeaaGreatDoor
