/- Chapter 29: what the laws ask of their sizes. -/
import Derived.Test.YtmccfdmnidbalaaGreatDoorW29x
namespace Go.Proofs.YtmccfdmnidbalaaGreatDoor
open Go.RowKit K
namespace W
/-- What small tells. -/
structure SmallOK (ls : List (List UInt8)) (fs : List Fi) (cwd : List UInt8) : Prop where
  na : ls.length ≤ 12
  la : ∀ s ∈ ls, s.length ≤ 40
  nf : fs.length ≤ 40
  lf : ∀ f ∈ fs, P.smOK f
  vf : P.VF fs
  lc : cwd.length ≤ 200
set_option maxHeartbeats 1000000 in
theorem small_any (v f : Value) (ls : List (List UInt8)) (fs : List Fi) (cwd : List UInt8) (w : World) (hA : ∃ A cap, v = .slice A ls.length cap ∧ SL w A ls) (hl : ls.length ≤ 9223372036854775807) (hV : FV w f fs) :
    Calls Tryz.prog 4 #[v, f, .string ⟨cwd.toArray⟩] w fun e w' => BWhen (SmallOK ls fs cwd) e ∧ Below w.heap.size w w' := by
  have HS := Lib.hid (Short_ref v ls w hA hl)
  have HSM := Lib.hid (fun h => Small_ref f fs w hV h)
  have HV := Lib.hid (fun w' (h : Below w.heap.size w w') h1 h2 => Valid_ref f fs w' (hV.below h) h1 h2)
  obtain ⟨A, cap, rfl, -⟩ := hA
  obtain ⟨Af, capf, rfl, hc1, hc2, -⟩ := hV
  go_enter Tryz.func4, Tryz.ntmps4
  go_wp2_with fail
  refine HS.out.mono ?_
  rintro e w1 ⟨⟨b1, rfl, h1⟩, rfl⟩
  cases b1 with
  | false =>
    go_wp2
    go_ret
    exact ⟨⟨_, rfl, fun h => by cases h⟩, Below.refl _ _⟩
  | true =>
  have H1 := Lib.hid (h1 rfl)
  clear h1
  by_cases hn : fs.length ≤ 40
  case neg =>
    have n1 : ((fs.length : Int) ≤ 40) = False := eq_false (by omega)
    have n2 : decide ((fs.length : Int) ≤ 40) = false := decide_eq_false (by omega)
    clear hn
    go_wp2
    go_ret
    exact ⟨⟨_, rfl, fun h => by cases h⟩, Below.refl _ _⟩
  have n1 : ((fs.length : Int) ≤ 40) = True := eq_true (by omega)
  have HN := Lib.hid hn
  clear hn
  go_wp2_with fail
  refine (HSM.out HN.out).mono ?_
  rintro e w1 ⟨⟨b2, rfl, h2⟩, hb2⟩
  have HB2 := Lib.hid hb2
  clear hb2
  cases b2 with
  | false =>
    go_wp2
    go_ret
    exact ⟨⟨_, rfl, fun h => by cases h⟩, HB2.out⟩
  | true =>
  have H2 := Lib.hid (h2 rfl)
  clear h2
  go_wp2_with fail
  refine (HV.out _ HB2.out HN.out H2.out).mono ?_
  rintro e w2 ⟨⟨z, rfl, h3⟩, hb3⟩
  have HB3 := Lib.hid (btr HB2.out hb3)
  clear hb3
  by_cases hz : z = 0
  case neg =>
    have z1 : (z == 0) = false := by simpa using hz
    clear hz h3
    go_wp2
    go_ret
    exact ⟨⟨_, rfl, fun h => by cases h⟩, HB3.out⟩
  have z1 : (z == 0) = true := by simpa using hz
  have H3 := Lib.hid (h3 hz)
  clear hz h3
  by_cases hc : cwd.length ≤ 200
  · have e1 : ((cwd.length : Int) ≤ 200) = True := eq_true (by omega)
    have HC := Lib.hid hc
    clear hc
    go_wp2
    go_ret
    exact ⟨⟨_, rfl, fun _ => ⟨H1.out.1, H1.out.2, HN.out, H2.out, H3.out, HC.out⟩⟩, HB3.out⟩
  · have e1 : ((cwd.length : Int) ≤ 200) = False := eq_false (by omega)
    clear hc
    go_wp2
    go_ret
    exact ⟨⟨_, rfl, fun h => by cases h⟩, HB3.out⟩
end W
end Go.Proofs.YtmccfdmnidbalaaGreatDoor
