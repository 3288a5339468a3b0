/- Chapter 29: the law TestexprEvals walked. -/
import Derived.Test.YtmccfdmnidbalaaGreatDoorR29j
import Derived.Test.YtmccfdmnidbalaaGreatDoorP29g
import Derived.Test.YtmccfdmnidbalaaGreatDoorW29q
namespace Go.Proofs.YtmccfdmnidbalaaGreatDoor
open Go.RowKit K
namespace W
/-- A value that reads as a list of strings. -/
def StV (w : World) (v : Value) (ls : List (List UInt8)) : Prop := ∃ A c, v = .slice A ls.length c ∧ ls.length ≤ c ∧ c ≤ 8796093022208 ∧ (A = none → c = 0) ∧ SL w A ls
theorem StV.below {w w' : World} {v : Value} {ls : List (List UInt8)} (h : StV w v ls) (hb : Below w.heap.size w w') : StV w' v ls := by
  obtain ⟨A, c, h1, h2, h3, h4, h5⟩ := h
  exact ⟨A, c, h1, h2, h3, h4, h5.below hb⟩
theorem StV.rv {w : World} {v : Value} {ls : List (List UInt8)} (h : StV w v ls) : RV w v ls := by
  obtain ⟨A, c, h1, h2, h3, h4, h5⟩ := h
  exact ⟨A, c, h1, h2, by omega, h5⟩
set_option maxHeartbeats 4000000 in
set_option maxRecDepth 100000 in
theorem TestexprEvals_any (v : Value) (ls : List (List UInt8)) (f : Value) (fs : List Fi) (cwd : List UInt8) (w : World) (hA : StV w v ls) (hV : FV w f fs) (hw : Env w) :
    Calls Tryz.prog 3 #[v, f, .string ⟨cwd.toArray⟩] w fun e w' => e = .returned (.bool true) ∧ Below w.heap.size w w' := by
  have HA := Lib.hid (fun w' (hb : Below w.heap.size w w') => awake_any w' (hw.below hb))
  have HEV := Lib.hid (fun (ok : SmallOK ls fs cwd) w1 (hb : Below w.heap.size w w1) => Eval_of w1 f cwd fs ⟨hw.below hb, hV.below hb, by have := ok.nf; omega, by have := ok.lc; omega, path_all _⟩ v ls (hA.below hb).rv (fun s hs => ⟨by have := ok.la s hs; omega, path_all s⟩))
  have HER := Lib.hid (fun (ok : SmallOK ls fs cwd) w1 (hb : Below w.heap.size w w1) => Eval_ref w1 f cwd fs v ls (hV.below hb) (by have := ok.nf; omega) (by have := ok.lc; omega) (hA.below hb).rv (fun s hs => by have := ok.la s hs; omega) (by have := ok.na; omega))
  have HEQ := Lib.hid (P.eval_eq (P.lookF fs cwd) ls)
  unfold EPost at HEV HER
  generalize P.evalP (P.lookF fs cwd) ls = q1 at HEV HEQ
  generalize P.evalR (P.lookF fs cwd) ls = q2 at HER HEQ
  obtain rfl : q1 = q2 := HEQ.out
  obtain ⟨x, y⟩ := q1
  simp only at HEV HER
  obtain ⟨A, cap, rfl, hc1, hc2, hc3, hSL⟩ := hA
  have HS := Lib.hid (small_any (.slice A ls.length cap) f ls fs cwd w ⟨_, _, rfl, hSL⟩ (by omega) hV)
  obtain ⟨Af, capf, rfl, hf1, hf2, hF⟩ := hV
  clear hF hw hSL hc3 HEQ
  go_enter Tryz.func3, Tryz.ntmps3
  go_wp2_with fail
  refine HS.out.mono ?_
  rintro e w1 ⟨⟨b, rfl, hok⟩, hb1⟩
  have HB1 := Lib.hid hb1
  clear hb1
  cases b with
  | false =>
    go_wp2_with fail
    refine (HA.out _ HB1.out).mono ?_
    rintro e w2 ⟨rfl, hb2⟩
    have HB2 := Lib.hid (btr HB1.out hb2)
    clear hb2
    go_wp2
    go_ret
    exact ⟨rfl, HB2.out⟩
  | true =>
  have HOK := Lib.hid (hok rfl)
  clear hok
  go_wp2_with fail
  refine (HEV.out HOK.out w1 HB1.out).mono ?_
  rintro e w2 ⟨rfl, hb2⟩
  have HB2 := Lib.hid (btr HB1.out hb2)
  clear hb2
  go_wp2_with fail
  refine (HER.out HOK.out w2 HB2.out).mono ?_
  rintro e w3 ⟨rfl, hb3⟩
  have HB3 := Lib.hid (btr HB2.out hb3)
  clear hb3
  have e1 : (x == x) = true := by cases x <;> rfl
  have e2 : (y == y) = true := by simp
  go_wp2_with fail
  refine (HA.out _ HB3.out).mono ?_
  rintro e w4 ⟨rfl, hb4⟩
  have HB4 := Lib.hid (btr HB3.out hb4)
  clear hb4
  go_wp2
  go_ret
  exact ⟨rfl, HB4.out⟩
end W
end Go.Proofs.YtmccfdmnidbalaaGreatDoor
