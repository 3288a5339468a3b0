/- Chapter 43: the walk of the law HistoryFinds. -/
import Derived.Test.YtbiilbdflmiehaaDoorW43l
import Derived.Test.YtbiilbdflmiehaaDoorW43d
import Derived.Deep.RegionHeld3
import Derived.OpenShut
namespace Go.Proofs.YtbiilbdflmiehaaDoor
open Go.RowKit K
namespace W

set_option maxHeartbeats 4000000 in
set_option maxRecDepth 100000 in
theorem HistoryFinds_walk (v : Value) (first : Int) (ls : List (List UInt8)) (n : Int) (hnf : (Lit.int .i64 n).wf = true) (s : List UInt8) (w : World) (hV : HV w v first ls) (hn : ls.length ≤ 8796093022208) (hs : ∀ s ∈ ls, s.length ≤ 140737488351232) (_hs : s.length ≤ 9223372036854775807) (hw : Env w) :
    Calls Tryd.prog 5 #[v, .int .i64 n, .string ⟨s.toArray⟩] w fun e w' => e = .returned (.bool true) ∧ Below w.heap.size w w' := by
  have HA := Lib.hid awake_any
  have HOK := Lib.hid (fun w' (hb : Below w.heap.size w w') => ok_any v first ls w' (hV.below hb) hn hs)
  have HV0 := Lib.hid hV
  obtain ⟨A, c, rfl, -, hd, -, -⟩ := hV
  obtain ⟨x0, q0, hX0, hy0, hz0⟩ := Box2.fresh w first A ls.length c 24
  have HX0 := Lib.hid hX0
  have Q0 := Lib.hid q0
  have HB0 := Lib.hid hy0
  have HE := Lib.hid hw
  clear hX0 q0 hy0 hw hs
  simp only [hv] at *
  cases hok : P.okB first ls with
  | false =>
    rw [hok] at HOK
    clear hok
    go_enter Tryd.func5, Tryd.ntmps5
    go_wp2_with fail
    rw [← Q0.out]
    refine (HOK.out _ HB0.out).mono ?_
    rintro e w1 ⟨rfl, hb1⟩
    have B1 := Lib.hid (btr HB0.out hb1)
    have HX1 := Lib.hid (HX0.out.later hb1)
    clear hb1
    go_wp2_with fail
    refine (HA.out _ (HE.out.below B1.out)).mono ?_
    rintro e w2 ⟨rfl, hb2⟩
    have B2 := Lib.hid (btr B1.out hb2)
    clear hb2
    go_wp2
    go_ret
    exact ⟨rfl, B2.out⟩
  | true =>
    rw [hok] at HOK
    obtain ⟨hval, htot⟩ := P.okB_parts hok
    obtain ⟨p1, p2, p3, -⟩ := P.valid_parts hval
    have HVAL := Lib.hid hval
    clear hok hval
    by_cases hl : 500 < s.length
    · have fl : ((500 : Int) < (s.length : Int)) = True := eq_true (by omega)
      clear hl
      go_enter Tryd.func5, Tryd.ntmps5
      go_wp2_with fail
      rw [← Q0.out]
      refine (HOK.out _ HB0.out).mono ?_
      rintro e w1 ⟨rfl, hb1⟩
      have B1 := Lib.hid (btr HB0.out hb1)
      have HX1 := Lib.hid (HX0.out.later hb1)
      clear hb1
      go_wp2_with fail
      refine (HA.out _ (HE.out.below B1.out)).mono ?_
      rintro e w2 ⟨rfl, hb2⟩
      have B2 := Lib.hid (btr B1.out hb2)
      clear hb2
      go_wp2
      go_ret
      exact ⟨rfl, B2.out⟩
    · have fl : ((500 : Int) < (s.length : Int)) = False := eq_false (by omega)
      have hsl : s.length ≤ 500 := by omega
      have HL := Lib.hid hl
      clear hl
      obtain ⟨n1, n2⟩ := bounds_i64 hnf
      have HM := Lib.hid (show ∀ s ∈ ls, s.length ≤ 31000 from fun s hs => by have := P.total_mem hs; omega)
      have h1 := Lib.hid (fun w h => Get_any (hv first A ls.length c) first ls n w h p1 p2 p3 n1 n2)
      have h2 := Lib.hid (fun w h => Get_ref (hv first A ls.length c) first ls n w h p1 p2 p3)
      have h3 := Lib.hid (fun w h e => Begins_any (hv first A ls.length c) first ls s 31000 w h p1 p2 p3 HM.out (by omega) e)
      have h4 := Lib.hid (fun w h => Begins_ref (hv first A ls.length c) first ls s 31000 w h p1 p2 p3 HM.out (by omega) (by omega))
      have h5 := Lib.hid (fun w h e => Contains_any (hv first A ls.length c) first ls s 31000 w h p1 p2 p3 HM.out (by omega) e)
      have h6 := Lib.hid (fun w h => Contains_ref (hv first A ls.length c) first ls s 31000 w h p1 p2 p3 HM.out (by omega) (by omega))
      have h7 := Lib.hid (fun w h e => Save_any (hv first A ls.length c) first ls w h (by omega) p2 p3 (by omega) e)
      have h8 := Lib.hid (fun w h e => Save_ref (hv first A ls.length c) first ls w h (by omega) p2 p3 (by omega) e)
      obtain ⟨⟨ga, gz⟩, hg⟩ : ∃ g, P.getH first ls n = g := ⟨_, rfl⟩
      obtain ⟨ob, hob⟩ : ∃ g, P.findH (fun t => P.begins t s) first ls ls.length = g := ⟨_, rfl⟩
      obtain ⟨oc, hoc⟩ : ∃ g, P.findH (fun t => P.contains t s) first ls ls.length = g := ⟨_, rfl⟩
      obtain ⟨sv, hsv⟩ : ∃ g, P.saveH first ls = g := ⟨_, rfl⟩
      rw [hg] at h1 h2
      rw [hob] at h3 h4
      rw [hoc] at h5 h6
      rw [hsv] at h7 h8
      clear hg hob hoc hsv
      go_enter Tryd.func5, Tryd.ntmps5
      go_wp2_with fail
      rw [← Q0.out]
      refine (HOK.out _ HB0.out).mono ?_
      rintro e w1 ⟨rfl, hb1⟩
      have B1 := Lib.hid (btr HB0.out hb1)
      have HX1 := Lib.hid (HX0.out.later hb1)
      obtain ⟨f0, f1', f2, f3⟩ := HX1.out.cells
      clear hb1
      go_wp2_with fail
      refine (h1.out _ (HV0.out.below B1.out)).mono ?_
      rintro e w2 ⟨rfl, hb2⟩
      have B2 := Lib.hid (btr B1.out hb2)
      have HX2 := Lib.hid (HX1.out.later hb2)
      clear hb2 f0 f1' f2 f3
      obtain ⟨f0, f1', f2, f3⟩ := HX2.out.cells
      simp only [strNum]
      go_wp2_with fail
      refine (h2.out _ (HV0.out.below B2.out)).mono ?_
      rintro e w3 ⟨rfl, hb3⟩
      have B3 := Lib.hid (btr B2.out hb3)
      have HX3 := Lib.hid (HX2.out.later hb3)
      clear hb3 f0 f1' f2 f3
      obtain ⟨f0, f1', f2, f3⟩ := HX3.out.cells
      simp only [strNum]
      go_wp2_with fail
      refine (h3.out _ (HV0.out.below B3.out) (HE.out.below B3.out)).mono ?_
      rintro e w4 ⟨rfl, hb4⟩
      have B4 := Lib.hid (btr B3.out hb4)
      have HX4 := Lib.hid (HX3.out.later hb4)
      clear hb4 f0 f1' f2 f3
      obtain ⟨f0, f1', f2, f3⟩ := HX4.out.cells
      simp only [optNum]
      go_wp2_with fail
      refine (h4.out _ (HV0.out.below B4.out)).mono ?_
      rintro e w5 ⟨rfl, hb5⟩
      have B5 := Lib.hid (btr B4.out hb5)
      have HX5 := Lib.hid (HX4.out.later hb5)
      clear hb5 f0 f1' f2 f3
      obtain ⟨f0, f1', f2, f3⟩ := HX5.out.cells
      simp only [optNum]
      go_wp2_with fail
      refine (h5.out _ (HV0.out.below B5.out) (HE.out.below B5.out)).mono ?_
      rintro e w6 ⟨rfl, hb6⟩
      have B6 := Lib.hid (btr B5.out hb6)
      have HX6 := Lib.hid (HX5.out.later hb6)
      clear hb6 f0 f1' f2 f3
      obtain ⟨f0, f1', f2, f3⟩ := HX6.out.cells
      simp only [optNum]
      go_wp2_with fail
      refine (h6.out _ (HV0.out.below B6.out)).mono ?_
      rintro e w7 ⟨rfl, hb7⟩
      have B7 := Lib.hid (btr B6.out hb7)
      have HX7 := Lib.hid (HX6.out.later hb7)
      clear hb7 f0 f1' f2 f3
      obtain ⟨f0, f1', f2, f3⟩ := HX7.out.cells
      simp only [optNum]
      generalize ob.getD 0 = b1
      generalize ob.isSome = b2
      generalize oc.getD 0 = b3
      generalize oc.isSome = b4
      have HVw := Lib.hid (fun w' (hb : Below w7.heap.size w7 w') => HV0.out.below (btr B7.out hb))
      have HEw := Lib.hid (fun w' (hb : Below w7.heap.size w7 w') => HE.out.below (btr B7.out hb))
      go_wp2_with fail
      go_region_held3 (fun w' => w'.cell? ⟨w.heap.size, 0, none⟩ = some (.int .i64 first) ∧ w'.cell? ⟨w.heap.size, 1, none⟩ = some (.slice A ls.length c) ∧ Below w7.heap.size w7 w')
        (first | exact ⟨by simpa using f0, by simpa using f1', (Below.refl _ _).drew⟩ | (go_split_ands; exact ⟨((HX7.out.later (btr ‹Below w7.heap.size w7 _› ‹_›)).cells).1, ((HX7.out.later (btr ‹Below w7.heap.size w7 _› ‹_›)).cells).2.1, btr ‹Below w7.heap.size w7 _› ‹_›⟩) | go_keep)
        (first
          | (go_at_call 24; go_split_ands; refine (h7.out _ (HVw.out _ ‹_›) (HEw.out _ ‹_›)).mono ?_; rintro e w8 ⟨rfl, hb8⟩)
          | (go_at_call 25; go_split_ands; refine (h8.out _ (HVw.out _ ‹_›) (HEw.out _ ‹_›)).mono ?_; rintro e w8 ⟨rfl, hb8⟩)
          | (go_at_call 13; go_split_ands; refine (HA.out _ (HEw.out _ ‹_›)).mono ?_; rintro e w8 ⟨rfl, hb8⟩))
      all_goals go_wp2
      all_goals go_split_ands
      all_goals go_ret
      all_goals exact ⟨rfl, btr B7.out ‹Below w7.heap.size w7 w8›⟩
end W
end Go.Proofs.YtbiilbdflmiehaaDoor
