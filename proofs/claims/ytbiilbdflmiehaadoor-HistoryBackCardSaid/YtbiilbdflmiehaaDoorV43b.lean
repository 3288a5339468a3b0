/- Chapter 43: the walk of the law HistoryBack. -/
import Derived.Test.YtbiilbdflmiehaaDoorW43l
import Derived.Test.YtbiilbdflmiehaaDoorW43d
namespace Go.Proofs.YtbiilbdflmiehaaDoor
open Go.RowKit K
namespace W

set_option maxHeartbeats 4000000 in
set_option maxRecDepth 100000 in
theorem HistoryBack_walk (v : Value) (first : Int) (ls : List (List UInt8)) (s : List UInt8) (w : World) (hV : HV w v first ls) (hn : ls.length ≤ 8796093022208) (hs : ∀ s ∈ ls, s.length ≤ 140737488351232) (_hs : s.length ≤ 9223372036854775807) (hw : Env w) :
    Calls Tryd.prog 7 #[v, .string ⟨s.toArray⟩] w fun e w' => e = .returned (.bool true) ∧ Below w.heap.size w w' := by
  have HA := Lib.hid awake_any
  have HOK := Lib.hid (fun w' (hb : Below w.heap.size w w') => ok_any v first ls w' (hV.below hb) hn hs)
  have HV0 := Lib.hid hV
  obtain ⟨A, c, rfl, -, hd, -, -⟩ := hV
  obtain ⟨x0, q0, hX0, hy0, hz0⟩ := Box2.fresh w first A ls.length c 24
  have HX0 := Lib.hid hX0
  have Q0 := Lib.hid q0
  have HB0 := Lib.hid hy0
  have HE := Lib.hid hw
  clear hX0 q0 hy0 hw hs
  simp only [hv] at *
  cases hok : P.okB first ls with
  | false =>
    rw [hok] at HOK
    clear hok
    go_enter Tryd.func7, Tryd.ntmps7
    go_wp2_with fail
    rw [← Q0.out]
    refine (HOK.out _ HB0.out).mono ?_
    rintro e w1 ⟨rfl, hb1⟩
    have B1 := Lib.hid (btr HB0.out hb1)
    have HX1 := Lib.hid (HX0.out.later hb1)
    clear hb1
    go_wp2_with fail
    refine (HA.out _ (HE.out.below B1.out)).mono ?_
    rintro e w2 ⟨rfl, hb2⟩
    have B2 := Lib.hid (btr B1.out hb2)
    clear hb2
    go_wp2
    go_ret
    exact ⟨rfl, B2.out⟩
  | true =>
    rw [hok] at HOK
    obtain ⟨hval, htot⟩ := P.okB_parts hok
    obtain ⟨p1, p2, p3, -⟩ := P.valid_parts hval
    have HVAL := Lib.hid hval
    clear hok hval
    by_cases hl : 30000 < s.length
    · have fl : ((30000 : Int) < (s.length : Int)) = True := eq_true (by omega)
      clear hl
      go_enter Tryd.func7, Tryd.ntmps7
      go_wp2_with fail
      rw [← Q0.out]
      refine (HOK.out _ HB0.out).mono ?_
      rintro e w1 ⟨rfl, hb1⟩
      have B1 := Lib.hid (btr HB0.out hb1)
      have HX1 := Lib.hid (HX0.out.later hb1)
      clear hb1
      go_wp2_with fail
      refine (HA.out _ (HE.out.below B1.out)).mono ?_
      rintro e w2 ⟨rfl, hb2⟩
      have B2 := Lib.hid (btr B1.out hb2)
      clear hb2
      go_wp2
      go_ret
      exact ⟨rfl, B2.out⟩
    · have fl : ((30000 : Int) < (s.length : Int)) = False := eq_false (by omega)
      have hsl : s.length ≤ 30000 := by omega
      have HL := Lib.hid hl
      clear hl
      have h1 := Lib.hid (fun w h e => Save_any (hv first A ls.length c) first ls w h (by omega) p2 p3 (by omega) e)
      have h2 := Lib.hid (fun w e => Load_any (P.saveH first ls) w (by have := P.itoa_len first (by omega) (by omega); simp [P.saveH, P.saveLines_len]; omega) e)
      have h3 := Lib.hid (fun w e => Load_any s w (by omega) e)
      have HSA := Lib.hid (fun va vb w h k => Same_ref va vb first first ls ls w h k (by omega) (by omega))
      rw [P.load_save HVAL.out] at h2
      obtain ⟨t, ht⟩ : ∃ t, P.saveH first ls = t := ⟨_, rfl⟩
      rw [ht] at h1 h2
      clear ht
      have hsv : ∀ f l, P.loadH s = (f, l, 0) → P.saveH f l = s ∧ P.valid f l = 0 := fun f l h => P.save_load h
      obtain ⟨R, hR⟩ : ∃ R, P.loadH s = R := ⟨_, rfl⟩
      rw [hR] at h3 hsv
      obtain ⟨f, l, z⟩ := R
      have HSV := Lib.hid hsv
      clear hR hsv
      go_enter Tryd.func7, Tryd.ntmps7
      go_wp2_with fail
      rw [← Q0.out]
      refine (HOK.out _ HB0.out).mono ?_
      rintro e w1 ⟨rfl, hb1⟩
      have B1 := Lib.hid (btr HB0.out hb1)
      have HX1 := Lib.hid (HX0.out.later hb1)
      obtain ⟨f0, f1', f2, f3⟩ := HX1.out.cells
      clear hb1
      go_wp2_with fail
      refine (h1.out _ (HV0.out.below B1.out) (HE.out.below B1.out)).mono ?_
      rintro e w2 ⟨rfl, hb2⟩
      have B2 := Lib.hid (btr B1.out hb2)
      have HX2 := Lib.hid (HX1.out.later hb2)
      clear hb2 f0 f1' f2 f3
      go_wp2_with fail
      refine (h2.out _ (HE.out.below B2.out)).mono ?_
      rintro e w3 ⟨v3, rfl, ⟨A3, c3, rfl, hc3, hd3, hA3, hS3⟩, hb3⟩
      simp only [hv] at hc3 hS3 ⊢
      obtain ⟨x3, q3, hX3, hy3, hz3⟩ := Box2.fresh w3 first A3 ls.length c3 24
      have Q3 := Lib.hid q3
      have HX3 := Lib.hid hX3
      have V3 := Lib.hid (show HV x3 (hv first A3 ls.length c3) first ls from ⟨A3, c3, rfl, hc3, hd3, hA3, hS3.below hy3⟩)
      have B3 := Lib.hid (btr B2.out (btr hb3 hy3))
      have HX3a := Lib.hid (HX2.out.later hb3)
      obtain ⟨f0, f1', f2, f3⟩ := HX3a.out.cells
      have g3 : w.heap.size < w3.heap.size := HX3a.out.lt
      clear hX3 q3 hS3 hb3 hy3 hA3
      go_wp2_with fail
      rw [← Q3.out]
      refine (HSA.out _ _ _ V3.out (HV0.out.below B3.out)).mono ?_
      rintro e w4 ⟨rfl, hb4⟩
      have B4 := Lib.hid (btr B3.out hb4)
      clear hb4 f0 f1' f2 f3
      simp only [and_self, decide_true]
      go_wp2_with fail
      refine (h3.out _ (HE.out.below B4.out)).mono ?_
      rintro e w5 ⟨v5, rfl, ⟨A5, c5, rfl, hc5, hd5, hA5, hS5⟩, hb5⟩
      simp only [hv] at hc5 hS5 ⊢
      obtain ⟨x5, q5, hX5, hy5, hz5⟩ := Box2.fresh w5 f A5 l.length c5 24
      have Q5 := Lib.hid q5
      have HX5 := Lib.hid hX5
      have V5 := Lib.hid (show HV x5 (hv f A5 l.length c5) f l from ⟨A5, c5, rfl, hc5, hd5, hA5, hS5.below hy5⟩)
      have B5 := Lib.hid (btr B4.out (btr hb5 hy5))
      clear hX5 q5 hS5 hb5 hy5 hA5
      by_cases hz : z = 0
      · subst hz
        obtain ⟨r1, r2⟩ := HSV.out f l rfl
        obtain ⟨s1, s2, s3, -⟩ := P.valid_parts r2
        have htl : P.total l ≤ 30000 := by
          have := congrArg List.length r1
          simp [P.saveH, P.saveLines_len] at this
          omega
        have hmem : ∀ y ∈ l, y.length ≤ 30000 := fun y hy => by have := P.total_mem hy; omega
        have HMEM := Lib.hid hmem
        have h6 := Lib.hid (fun w h e => Save_any (hv f A5 l.length c5) f l w h (by omega) s2 s3 (by omega) e)
        have h7 := Lib.hid (fun w (h : SL w A5 l) => Valid_any f A5 c5 l 30000 w (by omega) h HMEM.out (by omega))
        rw [r1] at h6
        rw [r2] at h7
        clear r1 r2 hmem
        go_wp2_with fail
        rw [← Q5.out]
        refine (h6.out _ V5.out (HE.out.below B5.out)).mono ?_
        rintro e w6 ⟨rfl, hb6⟩
        have B6 := Lib.hid (btr B5.out hb6)
        have HX6 := Lib.hid (HX5.out.later hb6)
        obtain ⟨f0, f1', f2, f3⟩ := HX6.out.cells
        have V6 := Lib.hid (V5.out.below hb6)
        clear hb6
        obtain ⟨A6, c6, e6, -, -, -, hS6⟩ := V6.out
        unfold hv at e6
        simp only [Value.agg.injEq, Array.mk.injEq, List.cons.injEq, Value.slice.injEq, and_true, true_and] at e6
        obtain ⟨rfl, rfl⟩ := e6
        have HS6 := Lib.hid hS6
        clear hS6
        go_wp2_with fail
        refine (h7.out _ HS6.out).mono ?_
        rintro e w7 ⟨rfl, hb7⟩
        have B7 := Lib.hid (btr B6.out hb7)
        clear hb7
        go_wp2_with fail
        refine (HA.out _ (HE.out.below B7.out)).mono ?_
        rintro e w8 ⟨rfl, hb8⟩
        have B8 := Lib.hid (btr B7.out hb8)
        clear hb8
        go_wp2
        go_ret
        exact ⟨rfl, B8.out⟩
      · have fz : (z != 0) = true := by simp [hz]
        clear hz
        go_wp2_with fail
        rw [← Q5.out]
        refine (HA.out _ (HE.out.below B5.out)).mono ?_
        rintro e w8 ⟨rfl, hb8⟩
        have B8 := Lib.hid (btr B5.out hb8)
        clear hb8
        go_wp2
        go_ret
        exact ⟨rfl, B8.out⟩
end W
end Go.Proofs.YtbiilbdflmiehaaDoor
