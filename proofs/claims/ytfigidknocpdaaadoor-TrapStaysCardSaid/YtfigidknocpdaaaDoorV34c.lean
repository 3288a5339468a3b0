/- Chapter 34: the law TrapStays, walked. -/
import Derived.Test.YtfigidknocpdaaaDoorV34b
namespace Go.Proofs.YtfigidknocpdaaaDoor
open Go.RowKit K
namespace W
theorem Right_true (v : Value) (ts : List Tr) (w : World) (hV : TV w v ts) (hn : ts.length ≤ 1000) (hr : P.right ts = true) :
    Calls Tryd.prog 30 #[v] w fun e w' => e = .returned (.bool true) ∧ Below w.heap.size w w' :=
  (Right_ref v ts w hV (by omega)).mono fun _ _ ⟨h1, h2⟩ => ⟨by rw [h1, hr], h2⟩

set_option maxHeartbeats 2000000 in
set_option maxRecDepth 100000 in
theorem TrapStays_any (v : Value) (ts : List Tr) (sig : Int) (_hsig : (Lit.int .i64 sig).wf = true) (a b : List UInt8) (w : World) (hV : TV w v ts) (hS : ∀ t ∈ ts, t.2.length ≤ 140737488351232) (hw : Env w) :
    Calls Tryd.prog 9 #[v, .int .i64 sig, .string ⟨a.toArray⟩, .string ⟨b.toArray⟩] w fun e w' => e = .returned (.bool true) ∧ Below w.heap.size w w' := by
  have HA := Lib.hid (fun w' (hb : Below w.heap.size w w') => awake_any w' (hw.below hb))
  have HOK := Lib.hid (ok_any v ts w hV hS)
  obtain ⟨A, c, hv, -⟩ := id hV
  cases hok : P.okB ts with
  | false =>
    rw [hok] at HOK
    subst hv
    clear hok hS hw hV
    go_enter Tryd.func9, Tryd.ntmps9
    go_wp2_with fail; refine (HOK.out).mono ?_; rintro e w1 ⟨rfl, hb⟩
    have HB := Lib.hid hb
    clear hb
    go_wp2_with fail
    refine (HA.out _ HB.out).mono ?_
    rintro e w2 ⟨rfl, hb2⟩
    have HB2 := Lib.hid (btr HB.out hb2)
    clear hb2
    go_wp2
    go_ret
    exact ⟨rfl, HB2.out⟩
  | true =>
    rw [hok] at HOK
    obtain ⟨hn, hr, hsm⟩ := P.ok_len hok
    by_cases hl : 500 < a.length
    · have e1 : ((500 : Int) < (a.length : Int)) = True := eq_true (by omega)
      subst hv
      clear hok hS hw hV hl hn hr hsm
      go_enter Tryd.func9, Tryd.ntmps9
      go_wp2_with fail; refine (HOK.out).mono ?_; rintro e w1 ⟨rfl, hb⟩
      have HB := Lib.hid hb
      clear hb
      go_wp2_with fail
      refine (HA.out _ HB.out).mono ?_
      rintro e w2 ⟨rfl, hb2⟩
      have HB2 := Lib.hid (btr HB.out hb2)
      clear hb2
      go_wp2
      go_ret
      exact ⟨rfl, HB2.out⟩
    · have e1 : ((500 : Int) < (a.length : Int)) = False := eq_false (by omega)
      by_cases hl2 : 500 < b.length
      · have e2 : ((500 : Int) < (b.length : Int)) = True := eq_true (by omega)
        subst hv
        clear hok hS hw hV hl hl2 hn hr hsm
        go_enter Tryd.func9, Tryd.ntmps9
        go_wp2_with fail; refine (HOK.out).mono ?_; rintro e w1 ⟨rfl, hb⟩
        have HB := Lib.hid hb
        clear hb
        go_wp2_with fail
        refine (HA.out _ HB.out).mono ?_
        rintro e w2 ⟨rfl, hb2⟩
        have HB2 := Lib.hid (btr HB.out hb2)
        clear hb2
        go_wp2
        go_ret
        exact ⟨rfl, HB2.out⟩
      · have e2 : ((500 : Int) < (b.length : Int)) = False := eq_false (by omega)
        have H1 := Lib.hid (fun w' (hb : Below w.heap.size w w') => Set_v v ts sig a w' (hV.below hb) (by omega))
        have H2 := Lib.hid (fun w' (hb : Below w.heap.size w w') => (Reset_any v ts sig w' (hV.below hb) (by omega)).mono fun _ _ h => h.v)
        have H7 := Lib.hid (fun w' (hb : Below w.heap.size w w') => (Sub_any v ts w' (hV.below hb) (by omega)).mono fun _ _ h => h.v)
        have H9 := Lib.hid (fun w' (hb : Below w.heap.size w w') => Set_v v ts sig b w' (hV.below hb) (by omega))
        have HLX := Lib.hid (show (P.setA ts sig a).length ≤ 100 by have := P.setA_len ts sig a; omega)
        have HLY := Lib.hid (show (P.reset ts sig).length ≤ 100 by have := P.reset_len ts sig; omega)
        have HLZ := Lib.hid (show (P.sub ts).length ≤ 1000 by have := List.length_filter_le P.subB ts; unfold P.sub; omega)
        have HLB := Lib.hid (show (P.setA ts sig b).length ≤ 1000 by have := P.setA_len ts sig b; omega)
        have HRX := Lib.hid (P.setA_right (sig := sig) (a := a) hr)
        have HRY := Lib.hid (show P.right (P.reset ts sig) = true from P.rightL_filter _ hr)
        have HRZ := Lib.hid (show P.right (P.sub ts) = true from P.rightL_filter _ hr)
        have H8 := Lib.hid (fun v' w' (hx : TV w' v' (P.setA ts sig a)) => Set_v v' (P.setA ts sig a) sig b w' hx (by have := HLX.out; omega))
        rw [P.setA_twice hr] at H8
        have H10 := Lib.hid (fun v' w' (hx : TV w' v' (P.setA ts sig a)) => (Reset_any v' (P.setA ts sig a) sig w' hx (by have := HLX.out; omega)).mono fun _ _ h => h.v)
        rw [P.reset_setA hr] at H10
        have HYE := Lib.hid (fun (h : (P.reset ts sig).length = ts.length) => P.reset_full h)
        have hyl := P.reset_len ts sig
        have HVV := Lib.hid hV
        generalize P.setA ts sig a = X at H1 HLX HRX H8 H10
        generalize P.reset ts sig = Y at H2 HLY HRY H10 HYE hyl
        generalize P.sub ts = Z at H7 HLZ HRZ
        generalize P.setA ts sig b = B at H8 H9 HLB
        subst hv
        clear hok hS hw hV hl hl2 hr hsm
        go_enter Tryd.func9, Tryd.ntmps9
        go_wp2_with fail; refine (HOK.out).mono ?_; rintro e w1 ⟨rfl, hb⟩
        have HB0 := Lib.hid hb
        clear hb
        go_wp2_with fail
        refine (H1.out _ HB0.out).mono ?_
        rintro e w1 ⟨v1, rfl, hx1, hb1⟩
        have HB1 := Lib.hid (btr HB0.out hb1)
        have X1 := Lib.hid hx1
        clear hx1
        clear hb1
        go_wp2_with fail
        refine (H2.out _ HB1.out).mono ?_
        rintro e w2 ⟨v2, rfl, hx2, hb2⟩
        have HB2 := Lib.hid (btr HB1.out hb2)
        have X2 := Lib.hid (X1.out.below hb2)
        obtain ⟨Ay, cy, rfl, -⟩ := id hx2
        have Y2 := Lib.hid hx2
        clear hx2
        clear hb2
        go_wp2_with fail
        refine (Right_true v1 X _ X2.out (by have := HLX.out; omega) HRX.out).mono ?_
        rintro e w3 ⟨rfl, hb3⟩
        have HB3 := Lib.hid (btr HB2.out hb3)
        have X3 := Lib.hid (X2.out.below hb3)
        have Y3 := Lib.hid (Y2.out.below hb3)
        clear hb3
        go_wp2_with fail
        refine (Right_true (.slice Ay Y.length cy) Y _ Y3.out (by have := HLY.out; omega) HRY.out).mono ?_
        rintro e w4 ⟨rfl, hb4⟩
        have HB4 := Lib.hid (btr HB3.out hb4)
        have X4 := Lib.hid (X3.out.below hb4)
        have Y4 := Lib.hid (Y3.out.below hb4)
        clear hb4
        go_wp2_with fail
        refine (H7.out _ HB4.out).mono ?_
        rintro e w5 ⟨v5, rfl, hx5, hb5⟩
        have HB5 := Lib.hid (btr HB4.out hb5)
        have X5 := Lib.hid (X4.out.below hb5)
        have Y5 := Lib.hid (Y4.out.below hb5)
        have Z5 := Lib.hid hx5
        clear hx5
        clear hb5
        go_wp2_with fail
        refine (Right_true v5 Z _ Z5.out HLZ.out HRZ.out).mono ?_
        rintro e w6 ⟨rfl, hb6⟩
        have HB6 := Lib.hid (btr HB5.out hb6)
        have X6 := Lib.hid (X5.out.below hb6)
        have Y6 := Lib.hid (Y5.out.below hb6)
        clear hb6
        go_wp2_with fail
        refine (H8.out v1 _ X6.out).mono ?_
        rintro e w7 ⟨v7, rfl, hx7, hb7⟩
        have HB7 := Lib.hid (btr HB6.out hb7)
        have X7 := Lib.hid (X6.out.below hb7)
        have Y7 := Lib.hid (Y6.out.below hb7)
        have B7 := Lib.hid hx7
        clear hx7
        clear hb7
        go_wp2_with fail
        refine (H9.out _ HB7.out).mono ?_
        rintro e w8 ⟨v8, rfl, hx8, hb8⟩
        have HB8 := Lib.hid (btr HB7.out hb8)
        have X8 := Lib.hid (X7.out.below hb8)
        have Y8 := Lib.hid (Y7.out.below hb8)
        have SB := Lib.hid (Same_eq v7 v8 B w8 (B7.out.below hb8) hx8 HLB.out)
        clear hx8
        clear hb8
        go_wp2_with fail
        refine (SB.out).mono ?_
        rintro e w9 ⟨rfl, hb9⟩
        have HB9 := Lib.hid (btr HB8.out hb9)
        have X9 := Lib.hid (X8.out.below hb9)
        have Y9 := Lib.hid (Y8.out.below hb9)
        clear hb9
        go_wp2_with fail
        refine (H10.out v1 _ X9.out).mono ?_
        rintro e w10 ⟨v10, rfl, hx10, hb10⟩
        have HB10 := Lib.hid (btr HB9.out hb10)
        have Y10 := Lib.hid (Y9.out.below hb10)
        have SY := Lib.hid (Same_eq v10 (.slice Ay Y.length cy) Y w10 hx10 (Y9.out.below hb10) (by have := HLY.out; omega))
        clear hx10
        clear hb10
        go_wp2_with fail
        refine (SY.out).mono ?_
        rintro e w11 ⟨rfl, hb11⟩
        have HB11 := Lib.hid (btr HB10.out hb11)
        have Y11 := Lib.hid (Y10.out.below hb11)
        clear hb11
        have g2 : ((Y.length : Int) ≤ (ts.length : Int)) = True := eq_true (by omega)
        by_cases hyy : Y.length = ts.length
        · have hYE := HYE.out hyy
          have g1 : ((Y.length : Int) != (ts.length : Int)) = false := by simp; omega
          have SL := Lib.hid (show Calls Tryd.prog 20 #[.slice Ay Y.length cy, .slice A ts.length c] w11 fun e w' => e = .returned (.bool true) ∧ Below w11.heap.size w11 w' by
            have h1 := Y11.out
            rw [hYE] at h1 ⊢
            exact Same_eq _ _ ts w11 h1 (HVV.out.below HB11.out) (by omega))
          clear hYE hyy
          go_wp2_with fail
          refine SL.out.mono ?_
          rintro e w12 ⟨rfl, hb12⟩
          have HB12 := Lib.hid (btr HB11.out hb12)
          clear hb12
          go_wp2_with fail
          refine (HA.out _ HB12.out).mono ?_
          rintro e w13 ⟨rfl, hb13⟩
          have HB13 := Lib.hid (btr HB12.out hb13)
          clear hb13
          go_wp2
          go_ret
          exact ⟨rfl, HB13.out⟩
        · have g1 : ((Y.length : Int) != (ts.length : Int)) = true := by simp; omega
          clear hyy
          go_wp2_with fail
          refine (HA.out _ HB11.out).mono ?_
          rintro e w13 ⟨rfl, hb13⟩
          have HB13 := Lib.hid (btr HB11.out hb13)
          clear hb13
          go_wp2
          go_ret
          exact ⟨rfl, HB13.out⟩
end W
end Go.Proofs.YtfigidknocpdaaaDoor
