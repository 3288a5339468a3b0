/- Chapter 43: ok, and the examples (awake). -/
import Derived.Test.YtbiilbdflmiehaaDoorW43k
namespace Go.Proofs.YtbiilbdflmiehaaDoor
open Go.RowKit K
namespace P
def okB (first : Int) (ls : List (List UInt8)) : Bool := small ls && decide (valid first ls = 0)
theorem okB_parts {first : Int} {ls : List (List UInt8)} (h : okB first ls = true) : valid first ls = 0 ∧ total ls ≤ 31000 := by
  unfold okB at h
  simp only [Bool.and_eq_true, decide_eq_true_eq] at h
  exact ⟨h.2, (small_total h.1).2⟩
end P
namespace W

theorem ok_any (v : Value) (first : Int) (ls : List (List UInt8)) (w : World) (hV : HV w v first ls) (hn : ls.length ≤ 8796093022208) (hs : ∀ s ∈ ls, s.length ≤ 140737488351232) :
    Calls Tryd.prog 14 #[v] w fun e w' => e = .returned (.bool (P.okB first ls)) ∧ Below w.heap.size w w' := by
  obtain ⟨A, c, rfl, _, _, _, hS⟩ := hV
  obtain ⟨w0, h0, hX, hb0, hsz0⟩ := Box2.fresh w first A ls.length c 24
  have HSM := Lib.hid (Small_ref first A c ls _ w0 hn (hS.below hb0) hs (Nat.le_refl _))
  have HX := Lib.hid hX
  have HB0 := Lib.hid hb0
  have H0 := Lib.hid h0
  have HS := Lib.hid hS
  cases hsm : P.small ls with
  | false =>
    have HG := Lib.hid (show P.okB first ls = false by unfold P.okB; rw [hsm]; rfl)
    have HSM2 := HSM
    rw [hsm] at HSM2
    clear hsm hS hs h0 hX hb0 HSM
    unfold hv at *
    go_enter Tryd.func14, Tryd.ntmps14
    go_wp2_with fail
    rw [← H0.out]
    refine HSM2.out.mono ?_
    rintro e w1 ⟨rfl, hb1⟩
    have HB1 := Lib.hid (btr HB0.out hb1)
    clear hb1
    go_wp2
    go_ret
    exact ⟨ret_bool HG.out.symm, HB1.out⟩
  | true =>
    have HG := Lib.hid (show P.okB first ls = decide (P.valid first ls = 0) by unfold P.okB; rw [hsm]; rfl)
    have HSM2 := HSM
    obtain ⟨l1, l2⟩ := P.small_total hsm
    have HVR := Lib.hid (fun w' (hb : Below w.heap.size w w') => Valid_ref first A c ls 31000 w' hn (hS.below hb) (fun s hs => by have := P.total_mem hs; omega) (by omega))
    rw [hsm] at HSM2
    obtain ⟨V, hV⟩ : ∃ V, P.valid first ls = V := ⟨_, rfl⟩
    rw [hV] at HVR HG
    clear hsm hS hs h0 hX hb0 HSM hV
    unfold hv at *
    go_enter Tryd.func14, Tryd.ntmps14
    go_wp2_with fail
    rw [← H0.out]
    refine HSM2.out.mono ?_
    rintro e w1 ⟨rfl, hb1⟩
    have HB1 := Lib.hid (btr HB0.out hb1)
    obtain ⟨c0, c1, _, _⟩ := (HX.out.later hb1).cells
    clear hb1
    go_wp2_with fail
    refine (HVR.out _ HB1.out).mono ?_
    rintro e w2 ⟨rfl, hb2⟩
    have HB2 := Lib.hid (btr HB1.out hb2)
    clear hb2
    go_wp2
    go_ret
    exact ⟨ret_bool (by rw [HG.out]; rfl), HB2.out⟩

theorem HV.mk0 (w : World) (first : Int) : HV w (hv first none 0 0) first [] := ⟨none, 0, rfl, by simp, by omega, fun _ => rfl, SL.nil _ _⟩

set_option maxHeartbeats 2000000 in
set_option maxRecDepth 100000 in
theorem awake_any (w : World) (hw : Env w) :
    Calls Tryd.prog 13 #[] w fun e w' => e = .returned (.bool true) ∧ Below w.heap.size w w' := by
  have a1 := Lib.hid (fun w => Add_any (hv 1 none 0 0) 1 [] [108, 115] w (HV.mk0 w 1) (by simp) (by omega) (by omega) (by simp))
  have a2 := Lib.hid (fun w A c h => Add_any (hv 1 A 1 c) 1 [[108, 115]] [108, 115] w h (by simp) (by omega) (by omega) (by simp))
  have a3 := Lib.hid (fun w A c h => Add_any (hv 1 A 1 c) 1 [[108, 115]] [99, 100, 32, 120] w h (by simp) (by omega) (by omega) (by simp))
  have a4 := Lib.hid (fun w A c h => Get_any (hv 1 A 2 c) 1 [[108, 115], [99, 100, 32, 120]] 2 w h (by simp) (by omega) (by omega) (by omega) (by omega))
  have a5 := Lib.hid (fun w A c h e => Begins_any (hv 1 A 2 c) 1 [[108, 115], [99, 100, 32, 120]] [108] 10 w h (by simp) (by omega) (by omega) (by intro s hs; simp at hs; rcases hs with rfl | rfl <;> simp) (by omega) e)
  have a6 := Lib.hid (fun w A c h e => Contains_any (hv 1 A 2 c) 1 [[108, 115], [99, 100, 32, 120]] [100, 32, 120] 10 w h (by simp) (by omega) (by omega) (by intro s hs; simp at hs; rcases hs with rfl | rfl <;> simp) (by omega) e)
  have a7 := Lib.hid (fun w e => Load_any [49, 10, 108, 115] w (by simp) e)
  have a8 := Lib.hid (fun w e => Load_any [48, 49, 10] w (by simp) e)
  have a9 := Lib.hid (fun w e => Load_any [49, 10, 10] w (by simp) e)
  have aS := Lib.hid (fun w A c h e => Save_any (hv 1 A 2 c) 1 [[108, 115], [99, 100, 32, 120]] w h (by simp) (by omega) (by omega) (by simp [P.total]) e)
  have e1 : P.addH 1 [] [108, 115] = (1, [[108, 115]], 0) := by decide +kernel
  have e2 : P.addH 1 [[108, 115]] [108, 115] = (1, [[108, 115]], 0) := by decide +kernel
  have e3 : P.addH 1 [[108, 115]] [99, 100, 32, 120] = (1, [[108, 115], [99, 100, 32, 120]], 0) := by decide +kernel
  have e4 : P.getH 1 [[108, 115], [99, 100, 32, 120]] 2 = ([99, 100, 32, 120], 0) := by decide +kernel
  have e5 : P.findH (fun s => P.begins s [108]) 1 [[108, 115], [99, 100, 32, 120]] 2 = some 1 := by decide +kernel
  have e6 : P.findH (fun s => P.contains s [100, 32, 120]) 1 [[108, 115], [99, 100, 32, 120]] 2 = some 2 := by decide +kernel
  have e7 : P.loadH [49, 10, 108, 115] = (0, [], 28) := by decide +kernel
  have e8 : P.loadH [48, 49, 10] = (0, [], 6) := by decide +kernel
  have e9 : P.loadH [49, 10, 10] = (0, [], 1) := by decide +kernel
  have eS : P.saveH 1 [[108, 115], [99, 100, 32, 120]] = [49, 10, 108, 115, 10, 99, 100, 32, 120, 10] := by decide +kernel
  rw [e1] at a1
  rw [e2] at a2
  rw [e3] at a3
  rw [e4] at a4
  simp only [List.length_cons, List.length_nil, Nat.zero_add, Nat.reduceAdd] at a5 a6
  rw [e5] at a5
  rw [e6] at a6
  rw [e7] at a7
  rw [e8] at a8
  rw [e9] at a9
  rw [eS] at aS
  clear e1 e2 e3 e4 e5 e6 e7 e8 e9 eS
  have HE := Lib.hid hw
  clear hw
  go_enter Tryd.func13, Tryd.ntmps13
  go_wp2_with fail
  refine (a1.out _).mono ?_
  rintro e w1 ⟨v1, rfl, ⟨A1, c1, rfl, hc1, hd1, hA1, hS1⟩, hb1⟩
  have hA1' := Lib.hid hA1
  clear hA1
  simp only [hv, List.length_cons, List.length_nil, Nat.zero_add] at hc1 ⊢
  obtain ⟨x1, q1, hX1, hy1, hz1⟩ := Box2.fresh w1 1 A1 1 c1 24
  have HX1 := Lib.hid hX1
  have Q1 := Lib.hid q1
  have V1 := Lib.hid (show HV x1 (hv 1 A1 1 c1) 1 [[108, 115]] from ⟨A1, c1, rfl, hc1, hd1, hA1'.out, hS1.below hy1⟩)
  have B1 := Lib.hid (btr hb1 hy1)
  have g1 : w.heap.size ≤ w1.heap.size := hb1.size
  clear hX1 q1 hS1 hb1 hy1
  go_wp2_with fail
  rw [← Q1.out]
  refine (a2.out _ A1 c1 V1.out).mono ?_
  rintro e w2 ⟨v2, rfl, ⟨A2, c2, rfl, hc2, hd2, hA2, hS2⟩, hb2⟩
  have hA2' := Lib.hid hA2
  clear hA2
  simp only [hv, List.length_cons, List.length_nil, Nat.zero_add] at hc2 ⊢
  have hX2 := HX1.out.later hb2
  obtain ⟨f0, f1, f2, f3⟩ := hX2.cells
  obtain ⟨x2, q2, hY2, hy2, hz2, hs2, -⟩ := hX2.store 1 A2 1 c2
  have HX2 := Lib.hid hY2
  have Q2 := Lib.hid q2
  have V2 := Lib.hid (show HV x2 (hv 1 A2 1 c2) 1 [[108, 115]] from ⟨A2, c2, rfl, hc2, hd2, hA2'.out, hs2 _ _ hS2⟩)
  have B2 := Lib.hid ((btr B1.out hb2).trans (hy2 w.heap.size g1))
  clear hX2 hY2 q2 hS2 hb2 hy2 hs2
  go_wp2_with fail
  rw [← Q2.out]
  refine (a3.out _ A2 c2 V2.out).mono ?_
  rintro e w3 ⟨v3, rfl, ⟨A3, c3, rfl, hc3, hd3, hA3, hS3⟩, hb3⟩
  have hA3' := Lib.hid hA3
  clear hA3 f0 f1 f2 f3
  simp only [hv, List.length_cons, List.length_nil, Nat.zero_add, Nat.reduceAdd] at hc3 ⊢
  have hX3 := HX2.out.later hb3
  obtain ⟨f0, f1, f2, f3⟩ := hX3.cells
  obtain ⟨x3, q3, hY3, hy3, hz3, hs3, -⟩ := hX3.store 1 A3 2 c3
  have HX3 := Lib.hid hY3
  have Q3 := Lib.hid q3
  have V3 := Lib.hid (show HV x3 (hv 1 A3 2 c3) 1 [[108, 115], [99, 100, 32, 120]] from ⟨A3, c3, rfl, hc3, hd3, hA3'.out, hs3 _ _ hS3⟩)
  have B3 := Lib.hid ((btr B2.out hb3).trans (hy3 w.heap.size g1))
  have E3 := Lib.hid (HE.out.below B3.out)
  clear hX3 hY3 q3 hS3 hb3 hy3 hs3
  go_wp2_with fail
  rw [← Q3.out]
  refine (a4.out _ A3 c3 V3.out).mono ?_
  rintro e w4 ⟨rfl, hb4⟩
  have HX4 := Lib.hid (HX3.out.later hb4)
  have V4 := Lib.hid (V3.out.below hb4)
  have E4 := Lib.hid (E3.out.below hb4)
  have B4 := Lib.hid (btr B3.out hb4)
  clear hb4 f0 f1 f2 f3
  obtain ⟨f0, f1, f2, f3⟩ := HX4.out.cells
  simp only [strNum]
  go_wp2_with fail
  refine (a5.out _ A3 c3 V4.out E4.out).mono ?_
  rintro e w5 ⟨rfl, hb5⟩
  have HX5 := Lib.hid (HX4.out.later hb5)
  have V5 := Lib.hid (V4.out.below hb5)
  have E5 := Lib.hid (E4.out.below hb5)
  have B5 := Lib.hid (btr B4.out hb5)
  clear hb5 f0 f1 f2 f3
  obtain ⟨f0, f1, f2, f3⟩ := HX5.out.cells
  simp only [optNum, Option.getD_some, Option.isSome_some]
  go_wp2_with fail
  refine (a6.out _ A3 c3 V5.out E5.out).mono ?_
  rintro e w6 ⟨rfl, hb6⟩
  have HX6 := Lib.hid (HX5.out.later hb6)
  have V6 := Lib.hid (V5.out.below hb6)
  have E6 := Lib.hid (E5.out.below hb6)
  have B6 := Lib.hid (btr B5.out hb6)
  clear hb6 f0 f1 f2 f3
  simp only [optNum, Option.getD_some, Option.isSome_some]
  go_wp2_with fail
  refine (a7.out _ E6.out).mono ?_
  rintro e w7 ⟨v7, rfl, ⟨A7, c7, rfl, -, hd7, -, -⟩, hb7⟩
  simp only [hv, List.length_nil]
  obtain ⟨x7, q7, -, hy7, hz7⟩ := Box2.fresh w7 0 A7 0 c7 24
  have Q7 := Lib.hid q7
  have H7 := Lib.hid (btr hb7 hy7)
  have HX7 := Lib.hid (HX6.out.later H7.out)
  have V7 := Lib.hid (V6.out.below H7.out)
  have E7 := Lib.hid (E6.out.below H7.out)
  have B7 := Lib.hid (btr B6.out H7.out)
  clear hb7 hy7 q7
  go_wp2_with fail
  rw [← Q7.out]
  refine (a8.out _ E7.out).mono ?_
  rintro e w8 ⟨v8, rfl, ⟨A8, c8, rfl, -, hd8, -, -⟩, hb8⟩
  simp only [hv, List.length_nil]
  obtain ⟨x8, q8, -, hy8, hz8⟩ := Box2.fresh w8 0 A8 0 c8 24
  have Q8 := Lib.hid q8
  have H8 := Lib.hid (btr hb8 hy8)
  have HX8 := Lib.hid (HX7.out.later H8.out)
  have V8 := Lib.hid (V7.out.below H8.out)
  have E8 := Lib.hid (E7.out.below H8.out)
  have B8 := Lib.hid (btr B7.out H8.out)
  clear hb8 hy8 q8
  go_wp2_with fail
  rw [← Q8.out]
  refine (a9.out _ E8.out).mono ?_
  rintro e w9 ⟨v9, rfl, ⟨A9, c9, rfl, -, hd9, -, -⟩, hb9⟩
  simp only [hv, List.length_nil]
  obtain ⟨x9, q9, -, hy9, hz9⟩ := Box2.fresh w9 0 A9 0 c9 24
  have Q9 := Lib.hid q9
  have H9 := Lib.hid (btr hb9 hy9)
  have HX9 := Lib.hid (HX8.out.later H9.out)
  have V9 := Lib.hid (V8.out.below H9.out)
  have E9 := Lib.hid (E8.out.below H9.out)
  have B9 := Lib.hid (btr B8.out H9.out)
  obtain ⟨f0, f1, f2, f3⟩ := (HX8.out.later hb9).cells
  have g9 : w1.heap.size < w9.heap.size := (HX8.out.later hb9).lt
  clear hb9 hy9 q9
  go_wp2_with fail
  rw [← Q9.out]
  refine (aS.out _ A3 c3 V9.out E9.out).mono ?_
  rintro e w10 ⟨rfl, hb10⟩
  have B10 := Lib.hid (btr B9.out hb10)
  clear hb10
  go_wp2
  go_ret
  exact ⟨rfl, B10.out⟩
end W
end Go.Proofs.YtbiilbdflmiehaaDoor
