/- Top: the law TopValues; printed by gen23f.py. -/
import Derived.Test.YtkceenmlhfkkhaaGreatDoorY23d
namespace Go.Proofs.YtkceenmlhfkkhaaGreatDoor
open Go.RowKit K
open WP (GP gp gpL)
namespace W
set_option maxRecDepth 100000
attribute [-go_sem] storeVar
def eV : VR.Var := ⟨[73, 70, 83], [], true, false, false⟩
theorem setv_ifs (s : List UInt8) : VR.setv (envVars s) [73, 70, 83] [] = [eV, xV s] := by rfl
set_option maxHeartbeats 16000000 in
theorem TopValues_any (s : List UInt8) (w : World) (hen : Env w) : Calls Tryz.prog 3 #[.string ⟨s.toArray⟩] w fun e w' => e = .returned (.bool true) ∧ Below w.heap.size w w' := by
  have HEN := Lib.hid hen
  have HWL := Lib.hid (fun V (hV : Below w.heap.size w V) => wordsLive_any V (Env_below hen hV))
  by_cases h1 : 200 < s.length
  · have h1' : ((200 : Int) < (s.length : Int)) = True := eq_true (by omega)
    clear hen
    go_enter Tryz.func3, Tryz.ntmps3
    go_wp2_with fail
    refine (HWL.out _ (Below.refl _ _)).mono ?_
    rintro e w1 ⟨rfl, hb⟩
    go_wp2
    go_ret
    exact ⟨rfl, hb⟩
  have h1' : ((200 : Int) < (s.length : Int)) = False := eq_false (by omega)
  have hs200 : s.length ≤ 200 := by omega
  have hi1 : (Tryz.prog.info? 23).map (·.size) = some 1 := by kernel_rfl
  have hev := environ_any s (by omega) 8 w
  unfold EnvOut at hev
  have HEV := Lib.hid hev
  clear hev hen
  go_enter Tryz.func3, Tryz.ntmps3
  go_wp2_with fail
  refine HEV.out.mono ?_
  rintro e Y ⟨VA, vc, PA, pc, rfl, hv, hs, hb⟩
  have HEX := Lib.hid (EX.of hv hs (.inr rfl) (Env_below HEN.out hb))
  have HB := Lib.hid hb
  obtain ⟨X, hX, hst, hx, hbx⟩ := box15 Y VA vc PA pc 8
  have hX' := hX
  rw [hX] at hst
  have HX := Lib.hid hX
  have HXB := Lib.hid hbx
  have HXC := Lib.hid hx
  obtain ⟨x0, x1, x2, x3, x4, x5, x6, x7, x8, x9, x10, x11, x12, x13, x14⟩ := blk15 hx
  have hxl := (Array.getElem?_eq_some_iff.1 hx).1
  have HF1 := Lib.hid (show Calls Tryz.prog 9 _ _ (FOut _ [s]) from fields_dx (HEX.out.below hbx) hs200)
  clear hX hX' hx hbx hv hs hb
  go_upto_region 4 with (fail)
  rw [← HX.out]
  go_wp2_with fail
  refine HF1.out.mono ?_
  rintro e Z ⟨v1, rfl, hf1, hlt1, hb1⟩
  obtain ⟨A1, c1, rfl, -⟩ := hf1.slice
  have HS1 := Lib.hid hf1
  have HLT1 := Lib.hid hlt1
  have HB1 := Lib.hid hb1
  have HZC := Lib.hid ((hb1.block _ hxl).trans HXC.out)
  obtain ⟨z0, z1, z2, z3, z4, z5, z6, z7, z8, z9, z10, z11, z12, z13, z14⟩ := blk15 HZC.out
  have hzl := (Array.getElem?_eq_some_iff.1 HZC.out).1
  have HSE := Lib.hid (Set_ok (envVars s) [73, 70, 83] [] (.slice VA 2 vc) Z (((HEX.out.below HXB.out).below hb1).vv) (by simp [envVars]) (by simp [envVars]) (by rfl) (by simp) (by intro x hx; simp [envVars, ifsV] at hx; rcases hx with rfl | rfl <;> rfl) (by decide))
  unfold SetOut at HSE
  rw [setv_ifs] at HSE
  clear hf1 hb1 hlt1 x0 x1 x2 x3 x4 x5 x6 x7 x8 x9 x10 x11 x12 x13 x14
  go_wp2_with fail
  refine HSE.out.mono ?_
  rintro e U ⟨v', rfl, hor, hb2⟩
  obtain ⟨NA, nc, hv0⟩ := hor.val
  obtain rfl : v' = .slice NA 2 nc := hv0
  have HOR := Lib.hid hor
  have HB2 := Lib.hid hb2
  have HUC := Lib.hid ((hb2.block _ hzl).trans HZC.out)
  obtain ⟨u0, u1, u2, u3, u4, u5, u6, u7, u8, u9, u10, u11, u12, u13, u14⟩ := blk15 HUC.out
  obtain ⟨f0, f1, f2, f3, f4, f5, f6, f7, f8, f9, f10, f11, f12, f13, f14⟩ := frz15 HUC.out
  have hul := (Array.getElem?_eq_some_iff.1 HUC.out).1
  have hs1 := run_storeVar_sl (P := Tryz.prog) U ⟨Y.heap.size, 1, none⟩ 23 NA 2 nc _ hi1 u1 f1
  obtain ⟨U1, hU1⟩ : ∃ U1, U1 = U.setCell ⟨Y.heap.size, 1, none⟩ (.slice NA 2 nc) := ⟨_, rfl⟩
  have hc1 : U1.heap[Y.heap.size]? = some (.cells #[.string ⟨shellName.toArray⟩, .slice NA 2 nc, .slice PA 2 pc, .slice none 0 0, .slice none 0 0, .slice none 0 0, .int .i64 8, .int .i64 0, .int .i64 0, .int .i64 0, .string ⟨#[47]⟩, .int .i64 1, .int .i64 0, .int .i64 0, .bool false] 31 (0, 0)) := by rw [hU1]; exact heap_setCell_same _ _ 1 _ _ _ HUC.out
  have hsz1 : U1.heap.size = U.heap.size := by rw [hU1]; simp [World.setCell]
  have hag : ∀ k, k ≠ Y.heap.size → U1.heap[k]? = U.heap[k]? := fun k h => by rw [hU1]; exact Below.heap_setCell _ _ _ _ h
  have HYU := Lib.hid (show Below Y.heap.size Y U1 by rw [hU1]; exact (HXB.out.trans ((HB1.out.trans (HB2.out.mono HB1.out.size)).mono HXB.out.size)).setCell (by exact Nat.le_refl _) _)
  have HEN1 := Lib.hid (show EA U1 NA 2 nc PA 2 pc 8 [eV, xV s] [[112, 32, 113], [42]] (xV s) [73, 70, 83] false false false from
    ⟨OR.late HOR.out vc_len (by omega) (fun k hk => hag k (by omega)), HEX.out.sv.below HYU.out, by simp, by simp, by decide, rfl, rfl, .inr rfl, rfl, Env_below HEX.out.en HYU.out⟩)
  have HS1' := Lib.hid (show SV U1 (.slice A1 1 c1) [s] from RV.late (HS1.out.below hb2) HLT1.out (by omega) (fun k hk _ => hag k (by omega)))
  obtain ⟨y0, y1, y2, y3, y4, y5, y6, y7, y8, y9, y10, y11, y12, y13, y14⟩ := blk15 hc1
  have hyl := (Array.getElem?_eq_some_iff.1 hc1).1
  have HU1 := Lib.hid hU1
  clear hU1 hc1 hsz1 hag hor hb2
  by_cases hse : s = []
  case pos =>
    have HF2 := Lib.hid (show Calls Tryz.prog 9 _ _ (FOut _ ([] : List (List UInt8))) from by
      have := fields_x HEN1.out hs200 (fun h0 => absurd h0 (by decide))
      rw [show (xV s).value = s from rfl, SP.texts_whole, if_pos hse] at this
      exact this)
    go_upto_region 9 with (fail)
    rw [← HU1.out]
    go_wp2_with fail
    refine HF2.out.mono ?_
    rintro e V ⟨v2, rfl, hf2, -, hb3⟩
    obtain ⟨A2, c2, rfl, -⟩ := hf2.slice
    have HS2 := Lib.hid hf2
    have HB3 := Lib.hid hb3
    have HWV := Lib.hid (show Below w.heap.size w V from HB.out.trans ((HYU.out.trans (hb3.mono HYU.out.size)).mono HB.out.size))
    clear hf2 hb3
    subst hse
    obtain ⟨V1, hV1⟩ : ∃ V1, V1 = V.alloc (.cells #[.string ⟨#[]⟩] 9) := ⟨_, rfl⟩
    have HV1 := Lib.hid hV1
    have HBV := Lib.hid (show Below V.heap.size V V1 by rw [hV1]; exact balloc _ _)
    clear hV1
    go_upto_region 11 with (fail)
    rw [← HV1.out]
    go_wp2_with fail
    refine (sameT_any [[]] _ _ _ (((HS1'.out.below HB3.out).below HBV.out).below (balloc _ _)) (str_one _ 9 _ [] (al_new _ _)) (by simp)).mono ?_
    rintro e V2 ⟨rfl, hv⟩
    have HV := Lib.hid (show Below V.heap.size V V2 from btr HBV.out (btr (balloc _ _) hv))
    clear hv
    go_wp2_with fail
    refine (sameT_any [] _ _ _ (HS2.out.below HV.out) (RV.nil _) (by decide)).mono ?_
    rintro e V3 ⟨rfl, hv⟩
    have HV3 := Lib.hid (show Below w.heap.size w V3 from HWV.out.trans ((btr HV.out hv).mono HWV.out.size))
    clear hv
    go_wp2_with fail
    refine (HWL.out _ HV3.out).mono ?_
    rintro e V4 ⟨rfl, hv⟩
    have HV4 := Lib.hid (btr HV3.out hv)
    clear hv
    go_wp2
    go_ret
    exact ⟨rfl, HV4.out⟩
  case neg =>
    have hse2 : (s == []) = false := by rw [beq_eq_false_iff_ne]; exact hse
    have HF2 := Lib.hid (show Calls Tryz.prog 9 _ _ (FOut _ [s]) from by
      have := fields_x HEN1.out hs200 (fun h0 => absurd h0 (by decide))
      rw [show (xV s).value = s from rfl, SP.texts_whole, if_neg hse] at this
      exact this)
    go_upto_region 9 with (fail)
    rw [← HU1.out]
    go_wp2_with fail
    refine HF2.out.mono ?_
    rintro e V ⟨v2, rfl, hf2, -, hb3⟩
    obtain ⟨A2, c2, rfl, -⟩ := hf2.slice
    have HS2 := Lib.hid hf2
    have HB3 := Lib.hid hb3
    have HWV := Lib.hid (show Below w.heap.size w V from HB.out.trans ((HYU.out.trans (hb3.mono HYU.out.size)).mono HB.out.size))
    clear hf2 hb3
    obtain ⟨V1, hV1⟩ : ∃ V1, V1 = V.alloc (.cells #[.string ⟨s.toArray⟩] 9) := ⟨_, rfl⟩
    have HV1 := Lib.hid hV1
    have HSW := Lib.hid (show SV V1 (.slice (some ⟨V.heap.size, 0, none⟩) 1 1) [s] by rw [hV1]; exact str_one _ _ _ s (al_new _ _))
    have HBV := Lib.hid (show Below V.heap.size V V1 by rw [hV1]; exact balloc _ _)
    clear hV1
    go_upto_region 11 with (fail)
    rw [← HV1.out]
    go_wp2_with fail
    refine (sameT_any [s] _ _ _ (((HS1'.out.below HB3.out).below HBV.out).below (balloc _ _)) (str_one _ 9 _ s (al_new _ _)) (by simp)).mono ?_
    rintro e V2 ⟨rfl, hv⟩
    have HV := Lib.hid (show Below V1.heap.size V1 V2 from btr (balloc _ _) hv)
    clear hv
    go_wp2_with fail
    refine (sameT_any [s] _ _ _ ((HS2.out.below HBV.out).below HV.out) (HSW.out.below HV.out) (by simp)).mono ?_
    rintro e V3 ⟨rfl, hv⟩
    have HV3 := Lib.hid (show Below w.heap.size w V3 from HWV.out.trans ((HBV.out.trans ((btr HV.out hv).mono HBV.out.size)).mono HWV.out.size))
    clear hv
    go_wp2_with fail
    refine (HWL.out _ HV3.out).mono ?_
    rintro e V4 ⟨rfl, hv⟩
    have HV4 := Lib.hid (btr HV3.out hv)
    clear hv
    go_wp2
    go_ret
    exact ⟨rfl, HV4.out⟩
end W
end Go.Proofs.YtkceenmlhfkkhaaGreatDoor
