/- Top: the law TopParameters; printed by gen23f.py. -/
import Derived.Test.YtkceenmlhfkkhaaGreatDoorY23d
import Derived.Test.YtkceenmlhfkkhaaGreatDoorO12
namespace Go.Proofs.YtkceenmlhfkkhaaGreatDoor
open Go.RowKit K
open WP (GP gp gpL)
namespace W
set_option maxRecDepth 100000
attribute [-go_sem] storeVar
theorem sv_of_st {w : World} {v : Value} {ls : List (List UInt8)} (h : StV w v ls) : SV w v ls := by
  obtain ⟨A, c, rfl, hl, -, hS, -⟩ := h
  refine ⟨A, c, rfl, hl, ?_⟩
  by_cases hn : ls = []
  · exact .inl hn
  · obtain ⟨b, off, rfl, hb, hc⟩ := hS hn
    refine .inr ⟨b, off, rfl, hb, fun i x hx j u hj => ?_⟩
    obtain ⟨hi, rfl⟩ := List.getElem?_eq_some_iff.1 hx
    match j, hj with
    | 0, hj => simp [es] at hj; subst hj; simpa using hc i hi
    | j + 1, hj => simp [es] at hj
theorem join_bound (N : Nat) : ∀ ls : List (List UInt8), (∀ p ∈ ls, p.length ≤ N) → (Lib.join ls [32]).length ≤ (N + 1) * ls.length
  | [], _ => Nat.zero_le _
  | [x], h => by
    rw [Lib.join_one]
    have := h x List.mem_cons_self
    simp only [List.length_cons, List.length_nil]
    omega
  | x :: y :: r, h => by
    have h1 := h x List.mem_cons_self
    have h2 := join_bound N (y :: r) fun p hp => h p (List.mem_cons_of_mem _ hp)
    have h3 : Lib.join (x :: y :: r) [32] = x ++ ([32] ++ Lib.join (y :: r) [32]) := by simp [Lib.join, List.intercalate]
    have h4 : (N + 1) * (r.length + 1 + 1) = (N + 1) * (r.length + 1) + (N + 1) := Nat.mul_succ _ _
    rw [h3, List.length_append, List.length_append]
    simp only [List.length_cons, List.length_nil] at h2 ⊢
    rw [h4]
    generalize (N + 1) * (r.length + 1) = T at *
    omega
/-- append of a list to an empty slice that is not nil. -/
theorem app_zero {i0 : TypeInfo} (hi : Tryz.prog.info? 9 = some i0) (hz0 : i0.zero = some (.string ⟨#[]⟩)) (hz1 : i0.size = 1) (hz2 : i0.bytes = 16) (Z : World) (q : Nat) (hq : Z.heap[q]? = some (.cells #[] 9 (0, 0))) (A : Option Addr) (n c : Nat) (ls : List (List UInt8)) (h : SV Z (.slice A n c) ls) (hl : ls.length ≤ 1000) :
    ∃ v' W', (Builtin.append_ #[24, 24] 24 #[.slice (some ⟨q, 0, none⟩) 0 0, .slice A n c]).run Tryz.prog Z = .ok v' W' ∧ OR 1 es 9 q W' v' ls ∧ Below q Z W' := by
  have hlt : q < Z.heap.size := (Array.getElem?_eq_some_iff.1 hq).1
  have hO : Z.ownsRow q 9 1 (.slice (some ⟨q, 0, none⟩) 0 0) 0 [] := ⟨rfl, .inr ⟨q, 0, #[], rfl, Nat.le_refl _, hq, Nat.le_refl _, by decide, rfl, rfl⟩⟩
  obtain ⟨A0, c0, h0, hc, hr⟩ := h
  injection h0 with e1 e2 e3
  subst e1 e2 e3
  cases A with
  | none =>
    have hl0 : ls = [] := by
      rcases hr with hr | ⟨b, off, h, _⟩
      · exact hr
      · cases h
    subst hl0
    exact ⟨_, Z, run_append_nothing _ _ _ _ 9 i0 Tryz.underlying24 hi _ 0 0 (Nat.le_refl _) _ (Src.ofNil _ Tryz.underlying24 c), hO, Below.refl _ _⟩
  | some ad =>
    have hnews : ∀ j u, (ls.flatMap es)[j]? = some u → Z.cell? (ad.add j) = some u := by
      rcases hr with hr | ⟨b, off, h, hlt, hat⟩
      · subst hr; intro j u h; simp at h
      · injection h with h
        subst h
        exact hat.flat es_len
    have hones : ∀ u ∈ ls.flatMap es, u.oneCell' = true := by
      intro u hu
      obtain ⟨x, _, hx⟩ := List.mem_flatMap.1 hu
      exact es_ones x u hx
    obtain ⟨v', w', r1, r2, r3, -, -⟩ := run_append_own_at (P := Tryz.prog) (w := Z) q 24 24 9 i0 _ 1 16 Tryz.underlying24 hi hz0 hz1 hz2 rfl (by decide) _ 0 [] hO ad ls.length c (ls.flatMap es) (flat_len es_len ls) hnews hones (by unfold maxLen; omega) (by omega) (Nat.le_of_lt hlt)
    exact ⟨v', w', r1, by unfold OR; simpa using r2, (Below.refl _ Z).grown r3 (Nat.le_of_lt hlt) (fun r hr => own_ge hO r hr)⟩
set_option maxHeartbeats 16000000 in
theorem TopParameters_any (v : Value) (ls : List (List UInt8)) (w : World) (hv : StV w v ls) (hen : Env w) : Calls Tryz.prog 5 #[v] w fun e w' => e = .returned (.bool true) ∧ Below w.heap.size w w' := by
  obtain ⟨i0, hi, hz0, hz1, hz2⟩ := info_parts infoStr
  have hsv := sv_of_st hv
  obtain ⟨A, c, rfl, -⟩ := hsv.slice
  have HSV := Lib.hid hsv
  have HEN := Lib.hid hen
  have HWL := Lib.hid (fun V (hV : Below w.heap.size w V) => wordsLive_any V (Env_below hen hV))
  clear hv hsv
  by_cases h1 : 20 < ls.length
  · have h1' : ((20 : Int) < (ls.length : Int)) = True := eq_true (by omega)
    clear hen
    go_enter Tryz.func5, Tryz.ntmps5
    go_wp2_with fail
    refine (HWL.out _ (Below.refl _ _)).mono ?_
    rintro e w1 ⟨rfl, hb⟩
    go_wp2
    go_ret
    exact ⟨rfl, hb⟩
  have h1' : ((20 : Int) < (ls.length : Int)) = False := eq_false (by omega)
  have hls20 : ls.length ≤ 20 := by omega
  have hev := environ_any [] (by simp) 0 w
  unfold EnvOut at hev
  have HEV := Lib.hid hev
  have hiS : (Tryz.prog.info? 24).map (·.size) = some 1 := by kernel_rfl
  clear hev hen h1
  go_enter Tryz.func5, Tryz.ntmps5
  go_wp2
  go_loopw [15] (fun i wr => ∃ k : Nat, k ≤ ls.length ∧ i = .int .i64 k ∧ wr = w ∧ Hid (∀ x ∈ ls.take k, x.length ≤ 100)) (fun i _ => ls.length - (intOf i).toNat)
  case atStart => exact ⟨0, Nat.zero_le _, rfl, rfl, Lib.hid (by simp)⟩
  case round =>
    obtain ⟨k, hk, rfl, rfl, HT⟩ := hrel
    by_cases hlt : k < ls.length
    · obtain ⟨x, hx⟩ : ∃ x, ls[k]? = some x := ⟨_, List.getElem?_eq_getElem hlt⟩
      obtain ⟨bb, off, rfl, hbl, q0⟩ := SV.get HSV.out hx
      by_cases hx1 : 100 < x.length
      · have hx2 : ((100 : Int) < (x.length : Int)) = True := eq_true (by omega)
        clear hx
        go_wp2_with fail
        refine (HWL.out _ (Below.refl _ _)).mono ?_
        rintro e w1 ⟨rfl, hb⟩
        go_wp2
        go_ret
        exact ⟨rfl, hb⟩
      · have hx2 : ((100 : Int) < (x.length : Int)) = False := eq_false (by omega)
        have HT2 := Lib.hid (show ∀ z ∈ ls.take (k + 1), z.length ≤ 100 from by
          intro z hz
          rw [List.take_add_one, hx] at hz
          rcases List.mem_append.1 hz with hz | hz
          · exact HT.out z hz
          · simp at hz; subst hz; omega)
        clear hx
        go_wp2
        go_roundw
        case rel => exact ⟨k + 1, hlt, by go_num, trivial, HT2⟩
        case measure => simp [intOf]; omega
    · have HL1 := Lib.hid (show ∀ x ∈ ls, x.length ≤ 100 from by have := HT.out; rwa [List.take_of_length_le (by omega)] at this)
      clear HT
      go_wp2_with fail
      refine HEV.out.mono ?_
      rintro e Y ⟨VA, vc, PA, pc, rfl, hv, hs, hb⟩
      have HEX := Lib.hid (EX.of hv hs (.inl rfl) (Env_below HEN.out hb))
      have HB := Lib.hid hb
      obtain ⟨X, hX, hst, hx, hbx⟩ := box15 Y VA vc PA pc 0
      have hX' := hX
      rw [hX] at hst
      have HX := Lib.hid hX
      have HXB := Lib.hid hbx
      have HXC := Lib.hid hx
      obtain ⟨x0, x1, x2, x3, x4, x5, x6, x7, x8, x9, x10, x11, x12, x13, x14⟩ := blk15 hx
      have hxl := (Array.getElem?_eq_some_iff.1 hx).1
      have HSX := Lib.hid (HSV.out.below (HB.out.trans (hbx.mono HB.out.size)))
      obtain ⟨v', W', hrun, hor, hbw⟩ := app_zero hi hz0 hz1 hz2 (X.alloc (.cells #[] 9)) X.heap.size (al_new _ _) A ls.length c ls (HSX.out.below (balloc _ _)) (by omega)
      obtain ⟨NA, nc, rfl⟩ := hor.val
      have HRUN := Lib.hid hrun
      have HOR := Lib.hid hor
      have hbw2 : Below X.heap.size X W' := (balloc X _).trans hbw
      have HBW := Lib.hid hbw2
      have hwc := (hbw2.block _ hxl).trans HXC.out
      obtain ⟨u0, u1, u2, u3, u4, u5, u6, u7, u8, u9, u10, u11, u12, u13, u14⟩ := blk15 hwc
      obtain ⟨f0, f1, f2, f3, f4, f5, f6, f7, f8, f9, f10, f11, f12, f13, f14⟩ := frz15 hwc
      have hs1 := run_storeVar_sl (P := Tryz.prog) W' ⟨Y.heap.size, 2, none⟩ 24 NA ls.length nc _ hiS u2 f2
      obtain ⟨U1, hU1⟩ : ∃ U1, U1 = W'.setCell ⟨Y.heap.size, 2, none⟩ (.slice NA ls.length nc) := ⟨_, rfl⟩
      have hc1 : U1.heap[Y.heap.size]? = some (.cells #[.string ⟨shellName.toArray⟩, .slice VA 2 vc, .slice NA ls.length nc, .slice none 0 0, .slice none 0 0, .slice none 0 0, .int .i64 0, .int .i64 0, .int .i64 0, .int .i64 0, .string ⟨#[47]⟩, .int .i64 1, .int .i64 0, .int .i64 0, .bool false] 31 (0, 0)) := by rw [hU1]; exact heap_setCell_same _ _ 2 _ _ _ hwc
      have hsz1 : U1.heap.size = W'.heap.size := by rw [hU1]; simp [World.setCell]
      have hag : ∀ k, k ≠ Y.heap.size → U1.heap[k]? = W'.heap[k]? := fun k h => by rw [hU1]; exact Below.heap_setCell _ _ _ _ h
      have HYU := Lib.hid (show Below Y.heap.size Y U1 by rw [hU1]; exact (HXB.out.trans (hbw2.mono HXB.out.size)).setCell (by exact Nat.le_refl _) _)
      have HEN1 := Lib.hid (show EA U1 VA 2 vc NA ls.length nc 0 (envVars []) ls (xV []) [73, 70, 83] false false true from
        ⟨HEX.out.vv.below HYU.out, OR.late HOR.out es_len (by omega) (fun k hk => hag k (by omega)), by simp [envVars], by omega, Nat.le_trans (join_bound 100 ls HL1.out) (by omega), rfl, rfl, .inl rfl, rfl, Env_below HEX.out.en HYU.out⟩)
      have HF1 := Lib.hid (show Calls Tryz.prog 9 _ _ (FOut _ ls) from fields_at HEN1.out hls20 HL1.out)
      obtain ⟨y0, y1, y2, y3, y4, y5, y6, y7, y8, y9, y10, y11, y12, y13, y14⟩ := blk15 hc1
      have hyl := (Array.getElem?_eq_some_iff.1 hc1).1
      have HU1 := Lib.hid hU1
      have hul : Y.heap.size < W'.heap.size := by omega
      clear hX hX' hx hbx hv hs hb hrun hor hbw hbw2 hwc hU1 hc1 hsz1 hag
      go_upto_region 10 with (fail)
      rw [← HX.out]
      go_wp2_with (at_builtin; refine append_eqT rfl _ _ 24 rfl _ _ _ rfl rfl HRUN.out ?_)
      go_upto_region 11 with (fail)
      rw [← HU1.out]
      go_wp2_with fail
      refine HF1.out.mono ?_
      rintro e V ⟨v1, rfl, hf1, -, hb1⟩
      obtain ⟨A1, c1, rfl, -⟩ := hf1.slice
      have HS1 := Lib.hid hf1
      have HWV := Lib.hid (show Below wr.heap.size wr V from HB.out.trans ((HYU.out.trans (hb1.mono HYU.out.size)).mono HB.out.size))
      clear hf1 hb1
      go_wp2_with fail
      refine (sameT_any ls _ _ _ HS1.out (HSV.out.below HWV.out) (by omega)).mono ?_
      rintro e V3 ⟨rfl, hv⟩
      have HV3 := Lib.hid (show Below wr.heap.size wr V3 from btr HWV.out hv)
      clear hv
      go_wp2_with fail
      refine (HWL.out _ HV3.out).mono ?_
      rintro e V4 ⟨rfl, hv⟩
      have HV4 := Lib.hid (btr HV3.out hv)
      clear hv
      go_wp2
      go_ret
      exact ⟨rfl, HV4.out⟩
end W
end Go.Proofs.YtkceenmlhfkkhaaGreatDoor
