/- Variables: place, splice, Set. -/
import Derived.Test.YtcbebkeakkahgaaGreatDoorY15b
import Derived.Laws.MakeOwn
import Derived.Maps.AppendAt
namespace Go.Proofs.YtcbebkeakkahgaaGreatDoor
open Go.RowKit K
namespace W
set_option maxRecDepth 100000
set_option maxHeartbeats 2000000 in
theorem place_any (l : List VR.Var) (nm : List UInt8) (v : Value) (w : World) (hv : VV w v l) (hl : l.length ≤ 100000) :
    Calls Tryz.prog 117 #[v, .string ⟨nm.toArray⟩] w fun e w' => e = .returned (.tuple #[.int .i64 (VR.place l nm).1, .bool (VR.place l nm).2]) ∧ Below w.heap.size w w' := by
  obtain ⟨A, cap, rfl, -⟩ := hv.slice
  obtain ⟨V, hV⟩ : ∃ V, V = w.alloc (.cells #[.string ⟨nm.toArray⟩] 9) := ⟨_, rfl⟩
  have HBV := Lib.hid (show Below w.heap.size w V by rw [hV]; exact balloc _ _)
  have hb : V.cell? ⟨w.heap.size, 0, none⟩ = some (.string ⟨nm.toArray⟩) := by rw [hV]; simp
  have HLT := Lib.hid (lt_cell hb)
  have HV := Lib.hid hV
  have HF := Lib.hid (find_old l nm w.heap.size _ V (hv.below HBV.out) hl hb)
  have HF2 := Lib.hid (fun Y (hY : Below V.heap.size V Y) => find_more l nm w.heap.size _ Y ((hv.below HBV.out).below hY) hl ((hY.cell (p := ⟨w.heap.size, 0, none⟩) (lt_cell hb)).trans hb))
  have q1 := VR.ix_le (fun x : VR.Var => x.name == nm) l 0
  have q2 := VR.ix_le (fun x : VR.Var => decide (nm < x.name)) l 0
  obtain ⟨R, hR⟩ : ∃ R, VR.place l nm = R := ⟨_, rfl⟩
  rw [hR]
  unfold VR.place at hR
  have HR := Lib.hid hR
  generalize VR.ix (fun x : VR.Var => x.name == nm) l 0 = i1 at *
  generalize VR.ix (fun x : VR.Var => decide (nm < x.name)) l 0 = i2 at *
  clear hV hv hb hR
  by_cases h1 : 0 ≤ i1
  · have HQ := Lib.hid (show R = (i1.toNat, true) by rw [← HR.out, if_pos h1])
    obtain ⟨k, rfl⟩ := Int.eq_ofNat_of_zero_le h1
    go_enter Tryz.func117, Tryz.ntmps117
    go_upto_region 1 with (fail)
    rw [← HV.out]
    go_wp2_with fail
    refine HF.out.mono ?_
    rintro e Y ⟨rfl, hY⟩
    have HY := Lib.hid (HBV.out.trans (hY.mono HBV.out.size))
    clear hY
    go_wp2
    go_ret2
    exact ⟨by rw [HQ.out]; rfl, HY.out⟩
  · have HR2 := Lib.hid ((if_neg h1).symm.trans HR.out)
    have h1' : i1 < 0 := by omega
    clear h1 HR
    go_enter Tryz.func117, Tryz.ntmps117
    go_upto_region 1 with (fail)
    rw [← HV.out]
    go_wp2_with fail
    refine HF.out.mono ?_
    rintro e Y ⟨rfl, hY⟩
    have HY := Lib.hid (HBV.out.trans (hY.mono HBV.out.size))
    have HF3 := Lib.hid (HF2.out Y hY)
    clear hY
    go_wp2_with fail
    refine HF3.out.mono ?_
    rintro e Z ⟨rfl, hZ⟩
    have HZ := Lib.hid (HY.out.trans (hZ.mono HY.out.size))
    clear hZ
    by_cases h2 : 0 ≤ i2
    · have HQ := Lib.hid (show R = (i2.toNat, false) by rw [← HR2.out, if_pos h2])
      obtain ⟨k, rfl⟩ := Int.eq_ofNat_of_zero_le h2
      go_wp2
      go_ret2
      exact ⟨by rw [HQ.out]; rfl, HZ.out⟩
    · have HQ := Lib.hid (show R = (l.length, false) by rw [← HR2.out, if_neg h2])
      have h2' : i2 < 0 := by omega
      go_wp2
      go_ret2
      exact ⟨by rw [HQ.out]; rfl, HZ.out⟩
theorem infoVar : (Tryz.prog.info? 41).map (fun i => (i.zero, i.size, i.bytes)) = some (some (.agg #[.string ⟨#[]⟩, .string ⟨#[]⟩, .bool false, .bool false, .bool false]), 5, 40) := by kernel_rfl
theorem var_one : ∀ (l : List VR.Var), ∀ u ∈ l.flatMap VR.cells, u.oneCell' = true := by
  intro l u hu
  obtain ⟨x, _, hx⟩ := List.mem_flatMap.1 hu
  simp [VR.cells] at hx
  rcases hx with rfl | rfl | rfl | rfl | rfl <;> rfl
theorem own_made (w : World) (z : Array Value) (T : TypeId) (m c : Nat) (hc : c ≤ maxLen) : (w.alloc (.cells (madeCells z (c * m)) T)).ownsRow w.heap.size T m (.slice (some ⟨w.heap.size, 0, none⟩) 0 c) 0 [] :=
  ⟨by simp, .inr ⟨w.heap.size, c, _, rfl, Nat.le_refl _, al_new w _, Nat.zero_le _, hc, by simp [size_madeCells], by simp⟩⟩
theorem make_var (n : Nat) (hn : n ≤ 100000) (W : World) : (Instr.makeSlice 25 (.int .i64 0) (.int .i64 ((n : Int) + 1))).run Tryz.prog W = .ok (.slice (some ⟨W.heap.size, 0, none⟩) 0 (n + 1)) (W.alloc (.cells (madeCells #[.string ⟨#[]⟩, .string ⟨#[]⟩, .bool false, .bool false, .bool false] ((n + 1) * 5)) 41)) := by
  obtain ⟨i0, hi, hz0, hz1, hz2⟩ := info_parts infoVar
  have := run_make (P := Tryz.prog) W 25 41 i0 _ Tryz.underlying25 hi hz0 .i64 .i64 0 ((n : Int) + 1) (Int.le_refl _) (by omega) (by rw [hz2]; omega) (by omega)
  rw [this, hz1, show ((n : Int) + 1).toNat = n + 1 by omega]
  rfl
theorem made_var (n : Nat) (hn : n ≤ 100000) (w : World) : (w.alloc (.cells (madeCells #[.string ⟨#[]⟩, .string ⟨#[]⟩, .bool false, .bool false, .bool false] ((n + 1) * 5)) 41)).ownsRow w.heap.size 41 5 (.slice (some ⟨w.heap.size, 0, none⟩) 0 (n + 1)) 0 [] :=
  own_made w _ _ 5 _ (by unfold maxLen; omega)
set_option maxHeartbeats 4000000 in
theorem splice_any (l : List VR.Var) (i n : Nat) (q : Nat) (x : VR.Var) (v : Value) (w : World) (hv : VV w v l) (hl : l.length ≤ 100000) (hne : l ≠ []) (hin : i + n ≤ l.length) (hq : q < w.heap.size) (hx : RAt 5 VR.cells w q 0 [x]) :
    Calls Tryz.prog 118 #[v, .int .i64 i, .int .i64 n, .slice (some ⟨q, 0, none⟩) 1 1] w fun e w' => ∃ v', e = .returned v' ∧ OR 5 VR.cells 41 w.heap.size w' v' (VR.splice l i n [x]) ∧ Below w.heap.size w w' := by
  obtain ⟨i0, hi, hz0, hz1, hz2⟩ := info_parts infoVar
  obtain ⟨A, cap, rfl, hcap⟩ := hv.slice
  obtain ⟨-, b, off, rfl, hb, hr⟩ := hv.at_ hne
  have hpos : 0 < l.length := List.length_pos_iff.2 hne
  have HM := fun W => make_var l.length hl W
  obtain ⟨V, hV⟩ : ∃ V, V = w.alloc (.cells (madeCells #[.string ⟨#[]⟩, .string ⟨#[]⟩, .bool false, .bool false, .bool false] ((l.length + 1) * 5)) 41) := ⟨_, rfl⟩
  have HBV := Lib.hid (show Below w.heap.size w V by rw [hV]; exact balloc _ _)
  have HOV := Lib.hid (show V.ownsRow w.heap.size 41 5 (.slice (some ⟨w.heap.size, 0, none⟩) 0 (l.length + 1)) 0 [] by rw [hV]; exact made_var _ hl w)
  have HV := Lib.hid hV
  have HR := Lib.hid hr
  have HX := Lib.hid hx
  have HI := Lib.hid hin
  have k1 : ((i : Int) ≤ (l.length : Int)) = True := eq_true (by omega)
  have k2 : ((i : Int) + (n : Int) ≤ (l.length : Int)) = True := eq_true (by omega)
  have k3 : ((i : Int) ≤ (cap : Int)) = True := eq_true (by omega)
  have k4 : (0 ≤ (i : Int)) = True := eq_true (by omega)
  have k5 : (0 ≤ (i : Int) + (n : Int)) = True := eq_true (by omega)
  have k6 : ((i : Int) + (n : Int)).toNat = i + n := by omega
  have k7 : IntKind.i64.wrap ((i : Int) + (n : Int)) = (i : Int) + (n : Int) := by rw [IntKind.wrap_i64]; omega
  have k8 : (i : Int) + (n : Int) ≤ 100000 := by omega
  have k9 : 0 ≤ (i : Int) + (n : Int) := by omega
  clear hV hx hr hv hin
  go_enter Tryz.func118, Tryz.ntmps118
  go_upto_region 2 with (fail)
  rw [← HV.out]
  have hb1 : b < V.heap.size := Nat.lt_of_lt_of_le hb HBV.out.size
  go_wp2_with ((at_builtin; refine wpList_append_own_at _ rfl _ _ 25 rfl w.heap.size 41 i0 _ 5 40 Tryz.underlying25 hi hz0 hz1 hz2 rfl (by decide) _ 0 [] rfl HOV.out ⟨b, off, none⟩ i cap ((l.take i).flatMap VR.cells) rfl (by rw [flat_len VR.cells_len, List.length_take, Nat.min_eq_left (by have := HI.out; omega)]) (((HR.out.below HBV.out hb).take i).flat VR.cells_len) (var_one _) (by unfold maxLen; have := HI.out; omega) (by have := HI.out; omega) HBV.out.size ?_))
  intro v1 W1 ho1 hg1 _ _
  obtain ⟨A1, c1, rfl⟩ := row_val ho1
  have HB1 := Lib.hid (show Below w.heap.size w W1 from HBV.out.grown hg1 HBV.out.size (fun k hk => by simp [Value.ownBlock] at hk; omega))
  have HO1 := Lib.hid ho1
  clear ho1 hg1
  go_wp2_with (go_loud (at_builtin; refine wpList_append_own_at _ rfl _ _ 25 rfl w.heap.size 41 i0 _ 5 40 Tryz.underlying25 hi hz0 hz1 hz2 rfl (by decide) _ i _ rfl HO1.out ⟨q, 0, none⟩ 1 1 ([x].flatMap VR.cells) rfl rfl ((HX.out.below HB1.out hq).flat VR.cells_len) (var_one _) (by unfold maxLen; have := HI.out; omega) (by have := HI.out; omega) HB1.out.size ?_))
  intro v2 W2 ho2 hg2 _ _
  obtain ⟨A2, c2, rfl⟩ := row_val ho2
  have HB2 := Lib.hid (show Below w.heap.size w W2 from HB1.out.grown hg2 HB1.out.size (fun k hk => by
    obtain ⟨_, h | ⟨g, cap, cur, h1, h2, _⟩⟩ := HO1.out
    · rw [h.1] at hk; simp [Value.ownBlock] at hk
    · rw [h1] at hk; simp [Value.ownBlock] at hk; omega))
  have HO2 := Lib.hid ho2
  clear ho2 hg2
  have hb2 : b < W2.heap.size := Nat.lt_of_lt_of_le hb HB2.out.size
  have HFIN := Lib.hid (show ∀ (v' : Value) (W' : World), W'.ownsRow w.heap.size 41 5 v' (i + 1 + (l.length - (i + n))) ((l.take i).flatMap VR.cells ++ (VR.cells x ++ (l.drop (i + n)).flatMap VR.cells)) → OR 5 VR.cells 41 w.heap.size W' v' (VR.splice l i n [x]) from fun v' W' h => by
    unfold OR VR.splice
    rw [List.flatMap_append, List.flatMap_append, List.append_assoc (List.flatMap _ _), show [x].flatMap VR.cells = VR.cells x from List.append_nil _]
    have hl3 : (l.take i ++ [x] ++ l.drop (i + n)).length = i + 1 + (l.length - (i + n)) := by
      have := HI.out
      simp; omega
    rw [hl3]
    exact h)
  by_cases hcz : cap = i + n
  case pos =>
    have HD := Lib.hid (show l.drop (i + n) = [] from List.drop_eq_nil_of_le (by omega))
    have HE := Lib.hid (show l.length - (i + n) = 0 by omega)
    subst hcz
    go_wp2_with (at_builtin; refine wpList_append_own_at _ rfl _ _ 25 rfl w.heap.size 41 i0 _ 5 40 Tryz.underlying25 hi hz0 hz1 hz2 rfl (by decide) _ (i + 1) _ rfl HO2.out ⟨b, off, none⟩ 0 _ [] rfl rfl (by intro j u hj; simp at hj) (by intro u hu; cases hu) (by unfold maxLen; have := HI.out; omega) (by have := HI.out; omega) HB2.out.size ?_)
    intro v3 W3 ho3 hg3 _ _
    have HB3 := Lib.hid (show Below w.heap.size w W3 from HB2.out.grown hg3 HB2.out.size (fun k hk => by
      obtain ⟨_, h | ⟨g, cap, cur, h1, h2, _⟩⟩ := HO2.out
      · rw [h.1] at hk; simp [Value.ownBlock] at hk
      · rw [h1] at hk; simp [Value.ownBlock] at hk; omega))
    have HO3 := Lib.hid ho3
    clear ho3 hg3
    go_wp2
    go_ret
    exact ⟨v3, rfl, HFIN.out v3 _ (by rw [HD.out, HE.out]; simpa using HO3.out), HB3.out⟩
  case neg =>
    go_wp2_with (at_builtin; refine wpList_append_own_at _ rfl _ _ 25 rfl w.heap.size 41 i0 _ 5 40 Tryz.underlying25 hi hz0 hz1 hz2 rfl (by decide) _ (i + 1) _ rfl HO2.out ⟨b, off + (i + n) * 5, none⟩ (l.length - (i + n)) (cap - (i + n)) ((l.drop (i + n)).flatMap VR.cells) rfl (by rw [flat_len VR.cells_len, List.length_drop]) (((HR.out.below HB2.out hb).drop (i + n)).flat VR.cells_len) (var_one _) (by unfold maxLen; have := HI.out; omega) (by have := HI.out; omega) HB2.out.size ?_)
    intro v3 W3 ho3 hg3 _ _
    have HB3 := Lib.hid (show Below w.heap.size w W3 from HB2.out.grown hg3 HB2.out.size (fun k hk => by
      obtain ⟨_, h | ⟨g, cap, cur, h1, h2, _⟩⟩ := HO2.out
      · rw [h.1] at hk; simp [Value.ownBlock] at hk
      · rw [h1] at hk; simp [Value.ownBlock] at hk; omega))
    have HO3 := Lib.hid ho3
    clear ho3 hg3
    go_wp2
    go_ret
    exact ⟨v3, rfl, HFIN.out v3 _ HO3.out, HB3.out⟩
end W
end Go.Proofs.YtcbebkeakkahgaaGreatDoor
