/- Variables: a first variable is set and marked. -/
import Derived.Test.YtcbebkeakkahgaaGreatDoorY15c
import Derived.Test.YtcbebkeakkahgaaGreatDoorQ38
import Derived.Laws.OwnMore
namespace Go.Proofs.YtcbebkeakkahgaaGreatDoor
namespace VR
def vA : Var := ⟨[65], [49], true, false, false⟩
def vX : Var := ⟨[65], [49], true, true, false⟩
end VR
open Go.RowKit K
namespace W
set_option maxRecDepth 100000
theorem orbase {α : Type} {m : Nat} {enc : α → List Value} {T : TypeId} {B B' : Nat} {w : World} {v : Value} {l : List α} (h : OR m enc T B w v l) (hB : B' ≤ B) : OR m enc T B' w v l := by
  obtain ⟨h1, h2⟩ := h
  refine ⟨h1, ?_⟩
  rcases h2 with h2 | ⟨g, cap, cur, e1, e2, e3⟩
  · exact .inl h2
  · exact .inr ⟨g, cap, cur, e1, Nat.le_trans hB e2, e3⟩
theorem ratone (w : World) (T : TypeId) (x : VR.Var) (q : Nat) (h : w.heap[q]? = some (.cells #[.string ⟨x.name.toArray⟩, .string ⟨x.value.toArray⟩, .bool x.set, .bool x.exp, .bool x.ro] T (0, 0))) : RAt 5 VR.cells w q 0 [x] := by
  obtain ⟨c0, c1, c2, c3, c4, _⟩ := vblk h
  intro i y hi j u hj
  match i, hi with
  | 0, hi =>
    simp at hi; subst hi
    rw [Nat.zero_mul, Nat.zero_add]
    match j, hj with
    | 0, hj => rw [c0]; exact hj
    | 1, hj => rw [c1]; exact hj
    | 2, hj => rw [c2]; exact hj
    | 3, hj => rw [c3]; exact hj
    | 4, hj => rw [c4]; exact hj
    | n + 5, hj => simp [VR.cells] at hj
  | n + 1, hi => simp at hi
set_option maxHeartbeats 2000000 in
theorem splice_nil (q : Nat) (x : VR.Var) (w : World) (hq : q < w.heap.size) (hx : RAt 5 VR.cells w q 0 [x]) :
    Calls Tryz.prog 118 #[.slice none 0 0, .int .i64 0, .int .i64 0, .slice (some ⟨q, 0, none⟩) 1 1] w fun e w' => ∃ v', e = .returned v' ∧ OR 5 VR.cells 41 w.heap.size w' v' [x] ∧ Below w.heap.size w w' := by
  obtain ⟨i0, hi, hz0, hz1, hz2⟩ := info_parts infoVar
  obtain ⟨V, hV⟩ : ∃ V, V = w.alloc (.cells (madeCells #[.string ⟨#[]⟩, .string ⟨#[]⟩, .bool false, .bool false, .bool false] 5) 41) := ⟨_, rfl⟩
  have HBV := Lib.hid (show Below w.heap.size w V by rw [hV]; exact balloc _ _)
  have HOV := Lib.hid (show V.ownsRow w.heap.size 41 5 (.slice (some ⟨w.heap.size, 0, none⟩) 0 1) 0 [] by rw [hV]; exact made_var 0 (by decide) w)
  have hmw : (Instr.makeSlice 25 (.int .i64 0) (.int .i64 1)).run Tryz.prog w = .ok (.slice (some ⟨w.heap.size, 0, none⟩) 0 1) V := by rw [hV]; exact make_var 0 (by decide) w
  have HX := Lib.hid hx
  clear hx hV
  go_enter Tryz.func118, Tryz.ntmps118
  go_upto_region 2 with (fail)
  go_wp2_with (at_builtin; refine wpList_append_own_at _ rfl _ _ 25 rfl w.heap.size 41 i0 _ 5 40 Tryz.underlying25 hi hz0 hz1 hz2 rfl (by decide) _ 0 _ rfl HOV.out ⟨q, 0, none⟩ 1 1 ([x].flatMap VR.cells) rfl rfl ((HX.out.below HBV.out hq).flat VR.cells_len) (var_one _) (by unfold maxLen; omega) (by omega) HBV.out.size ?_)
  intro v2 W2 ho2 hg2 _ _
  obtain ⟨A2, c2, rfl⟩ := row_val ho2
  have HB2 := Lib.hid (show Below w.heap.size w W2 from HBV.out.grown hg2 HBV.out.size (fun k hk => by simp [Value.ownBlock] at hk; omega))
  have HO2 := Lib.hid ho2
  have HN2 := Lib.hid (run_append_owned_none W2 w.heap.size 25 25 41 i0 5 Tryz.underlying25 hi _ _ _ ho2)
  clear ho2 hg2
  go_wp2_with (at_builtin; refine append_eqT rfl _ _ 25 rfl _ _ _ rfl rfl HN2.out ?_)
  go_ret
  exact ⟨_, rfl, HO2.out, HB2.out⟩
/-- What Set and Mark leave. -/
def VOut (w : World) (l : List VR.Var) (e : Ending) (w' : World) : Prop := ∃ A c, e = .returned (.tuple #[.slice A l.length c, .int .i64 0]) ∧ OR 5 VR.cells 41 w.heap.size w' (.slice A l.length c) l ∧ Below w.heap.size w w'
set_option maxHeartbeats 4000000 in
theorem Set_A (w : World) : Calls Tryz.prog 116 #[.slice none 0 0, .string ⟨#[65]⟩, .string ⟨#[49]⟩] w (VOut w [VR.vA]) := by
  have HN := Lib.hid (show Calls Tryz.prog 56 #[.string ⟨#[65]⟩] w fun e w' => e = .returned (.bool true) ∧ Below w.heap.size w w' from Name_any [65] w (by decide))
  have HP := Lib.hid (fun Y => show Calls Tryz.prog 117 #[.slice none 0 0, .string ⟨#[65]⟩] Y fun e w' => e = .returned (.tuple #[.int .i64 0, .bool false]) ∧ Below Y.heap.size Y w' from place_any [] [65] _ Y (RV.nil _) (by decide))
  go_enter Tryz.func116, Tryz.ntmps116
  go_wp2_with fail
  refine HN.out.mono ?_
  rintro e1 Y ⟨rfl, hY⟩
  have HY := Lib.hid hY
  clear hY
  go_wp2_with fail
  refine (HP.out Y).mono ?_
  rintro e2 Z ⟨rfl, hZ⟩
  have HZ := Lib.hid (HY.out.trans (hZ.mono HY.out.size))
  clear hZ
  go_wp2_with fail
  refine (splice_nil _ VR.vA _ ?_ ?_).mono ?_
  · simp
  · exact ratone _ _ _ _ (al_new' _ _ _ rfl)
  rintro e3 X ⟨v', rfl, ho, hX⟩
  obtain ⟨A, c, rfl⟩ := ho.val
  have HO := Lib.hid ho
  have HX2 := Lib.hid hX
  clear ho hX
  go_wp2
  go_ret2
  exact ⟨A, c, rfl, orbase HO.out (Nat.le_trans HZ.out.size (by simp)), (btr HZ.out (balloc _ _)).trans (HX2.out.mono (Nat.le_trans HZ.out.size (by simp)))⟩
set_option maxHeartbeats 4000000 in
theorem Mark_A (w : World) (A : Option Addr) (c : Nat) (hv : VV w (.slice A 1 c) [VR.vA]) : Calls Tryz.prog 70 #[.slice A 1 c, .string ⟨#[65]⟩, .bool true, .bool false] w (VOut w [VR.vX]) := by
  have HN := Lib.hid (show Calls Tryz.prog 56 #[.string ⟨#[65]⟩] w fun e w' => e = .returned (.bool true) ∧ Below w.heap.size w w' from Name_any [65] w (by decide))
  have HP := Lib.hid (fun Y (hY : Below w.heap.size w Y) => show Calls Tryz.prog 117 #[.slice A 1 c, .string ⟨#[65]⟩] Y fun e w' => e = .returned (.tuple #[.int .i64 0, .bool true]) ∧ Below Y.heap.size Y w' from place_any [VR.vA] [65] _ Y (hv.below hY) (by decide))
  have HV := Lib.hid hv
  clear hv
  go_enter Tryz.func70, Tryz.ntmps70
  go_wp2_with fail
  refine HN.out.mono ?_
  rintro e1 Y ⟨rfl, hY⟩
  have HY := Lib.hid hY
  clear hY
  go_wp2_with fail
  refine (HP.out Y HY.out).mono ?_
  rintro e2 Z ⟨rfl, hZ⟩
  have HZ := Lib.hid (HY.out.trans (hZ.mono HY.out.size))
  clear hZ
  obtain ⟨b, off, rfl, hb, g0, g1, g2, g3, g4⟩ := VV.get (i := 0) (x := VR.vA) (HV.out.below HZ.out) rfl
  have e0 : Z.cell? ⟨b, off, none⟩ = some (.string ⟨#[65]⟩) := by simpa [VR.vA] using g0
  have e1 : Z.cell? ⟨b, off + 1, none⟩ = some (.string ⟨#[49]⟩) := by simpa [VR.vA] using g1
  have e2 : Z.cell? ⟨b, off + 2, none⟩ = some (.bool true) := by simpa [VR.vA] using g2
  have e3 : Z.cell? ⟨b, off + 3, none⟩ = some (.bool false) := by simpa [VR.vA] using g3
  have e4 : Z.cell? ⟨b, off + 4, none⟩ = some (.bool false) := by simpa [VR.vA] using g4
  clear g0 g1 g2 g3 g4
  have HS := Lib.hid (fun q X (hX : Below w.heap.size w X) hq hx => splice_any [VR.vA] 0 1 q VR.vX _ X (HV.out.below hX) (by decide) (by simp) (by decide) hq hx)
  go_wp2_with fail
  refine (HS.out _ _ ?_ ?_ ?_).mono ?_
  · exact btr (btr HZ.out (balloc _ _)) (balloc _ _)
  · simp
  · refine ratone _ _ _ _ (al_new' _ _ _ ?_)
    simp
  rintro e3 X ⟨v', rfl, ho, hX⟩
  obtain ⟨A', c', rfl⟩ := ho.val
  have HO := Lib.hid ho
  have HX2 := Lib.hid hX
  clear ho hX
  go_wp2
  go_ret2
  exact ⟨A', c', rfl, orbase HO.out (Nat.le_trans HZ.out.size (by simp; omega)), (btr (btr HZ.out (balloc _ _)) (balloc _ _)).trans (HX2.out.mono (Nat.le_trans HZ.out.size (by simp; omega)))⟩
end W
end Go.Proofs.YtcbebkeakkahgaaGreatDoor
