/- env.Option: an option that is not set is set; printed by gen38c.py. -/
import Derived.Test.YtcbebkeakkahgaaGreatDoorW37z
namespace Go.Proofs.YtcbebkeakkahgaaGreatDoor
open Go.RowKit K
namespace W
set_option maxRecDepth 100000
theorem bit_e (w : World) : Calls Tryz.prog 155 #[.string ⟨#[101]⟩] w fun e w' => e = .returned (.int .i64 1) ∧ w' = w := by
  go_enter Tryz.func155, Tryz.ntmps155
  go_wp2
  go_ret
  exact ⟨rfl, rfl⟩
theorem bit_u (w : World) : Calls Tryz.prog 155 #[.string ⟨#[117]⟩] w fun e w' => e = .returned (.int .i64 2) ∧ w' = w := by
  go_enter Tryz.func155, Tryz.ntmps155
  go_wp2
  go_ret
  exact ⟨rfl, rfl⟩
attribute [-go_sem] storeVar
set_option maxHeartbeats 16000000 in
theorem Option_at {PA : Option Addr} {pn pc : Nat} {ps : List (List UInt8)} {w : World} (hsv : SV w (.slice PA pn pc) ps) (hl : ps.length ≤ 1000) (L : UInt8) (k m op op' : Int)
    (hbit : ∀ V, Calls Tryz.prog 155 #[.string ⟨#[L]⟩] V fun e w' => e = .returned (.int .i64 k) ∧ w' = V) (hk : (k == 0) = false)
    (hand : ∀ t, binOp .andNot t (.int .i64 op) (.int .i64 k) = pure (.int .i64 m)) (hor : ∀ t, binOp .or t (.int .i64 m) (.int .i64 k) = pure (.int .i64 op')) :
    Calls Tryz.prog 120 #[.agg #[.string ⟨#[]⟩, .slice none 0 0, .slice PA pn pc, .slice none 0 0, .slice none 0 0, .slice none 0 0, .int .i64 op, .int .i64 0, .int .i64 0, .int .i64 0, .string ⟨#[47]⟩, .int .i64 1, .int .i64 0, .int .i64 0, .bool false], .string ⟨#[L]⟩, .bool true] w fun e w' => ∃ A1 c1, e = .returned (.tuple #[.agg #[.string ⟨#[]⟩, .slice none 0 0, .slice A1 pn c1, .slice none 0 0, .slice none 0 0, .slice none 0 0, .int .i64 op', .int .i64 0, .int .i64 0, .int .i64 0, .string ⟨#[47]⟩, .int .i64 1, .int .i64 0, .int .i64 0, .bool false], .int .i64 0]) ∧ SV w' (.slice A1 pn c1) ps ∧ (∀ r, (Value.slice A1 pn c1).ownBlock = some r → w.heap.size ≤ r) ∧ Below w.heap.size w w' := by
  obtain ⟨X, hX⟩ : ∃ X, X = (w.alloc (.cells #[.string ⟨#[]⟩, .slice none 0 0, .slice PA pn pc, .slice none 0 0, .slice none 0 0, .slice none 0 0, .int .i64 op, .int .i64 0, .int .i64 0, .int .i64 0, .string ⟨#[47]⟩, .int .i64 1, .int .i64 0, .int .i64 0, .bool false] 31)).alloc (.cells #[.string ⟨#[]⟩, .slice none 0 0, .slice none 0 0, .slice none 0 0, .slice none 0 0, .slice none 0 0, .int .i64 0, .int .i64 0, .int .i64 0, .int .i64 0, .string ⟨#[]⟩, .int .i64 0, .int .i64 0, .int .i64 0, .bool false] 31) := ⟨_, rfl⟩
  have HX := Lib.hid hX
  have hbx : Below w.heap.size w X := by rw [hX]; exact btr (balloc _ _) (balloc _ _)
  have hx0 : X.heap[w.heap.size]? = some (.cells #[.string ⟨#[]⟩, .slice none 0 0, .slice PA pn pc, .slice none 0 0, .slice none 0 0, .slice none 0 0, .int .i64 op, .int .i64 0, .int .i64 0, .int .i64 0, .string ⟨#[47]⟩, .int .i64 1, .int .i64 0, .int .i64 0, .bool false] 31 (0, 0)) := by rw [hX]; exact (Below.heap_alloc _ _ _ (by simp)).trans (al_new w _)
  have hx1 : X.heap[w.heap.size + 1]? = some (.cells #[.string ⟨#[]⟩, .slice none 0 0, .slice none 0 0, .slice none 0 0, .slice none 0 0, .slice none 0 0, .int .i64 0, .int .i64 0, .int .i64 0, .int .i64 0, .string ⟨#[]⟩, .int .i64 0, .int .i64 0, .int .i64 0, .bool false] 31 (0, 0)) := by rw [hX]; exact al_new' _ _ _ (by simp)
  have hxs : X.heap.size = w.heap.size + 2 := by rw [hX]; simp
  have hiE : (Tryz.prog.info? 31).map (·.size) = some 15 := by kernel_rfl
  have hiI : (Tryz.prog.info? 3).map (·.size) = some 1 := by kernel_rfl
  have HIE := Lib.hid hiE
  have HII := Lib.hid hiI
  have HBIT := Lib.hid (hbit X)
  have HC := Lib.hid (copy_fresh PA pn pc ps op X (hsv.below hbx) hl)
  have HX0 := Lib.hid hx0
  have HX1 := Lib.hid hx1
  have HXS := Lib.hid hxs
  have HBX := Lib.hid hbx
  clear hX hbx hx0 hx1 hbit hxs hiE hiI
  go_enter Tryz.func120, Tryz.ntmps120
  go_upto_region 1 with (fail)
  rw [← HX.out]
  go_wp2_with fail
  refine HBIT.out.mono ?_
  rintro e Y ⟨rfl, hY⟩
  obtain rfl : X = Y := hY.symm
  go_upto_region 4 with (fail)
  go_wp2_with (refine wpList_load_row rfl 31 _ rfl w.heap.size rfl 31 _ (0, 0) _ HX0.out Tryz.underlying31 rfl (by rw [HIE.out]; rfl) ?_)
  refine HC.out.mono ?_
  rintro e Y ⟨A1, c1, rfl, hsy, hfr, hby⟩
  obtain ⟨V, hV⟩ : ∃ V, V = Y.alloc (.cells #[.string ⟨#[]⟩, .slice none 0 0, .slice none 0 0, .slice none 0 0, .slice none 0 0, .slice none 0 0, .int .i64 0, .int .i64 0, .int .i64 0, .int .i64 0, .string ⟨#[]⟩, .int .i64 0, .int .i64 0, .int .i64 0, .bool false] 31) := ⟨_, rfl⟩
  have HV := Lib.hid hV
  have hv1 : V.heap[Y.heap.size]? = some (.cells #[.string ⟨#[]⟩, .slice none 0 0, .slice none 0 0, .slice none 0 0, .slice none 0 0, .slice none 0 0, .int .i64 0, .int .i64 0, .int .i64 0, .int .i64 0, .string ⟨#[]⟩, .int .i64 0, .int .i64 0, .int .i64 0, .bool false] 31 (0, 0)) := by rw [hV]; exact al_new Y _
  have HV1 := Lib.hid hv1
  obtain ⟨Z, hZ⟩ : ∃ Z, Z = V.setRow Y.heap.size #[.string ⟨#[]⟩, .slice none 0 0, .slice A1 pn c1, .slice none 0 0, .slice none 0 0, .slice none 0 0, .int .i64 op, .int .i64 0, .int .i64 0, .int .i64 0, .string ⟨#[47]⟩, .int .i64 1, .int .i64 0, .int .i64 0, .bool false] := ⟨_, rfl⟩
  have hs1 := run_storeVar_row (P := Tryz.prog) (Y.alloc (.cells #[.string ⟨#[]⟩, .slice none 0 0, .slice none 0 0, .slice none 0 0, .slice none 0 0, .slice none 0 0, .int .i64 0, .int .i64 0, .int .i64 0, .int .i64 0, .string ⟨#[]⟩, .int .i64 0, .int .i64 0, .int .i64 0, .bool false] 31)) Y.heap.size 31 31 _ #[.string ⟨#[]⟩, .slice none 0 0, .slice A1 pn c1, .slice none 0 0, .slice none 0 0, .slice none 0 0, .int .i64 op, .int .i64 0, .int .i64 0, .int .i64 0, .string ⟨#[47]⟩, .int .i64 1, .int .i64 0, .int .i64 0, .bool false] (al_new Y _) (by rw [HIE.out]; rfl) rfl (by simp [Value.oneCell'])
  rw [← hV, ← hZ] at hs1
  rw [hV] at hs1
  have hz1 : Z.heap[Y.heap.size]? = some (.cells #[.string ⟨#[]⟩, .slice none 0 0, .slice A1 pn c1, .slice none 0 0, .slice none 0 0, .slice none 0 0, .int .i64 op, .int .i64 0, .int .i64 0, .int .i64 0, .string ⟨#[47]⟩, .int .i64 1, .int .i64 0, .int .i64 0, .bool false] 31 (0, 0)) := by rw [hZ]; exact setRow_heap V _ _ _ _ _ hv1
  have e6 : Z.cell? ⟨Y.heap.size, 6, none⟩ = some (.int .i64 op) := Lib.cell_of_heap hz1 6
  have hs6 := run_storeVar_int (P := Tryz.prog) Z ⟨Y.heap.size, 6, none⟩ 3 m (.int .i64 op) HII.out e6 (Lib.frozen_of_heap hz1 6)
  obtain ⟨Z2, hZ2⟩ : ∃ Z2, Z2 = Z.setCell ⟨Y.heap.size, 6, none⟩ (.int .i64 m) := ⟨_, rfl⟩
  rw [← hZ2] at hs6
  have hz2 : Z2.heap[Y.heap.size]? = some (.cells #[.string ⟨#[]⟩, .slice none 0 0, .slice A1 pn c1, .slice none 0 0, .slice none 0 0, .slice none 0 0, .int .i64 m, .int .i64 0, .int .i64 0, .int .i64 0, .string ⟨#[47]⟩, .int .i64 1, .int .i64 0, .int .i64 0, .bool false] 31 (0, 0)) := by rw [hZ2]; exact heap_setCell_same _ _ 6 _ _ _ hz1
  have e62 : Z2.cell? ⟨Y.heap.size, 6, none⟩ = some (.int .i64 m) := Lib.cell_of_heap hz2 6
  have hs62 := run_storeVar_int (P := Tryz.prog) Z2 ⟨Y.heap.size, 6, none⟩ 3 op' (.int .i64 m) HII.out e62 (Lib.frozen_of_heap hz2 6)
  obtain ⟨Z3, hZ3⟩ : ∃ Z3, Z3 = Z2.setCell ⟨Y.heap.size, 6, none⟩ (.int .i64 op') := ⟨_, rfl⟩
  rw [← hZ3] at hs62
  have hz3 : Z3.heap[Y.heap.size]? = some (.cells #[.string ⟨#[]⟩, .slice none 0 0, .slice A1 pn c1, .slice none 0 0, .slice none 0 0, .slice none 0 0, .int .i64 op', .int .i64 0, .int .i64 0, .int .i64 0, .string ⟨#[47]⟩, .int .i64 1, .int .i64 0, .int .i64 0, .bool false] 31 (0, 0)) := by rw [hZ3]; exact heap_setCell_same _ _ 6 _ _ _ hz2
  have HZ3 := Lib.hid hz3
  have hys := hby.size
  have hxs := HXS.out
  have hk3 : ∀ j, j ≠ Y.heap.size → Z3.heap[j]? = V.heap[j]? := fun j hj => by
    rw [hZ3, hZ2, hZ]
    exact (Below.heap_setCell _ _ _ _ hj).trans ((Below.heap_setCell _ _ _ _ hj).trans (setRow_other _ _ _ _ hj))
  have h31 : Z3.heap[w.heap.size + 1]? = some (.cells #[.string ⟨#[]⟩, .slice none 0 0, .slice none 0 0, .slice none 0 0, .slice none 0 0, .slice none 0 0, .int .i64 0, .int .i64 0, .int .i64 0, .int .i64 0, .string ⟨#[]⟩, .int .i64 0, .int .i64 0, .int .i64 0, .bool false] 31 (0, 0)) := by
    rw [hk3 _ (by omega), hV]
    exact (Below.heap_alloc _ _ _ (by omega)).trans ((hby.block _ (by omega)).trans HX1.out)
  have H31 := Lib.hid h31
  obtain ⟨Z4, hZ4⟩ : ∃ Z4, Z4 = Z3.setRow (w.heap.size + 1) #[.string ⟨#[]⟩, .slice none 0 0, .slice A1 pn c1, .slice none 0 0, .slice none 0 0, .slice none 0 0, .int .i64 op', .int .i64 0, .int .i64 0, .int .i64 0, .string ⟨#[47]⟩, .int .i64 1, .int .i64 0, .int .i64 0, .bool false] := ⟨_, rfl⟩
  have HZ4 := Lib.hid hZ4
  have hs4 := run_storeVar_row (P := Tryz.prog) Z3 (w.heap.size + 1) 31 31 _ #[.string ⟨#[]⟩, .slice none 0 0, .slice A1 pn c1, .slice none 0 0, .slice none 0 0, .slice none 0 0, .int .i64 op', .int .i64 0, .int .i64 0, .int .i64 0, .string ⟨#[47]⟩, .int .i64 1, .int .i64 0, .int .i64 0, .bool false] h31 (by rw [HIE.out]; rfl) rfl (by simp [Value.oneCell'])
  have hz4 : Z4.heap[w.heap.size + 1]? = some (.cells #[.string ⟨#[]⟩, .slice none 0 0, .slice A1 pn c1, .slice none 0 0, .slice none 0 0, .slice none 0 0, .int .i64 op', .int .i64 0, .int .i64 0, .int .i64 0, .string ⟨#[47]⟩, .int .i64 1, .int .i64 0, .int .i64 0, .bool false] 31 (0, 0)) := by rw [hZ4]; exact setRow_heap Z3 _ _ _ _ _ h31
  have hl4 : (loadVar 31 ⟨w.heap.size + 1, 0, none⟩).run Tryz.prog Z4 = .ok (.agg #[.string ⟨#[]⟩, .slice none 0 0, .slice A1 pn c1, .slice none 0 0, .slice none 0 0, .slice none 0 0, .int .i64 op', .int .i64 0, .int .i64 0, .int .i64 0, .string ⟨#[47]⟩, .int .i64 1, .int .i64 0, .int .i64 0, .bool false]) Z4 := run_loadVar_row Z4 (w.heap.size + 1) _ 31 _ (0, 0) _ hz4 Tryz.underlying31 rfl HIE.out
  have HL4 := Lib.hid hl4
  have hbz : Below w.heap.size w Z4 := by
    have b1 : Below w.heap.size w V := by rw [hV]; exact ((HBX.out.trans (hby.mono (by omega))).alloc (by omega) _)
    have b2 : Below w.heap.size w Z := by rw [hZ]; exact rowB b1 (by omega) _
    have b3 : Below w.heap.size w Z2 := by rw [hZ2]; exact b2.setCell (p := ⟨Y.heap.size, 6, none⟩) (by dsimp only; omega) _
    have b4 : Below w.heap.size w Z3 := by rw [hZ3]; exact b3.setCell (p := ⟨Y.heap.size, 6, none⟩) (by dsimp only; omega) _
    rw [hZ4]; exact rowB b4 (by omega) _
  have HBZ := Lib.hid hbz
  have HFR := Lib.hid (show ∀ r, (Value.slice A1 pn c1).ownBlock = some r → w.heap.size ≤ r from fun r hr => by have := hfr r hr; omega)
  have HSY := Lib.hid (show SV Z4 (.slice A1 pn c1) ps from by
    refine hsy.late hfr ?_ ?_
    · rw [hZ4, setRow_size, hZ3, hZ2, hZ, hV]
      simp [setRow_size]
    · intro j h1 h2
      rw [hZ4, setRow_other _ _ _ _ (by omega), hk3 _ (by omega), hV]
      exact Below.heap_alloc _ _ _ h2)
  clear hV hv1 hZ hz1 hZ2 hz2 hZ3 hz3 h31 hZ4 hz4 hl4 hbz hk3 hsy hby hfr
  go_upto_region 8 with (fail)
  go_wp2_with (refine wpList_load_row rfl 31 _ rfl Y.heap.size rfl 31 _ (0, 0) _ HZ3.out Tryz.underlying31 rfl (by rw [HIE.out]; rfl) ?_)
  rw [← HZ4.out]
  refine bodyPost_ret (results_cell2 Tryz.results120 _ _ _ _ _ rfl HL4.out) rfl ?_
  exact ⟨A1, c1, rfl, HSY.out, HFR.out, HBZ.out⟩
end W
end Go.Proofs.YtcbebkeakkahgaaGreatDoor
