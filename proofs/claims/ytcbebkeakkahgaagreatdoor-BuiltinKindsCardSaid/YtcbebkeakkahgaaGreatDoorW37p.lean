/- Built-in commands: getopts.Next where there is no option. -/
import Derived.Test.YtcbebkeakkahgaaGreatDoorW37o
import Derived.Deep.DeepCutAuto
namespace Go.Proofs.YtcbebkeakkahgaaGreatDoor
open Go.RowKit K
namespace W
set_option maxRecDepth 100000
/-- A list of words whose first one, if there is one, is no option. -/
def NoOpt (w : World) (A : Option Addr) (n : Nat) (wd : List UInt8) : Prop :=
  (n = 0 ∧ wd = [] ∨ 0 < n ∧ ∃ b off, A = some ⟨b, off, none⟩ ∧ b < w.heap.size ∧ w.cell? ⟨b, off, none⟩ = some (.string ⟨wd.toArray⟩)) ∧ wd.length ≤ 100000 ∧ (wd.length < 2 ∨ bt wd 0 ≠ 45)
theorem results_cc1 {fn : Func} {a b : Tmp} {t t' : TypeId} {u : Tmp} (h : fn.results = #[.cell a t, .cell b t', .tmp u]) (tmps : Array Value) (P : Program) (w : World) (ad bd : Addr) (v x : Value) (ha : tmps.getD a undef = .pointer (some ad)) (hb : tmps.getD b undef = .pointer (some bd)) (hl : (loadVar t ad).run P w = .ok v w) (hx : (loadVar t' bd).run P w = .ok x w) :
    (results fn tmps).run P w = .ok (.tuple #[v, x, tmps.getD u undef]) w := by
  rw [Array.getD_eq_getD_getElem?] at ha hb
  simp [results, h, ha, hb, hl, hx, asAddr]
theorem put_opt {Z : World} {a : Nat} {t t' : TypeId} (h1 : Z.heap[a + 1]? = some (.cells #[.string ⟨#[]⟩, .string ⟨#[]⟩, .int .i64 0, .string ⟨#[]⟩] t (0, 0))) (h2 : Z.heap[a + 1 + 1]? = some (.cells #[.int .i64 0, .int .i64 0] t' (0, 0))) :
    ∀ U, U = ((((((Z.setCell ⟨a + 1, 0, none⟩ (.string ⟨#[63]⟩)).setCell ⟨a + 1, 1, none⟩ (.string ⟨#[]⟩)).setCell ⟨a + 1, 2, none⟩ (.int .i64 1)).setCell ⟨a + 1, 3, none⟩ (.string ⟨#[]⟩)).setCell ⟨a + 1 + 1, 0, none⟩ (.int .i64 1)).setCell ⟨a + 1 + 1, 1, none⟩ (.int .i64 0)) →
      (∀ B, B ≤ a + 1 → ∀ w, Below B w Z → Below B w U.drew) ∧ U.drew.heap[a + 1]? = some (.cells #[.string ⟨#[63]⟩, .string ⟨#[]⟩, .int .i64 1, .string ⟨#[]⟩] t (0, 0)) ∧ U.drew.heap[a + 1 + 1]? = some (.cells #[.int .i64 1, .int .i64 0] t' (0, 0)) := by
  intro U hU
  have g0 := heap_setCell_same Z (a + 1) 0 _ _ (.string ⟨#[63]⟩) h1
  have g1 := heap_setCell_same _ (a + 1) 1 _ _ (.string ⟨#[]⟩) g0
  have g2 := heap_setCell_same _ (a + 1) 2 _ _ (.int .i64 1) g1
  have g3 := heap_setCell_same _ (a + 1) 3 _ _ (.string ⟨#[]⟩) g2
  have k0 := (Below.heap_setCell Z ⟨a + 1, 0, none⟩ (.string ⟨#[63]⟩) (a + 1 + 1) (by dsimp only; omega)).trans h2
  obtain ⟨Z1, e1⟩ : ∃ Z1, Z1 = Z.setCell ⟨a + 1, 0, none⟩ (.string ⟨#[63]⟩) := ⟨_, rfl⟩
  rw [← e1] at g1 g2 g3 k0 hU
  have k1 := (Below.heap_setCell Z1 ⟨a + 1, 1, none⟩ (.string ⟨#[]⟩) (a + 1 + 1) (by dsimp only; omega)).trans k0
  obtain ⟨Z2, e2⟩ : ∃ Z2, Z2 = Z1.setCell ⟨a + 1, 1, none⟩ (.string ⟨#[]⟩) := ⟨_, rfl⟩
  rw [← e2] at g2 g3 k1 hU
  have k2 := (Below.heap_setCell Z2 ⟨a + 1, 2, none⟩ (.int .i64 1) (a + 1 + 1) (by dsimp only; omega)).trans k1
  obtain ⟨Z3, e3⟩ : ∃ Z3, Z3 = Z2.setCell ⟨a + 1, 2, none⟩ (.int .i64 1) := ⟨_, rfl⟩
  rw [← e3] at g3 k2 hU
  have k3 := (Below.heap_setCell Z3 ⟨a + 1, 3, none⟩ (.string ⟨#[]⟩) (a + 1 + 1) (by dsimp only; omega)).trans k2
  obtain ⟨Z4, e4⟩ : ∃ Z4, Z4 = Z3.setCell ⟨a + 1, 3, none⟩ (.string ⟨#[]⟩) := ⟨_, rfl⟩
  rw [← e4] at g3 k3 hU
  have k4 := heap_setCell_same Z4 (a + 1 + 1) 0 _ _ (.int .i64 1) k3
  have g4 := (Below.heap_setCell Z4 ⟨a + 1 + 1, 0, none⟩ (.int .i64 1) (a + 1) (by dsimp only; omega)).trans g3
  obtain ⟨Z5, e5⟩ : ∃ Z5, Z5 = Z4.setCell ⟨a + 1 + 1, 0, none⟩ (.int .i64 1) := ⟨_, rfl⟩
  rw [← e5] at k4 g4 hU
  have k5 := heap_setCell_same Z5 (a + 1 + 1) 1 _ _ (.int .i64 0) k4
  have g5 := (Below.heap_setCell Z5 ⟨a + 1 + 1, 1, none⟩ (.int .i64 0) (a + 1) (by dsimp only; omega)).trans g4
  rw [← hU] at k5 g5
  refine ⟨fun B hB w h => ?_, g5, k5⟩
  have s1 := h.setCell (p := ⟨a + 1, 0, none⟩) hB (.string ⟨#[63]⟩)
  rw [← e1] at s1
  have s2 := s1.setCell (p := ⟨a + 1, 1, none⟩) hB (.string ⟨#[]⟩)
  rw [← e2] at s2
  have s3 := s2.setCell (p := ⟨a + 1, 2, none⟩) hB (.int .i64 1)
  rw [← e3] at s3
  have s4 := s3.setCell (p := ⟨a + 1, 3, none⟩) hB (.string ⟨#[]⟩)
  rw [← e4] at s4
  have s5 := s4.setCell (p := ⟨a + 1 + 1, 0, none⟩) (Nat.le_succ_of_le hB) (.int .i64 1)
  rw [← e5] at s5
  have s6 := s5.setCell (p := ⟨a + 1 + 1, 1, none⟩) (Nat.le_succ_of_le hB) (.int .i64 0)
  rw [← hU] at s6
  exact s6.drew
set_option maxHeartbeats 4000000 in
theorem Next_stop (s : List UInt8) (hV : ∀ v, Calls Tryz.prog 125 #[.string ⟨s.toArray⟩] v fun e w' => e = .returned (.int .i64 0) ∧ Below v.heap.size v w') (GA : Option Addr) (n gc : Nat) (wd : List UInt8) (w : World) (hw : NoOpt w GA n wd) :
    Calls Tryz.prog 77 #[.string ⟨s.toArray⟩, .slice GA n gc, .agg #[.int .i64 1, .int .i64 0]] w fun e w' => e = .returned (.tuple #[.agg #[.string ⟨#[63]⟩, .string ⟨#[]⟩, .int .i64 1, .string ⟨#[]⟩], .agg #[.int .i64 1, .int .i64 0], .int .i64 0]) ∧ Below w.heap.size w w' := by
  have HV := Lib.hid hV
  have HW := Lib.hid hw
  clear hV hw
  go_enter Tryz.func77, Tryz.ntmps77
  obtain ⟨X, hX⟩ : ∃ X, X = ((w.alloc (.cells #[.int .i64 1, .int .i64 0] 24)).alloc (.cells #[.string ⟨#[]⟩, .string ⟨#[]⟩, .int .i64 0, .string ⟨#[]⟩] 123)).alloc (.cells #[.int .i64 0, .int .i64 0] 24) := ⟨_, rfl⟩
  have HX := Lib.hid hX
  have HB := Lib.hid (show Below w.heap.size w X by rw [hX]; exact btr (balloc _ _) (btr (balloc _ _) (balloc _ _)))
  have hx0 : X.heap[w.heap.size]? = some (.cells #[.int .i64 1, .int .i64 0] 24 (0, 0)) := by
    rw [hX, (balloc _ _).block _ (by simp <;> omega), (balloc _ _).block _ (by simp)]; exact al_new w _
  have hx1 : X.heap[w.heap.size + 1]? = some (.cells #[.string ⟨#[]⟩, .string ⟨#[]⟩, .int .i64 0, .string ⟨#[]⟩] 123 (0, 0)) := by
    rw [hX, (balloc _ _).block _ (by simp)]; exact al_new' _ _ _ (by simp)
  have hx2 : X.heap[w.heap.size + 1 + 1]? = some (.cells #[.int .i64 0, .int .i64 0] 24 (0, 0)) := by
    rw [hX]; exact al_new' _ _ _ (by simp)
  have hs : X.heap.size = w.heap.size + 3 := by rw [hX]; simp
  have HX0 := Lib.hid hx0
  have HX1 := Lib.hid hx1
  have HX2 := Lib.hid hx2
  clear hX hx0 hx1 hx2
  go_upto_region 1 with (fail)
  rw [← HX.out]
  go_wp2_with fail
  refine (HV.out _).mono ?_
  rintro e Y ⟨rfl, hy⟩
  have HBY := Lib.hid (btr HB.out hy)
  have hya : Y.heap[w.heap.size]? = some (.cells #[.int .i64 1, .int .i64 0] 24 (0, 0)) := (hy.block _ (by omega)).trans HX0.out
  have HY0 := Lib.hid hya
  have HY1 := Lib.hid ((hy.block (w.heap.size + 1) (by omega)).trans HX1.out)
  have HY2 := Lib.hid ((hy.block (w.heap.size + 1 + 1) (by omega)).trans HX2.out)
  have hsy := hy.size
  have e0 : Y.cell? ⟨w.heap.size, 0, none⟩ = some (.int .i64 1) := Lib.cell_of_heap hya 0
  have e1 : Y.cell? ⟨w.heap.size, 1, none⟩ = some (.int .i64 0) := Lib.cell_of_heap hya 1
  have HI := Lib.hid (inRange_any GA n gc Y)
  clear hy hya
  go_wp2_with fail
  refine HI.out.mono ?_
  rintro e Z ⟨rfl, hz⟩
  have HBZ := Lib.hid (btr HBY.out hz)
  have hza := (hz.block w.heap.size (by omega)).trans HY0.out
  have HZ1 := Lib.hid ((hz.block (w.heap.size + 1) (by omega)).trans HY1.out)
  have HZ2 := Lib.hid ((hz.block (w.heap.size + 1 + 1) (by omega)).trans HY2.out)
  have hsz := hz.size
  have e0 : Z.cell? ⟨w.heap.size, 0, none⟩ = some (.int .i64 1) := Lib.cell_of_heap hza 0
  have e1 : Z.cell? ⟨w.heap.size, 1, none⟩ = some (.int .i64 0) := Lib.cell_of_heap hza 1
  clear hz hza
  obtain ⟨hw1, hl, hst⟩ := HW.out
  have hd : (wd == [45, 45]) = false := by
    rw [beq_eq_false_iff_ne]
    rintro rfl
    rcases hst with h | h
    · simp at h
    · exact h rfl
  have c10 : Z.cell? ⟨w.heap.size + 1, 0, none⟩ = some (.string ⟨#[]⟩) := Lib.cell_of_heap HZ1.out 0
  have c11 : Z.cell? ⟨w.heap.size + 1, 1, none⟩ = some (.string ⟨#[]⟩) := Lib.cell_of_heap HZ1.out 1
  have c12 : Z.cell? ⟨w.heap.size + 1, 2, none⟩ = some (.int .i64 0) := Lib.cell_of_heap HZ1.out 2
  have c13 : Z.cell? ⟨w.heap.size + 1, 3, none⟩ = some (.string ⟨#[]⟩) := Lib.cell_of_heap HZ1.out 3
  have c20 : Z.cell? ⟨w.heap.size + 1 + 1, 0, none⟩ = some (.int .i64 0) := Lib.cell_of_heap HZ2.out 0
  have c21 : Z.cell? ⟨w.heap.size + 1 + 1, 1, none⟩ = some (.int .i64 0) := Lib.cell_of_heap HZ2.out 1
  have f1 : ∀ j, Z.frozen? ⟨w.heap.size + 1, j, none⟩ = false := fun j => by simp [World.frozen?, HZ1.out]
  have f2 : ∀ j, Z.frozen? ⟨w.heap.size + 1 + 1, j, none⟩ = false := fun j => by simp [World.frozen?, HZ2.out]
  have f10 := f1 0
  have f11 := f1 1
  have f12 := f1 2
  have f13 := f1 3
  have f20 := f2 0
  have f21 := f2 1
  clear f1 f2
  rcases hw1 with ⟨hn, rfl⟩ | ⟨hn, b, off, rfl, hb, hc⟩
  · subst hn
    go_wp2
    go_cut [8] (fun x wx => x = .int .i64 0 ∧ Hid (Below w.heap.size w wx) ∧ Hid (wx.heap[w.heap.size + 1]? = some (.cells #[.string ⟨#[63]⟩, .string ⟨#[]⟩, .int .i64 1, .string ⟨#[]⟩] 123 (0, 0)) ∧ wx.heap[w.heap.size + 1 + 1]? = some (.cells #[.int .i64 1, .int .i64 0] 24 (0, 0))))
    case first =>
      go_region
      all_goals (repeat go_step)
      all_goals go_meet
      obtain ⟨b1, b2, b3⟩ := put_opt HZ1.out HZ2.out _ rfl
      exact ⟨rfl, Lib.hid (b1 _ (by omega) _ HBZ.out), Lib.hid ⟨b2, b3⟩⟩
    case rest =>
      obtain ⟨rfl, HBW, HW2⟩ := hcut
      have l1 : (loadVar 123 ⟨w.heap.size + 1, 0, none⟩).run Tryz.prog wc = .ok (.agg #[.string ⟨#[63]⟩, .string ⟨#[]⟩, .int .i64 1, .string ⟨#[]⟩]) wc := run_loadVar_row wc (w.heap.size + 1) _ 123 _ (0, 0) _ HW2.out.1 Tryz.underlying123 rfl (by kernel_rfl)
      have l2 : (loadVar 24 ⟨w.heap.size + 1 + 1, 0, none⟩).run Tryz.prog wc = .ok (.agg #[.int .i64 1, .int .i64 0]) wc := run_loadVar_row wc (w.heap.size + 1 + 1) _ 24 _ (0, 0) _ HW2.out.2 Tryz.underlying24 rfl (by kernel_rfl)
      clear c10 c11 c12 c13 c20 c21 f10 f11 f12 f13 f20 f21 e0 e1
      repeat go_step
      refine bodyPost_ret (results_cc1 Tryz.results77 _ _ _ _ _ _ _ rfl rfl l1 l2) rfl ?_
      exact ⟨rfl, HBW.out⟩
  · have q1 : ((1 : Int) ≤ (n : Int)) = True := eq_true (by omega)
    have q2 : (0 : Int) < (n : Int) := by omega
    have hc' : Z.cell? ⟨b, off, none⟩ = some (.string ⟨wd.toArray⟩) := (HBZ.out.cell (p := ⟨b, off, none⟩) hb).trans hc
    clear hc hb
    go_upto_region 12 with (fail)
    by_cases hl2 : wd.length < 2
    · have q3 : ((wd.length : Int) < 2) = True := eq_true (by omega)
      clear hst hl2
      go_wp2
      go_cut [8] (fun x wx => x = .int .i64 0 ∧ Hid (Below w.heap.size w wx) ∧ Hid (wx.heap[w.heap.size + 1]? = some (.cells #[.string ⟨#[63]⟩, .string ⟨#[]⟩, .int .i64 1, .string ⟨#[]⟩] 123 (0, 0)) ∧ wx.heap[w.heap.size + 1 + 1]? = some (.cells #[.int .i64 1, .int .i64 0] 24 (0, 0))))
      case first =>
        go_region
        all_goals (repeat go_step)
        all_goals go_meet
        obtain ⟨b1, b2, b3⟩ := put_opt HZ1.out HZ2.out _ rfl
        exact ⟨rfl, Lib.hid (b1 _ (by omega) _ HBZ.out), Lib.hid ⟨b2, b3⟩⟩
      case rest =>
        obtain ⟨rfl, HBW, HW2⟩ := hcut
        have l1 : (loadVar 123 ⟨w.heap.size + 1, 0, none⟩).run Tryz.prog wc = .ok (.agg #[.string ⟨#[63]⟩, .string ⟨#[]⟩, .int .i64 1, .string ⟨#[]⟩]) wc := run_loadVar_row wc (w.heap.size + 1) _ 123 _ (0, 0) _ HW2.out.1 Tryz.underlying123 rfl (by kernel_rfl)
        have l2 : (loadVar 24 ⟨w.heap.size + 1 + 1, 0, none⟩).run Tryz.prog wc = .ok (.agg #[.int .i64 1, .int .i64 0]) wc := run_loadVar_row wc (w.heap.size + 1 + 1) _ 24 _ (0, 0) _ HW2.out.2 Tryz.underlying24 rfl (by kernel_rfl)
        clear c10 c11 c12 c13 c20 c21 f10 f11 f12 f13 f20 f21 e0 e1
        repeat go_step
        refine bodyPost_ret (results_cc1 Tryz.results77 _ _ _ _ _ _ _ rfl rfl l1 l2) rfl ?_
        exact ⟨rfl, HBW.out⟩
    · have q3 : ((wd.length : Int) < 2) = False := eq_false (by omega)
      have q4 : (bt wd 0 != 45) = true := by rw [bne_iff_ne]; exact hst.resolve_left hl2
      have q5 : (bt wd 0 == 45) = false := by rw [beq_eq_false_iff_ne]; exact hst.resolve_left hl2
      have q6 : 0 < wd.length := by omega
      clear hst hl2
      go_wp2
      go_cut [8] (fun x wx => x = .int .i64 0 ∧ Hid (Below w.heap.size w wx) ∧ Hid (wx.heap[w.heap.size + 1]? = some (.cells #[.string ⟨#[63]⟩, .string ⟨#[]⟩, .int .i64 1, .string ⟨#[]⟩] 123 (0, 0)) ∧ wx.heap[w.heap.size + 1 + 1]? = some (.cells #[.int .i64 1, .int .i64 0] 24 (0, 0))))
      case first =>
        go_region
        all_goals (repeat go_step)
        all_goals go_meet
        obtain ⟨b1, b2, b3⟩ := put_opt HZ1.out HZ2.out _ rfl
        exact ⟨rfl, Lib.hid (b1 _ (by omega) _ HBZ.out), Lib.hid ⟨b2, b3⟩⟩
      case rest =>
        obtain ⟨rfl, HBW, HW2⟩ := hcut
        have l1 : (loadVar 123 ⟨w.heap.size + 1, 0, none⟩).run Tryz.prog wc = .ok (.agg #[.string ⟨#[63]⟩, .string ⟨#[]⟩, .int .i64 1, .string ⟨#[]⟩]) wc := run_loadVar_row wc (w.heap.size + 1) _ 123 _ (0, 0) _ HW2.out.1 Tryz.underlying123 rfl (by kernel_rfl)
        have l2 : (loadVar 24 ⟨w.heap.size + 1 + 1, 0, none⟩).run Tryz.prog wc = .ok (.agg #[.int .i64 1, .int .i64 0]) wc := run_loadVar_row wc (w.heap.size + 1 + 1) _ 24 _ (0, 0) _ HW2.out.2 Tryz.underlying24 rfl (by kernel_rfl)
        clear c10 c11 c12 c13 c20 c21 f10 f11 f12 f13 f20 f21 e0 e1
        repeat go_step
        refine bodyPost_ret (results_cc1 Tryz.results77 _ _ _ _ _ _ _ rfl rfl l1 l2) rfl ?_
        exact ⟨rfl, HBW.out⟩
end W
end Go.Proofs.YtcbebkeakkahgaaGreatDoor
