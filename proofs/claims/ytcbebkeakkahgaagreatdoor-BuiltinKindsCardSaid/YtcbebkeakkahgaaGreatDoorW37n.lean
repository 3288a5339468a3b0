/- Built-in commands: env.Copy, whatever the lists, over the contracts of their copies; printed by gen37n.py. -/
import Derived.Test.YtcbebkeakkahgaaGreatDoorW37c
import Derived.Test.YtcbebkeakkahgaaGreatDoorT37
namespace Go.Proofs.YtcbebkeakkahgaaGreatDoor
open Go.RowKit K
namespace W
set_option maxRecDepth 100000
theorem results_cell1 {fn : Func} {a : Tmp} {t : TypeId} (h : fn.results = #[.cell a t]) (tmps : Array Value) (P : Program) (w : World) (ad : Addr) (v : Value) (ha : tmps.getD a undef = .pointer (some ad)) (hl : (loadVar t ad).run P w = .ok v w) :
    (results fn tmps).run P w = .ok v w := by
  rw [Array.getD_eq_getD_getElem?] at ha
  simp [results, h, ha, hl, asAddr]
/-- What the copy of a list gives: a slice of which R is so. -/
def LOut (R : World → Value → Prop) (w : World) (e : Ending) (x : World) : Prop := ∃ B m d, e = .returned (.slice B m d) ∧ R x (.slice B m d) ∧ Below w.heap.size w x
def Late (B : Nat) (R : World → Value → Prop) : Prop := ∀ V V' v, V.heap.size ≤ V'.heap.size → (∀ k, B ≤ k → k < V.heap.size → V'.heap[k]? = V.heap[k]?) → R V v → R V' v
set_option maxHeartbeats 16000000 in
theorem Copy_gen {A1 A2 A3 A4 A5 : Option Addr} {n1 n2 n3 n4 n5 c1 c2 c3 c4 c5 : Nat} (nm cwd : List UInt8) (op st pid la gi gf lev : Int) (tk : Bool) (R1 R2 R3 R4 R5 : World → Value → Prop) (w : World)
    (l1 : Late (w.heap.size + 2) R1)
    (l2 : Late (w.heap.size + 2) R2)
    (l3 : Late (w.heap.size + 2) R3)
    (l4 : Late (w.heap.size + 2) R4)
    (l5 : Late (w.heap.size + 2) R5)
    (k1 : ∀ V, Below w.heap.size w V → w.heap.size + 2 ≤ V.heap.size → Calls Tryz.prog 17 #[.slice A1 n1 c1] V (LOut R1 V))
    (k2 : ∀ V, Below w.heap.size w V → w.heap.size + 2 ≤ V.heap.size → Calls Tryz.prog 18 #[.slice A2 n2 c2] V (LOut R2 V))
    (k4 : ∀ V, Below w.heap.size w V → w.heap.size + 2 ≤ V.heap.size → Calls Tryz.prog 19 #[.slice A4 n4 c4] V (LOut R4 V))
    (k5 : ∀ V, Below w.heap.size w V → w.heap.size + 2 ≤ V.heap.size → Calls Tryz.prog 20 #[.slice A5 n5 c5] V (LOut R5 V))
    (k3 : ∀ V, Below w.heap.size w V → w.heap.size + 2 ≤ V.heap.size → Calls Tryz.prog 21 #[.slice A3 n3 c3, .func (Fn.func 22) #[] #[]] V (LOut R3 V)) :
    Calls Tryz.prog 12 #[.agg #[.string ⟨nm.toArray⟩, .slice A1 n1 c1, .slice A2 n2 c2, .slice A3 n3 c3, .slice A4 n4 c4, .slice A5 n5 c5, .int .i64 op, .int .i64 st, .int .i64 pid, .int .i64 la, .string ⟨cwd.toArray⟩, .int .i64 gi, .int .i64 gf, .int .i64 lev, .bool tk]] w fun e w' => ∃ B1 B2 B3 B4 B5 m1 m2 m3 m4 m5 d1 d2 d3 d4 d5, e = .returned (.agg #[.string ⟨nm.toArray⟩, .slice B1 m1 d1, .slice B2 m2 d2, .slice B3 m3 d3, .slice B4 m4 d4, .slice B5 m5 d5, .int .i64 op, .int .i64 st, .int .i64 pid, .int .i64 la, .string ⟨cwd.toArray⟩, .int .i64 gi, .int .i64 gf, .int .i64 lev, .bool tk]) ∧ (R1 w' (.slice B1 m1 d1) ∧ R2 w' (.slice B2 m2 d2) ∧ R3 w' (.slice B3 m3 d3) ∧ R4 w' (.slice B4 m4 d4) ∧ R5 w' (.slice B5 m5 d5)) ∧ Below w.heap.size w w' := by
  obtain ⟨X, hX⟩ : ∃ X, X = (w.alloc (.cells #[.string ⟨nm.toArray⟩, .slice A1 n1 c1, .slice A2 n2 c2, .slice A3 n3 c3, .slice A4 n4 c4, .slice A5 n5 c5, .int .i64 op, .int .i64 st, .int .i64 pid, .int .i64 la, .string ⟨cwd.toArray⟩, .int .i64 gi, .int .i64 gf, .int .i64 lev, .bool tk] 31)).alloc (.cells #[.string ⟨#[]⟩, .slice none 0 0, .slice none 0 0, .slice none 0 0, .slice none 0 0, .slice none 0 0, .int .i64 0, .int .i64 0, .int .i64 0, .int .i64 0, .string ⟨#[]⟩, .int .i64 0, .int .i64 0, .int .i64 0, .bool false] 31) := ⟨_, rfl⟩
  have HX := Lib.hid hX
  have hx0 : X.heap[w.heap.size]? = some (.cells #[.string ⟨nm.toArray⟩, .slice A1 n1 c1, .slice A2 n2 c2, .slice A3 n3 c3, .slice A4 n4 c4, .slice A5 n5 c5, .int .i64 op, .int .i64 st, .int .i64 pid, .int .i64 la, .string ⟨cwd.toArray⟩, .int .i64 gi, .int .i64 gf, .int .i64 lev, .bool tk] 31 (0, 0)) := by rw [hX]; exact (Below.heap_alloc _ _ _ (by simp)).trans (al_new w _)
  have hx1 : X.heap[w.heap.size + 1]? = some (.cells #[.string ⟨#[]⟩, .slice none 0 0, .slice none 0 0, .slice none 0 0, .slice none 0 0, .slice none 0 0, .int .i64 0, .int .i64 0, .int .i64 0, .int .i64 0, .string ⟨#[]⟩, .int .i64 0, .int .i64 0, .int .i64 0, .bool false] 31 (0, 0)) := by rw [hX]; exact al_new' _ _ _ (by simp)
  have hbx : Below w.heap.size w X := by rw [hX]; exact btr (balloc _ _) (balloc _ _)
  have HXL := Lib.hid (show w.heap.size + 1 < X.heap.size from (Array.getElem?_eq_some_iff.1 hx1).1)
  have H0 := Lib.hid hx0
  have H1 := Lib.hid hx1
  have HB := Lib.hid hbx
  have K1 := Lib.hid k1
  have L1 := Lib.hid l1
  have K2 := Lib.hid k2
  have L2 := Lib.hid l2
  have K3 := Lib.hid k3
  have L3 := Lib.hid l3
  have K4 := Lib.hid k4
  have L4 := Lib.hid l4
  have K5 := Lib.hid k5
  have L5 := Lib.hid l5
  have HS := Lib.hid (show ∀ V : World, V.heap[w.heap.size]? = some (.cells #[.string ⟨nm.toArray⟩, .slice A1 n1 c1, .slice A2 n2 c2, .slice A3 n3 c3, .slice A4 n4 c4, .slice A5 n5 c5, .int .i64 op, .int .i64 st, .int .i64 pid, .int .i64 la, .string ⟨cwd.toArray⟩, .int .i64 gi, .int .i64 gf, .int .i64 lev, .bool tk] 31 (0, 0)) → (V.cell? ⟨w.heap.size, 1, none⟩ = some (.slice A1 n1 c1) ∧ V.cell? ⟨w.heap.size, 2, none⟩ = some (.slice A2 n2 c2) ∧ V.cell? ⟨w.heap.size, 4, none⟩ = some (.slice A4 n4 c4) ∧ V.cell? ⟨w.heap.size, 5, none⟩ = some (.slice A5 n5 c5)) from fun V hV => ⟨Lib.cell_of_heap hV 1, Lib.cell_of_heap hV 2, Lib.cell_of_heap hV 4, Lib.cell_of_heap hV 5⟩)
  clear hX hx0 hx1 hbx k1 k2 k3 k4 k5 l1 l2 l3 l4 l5
  go_enter Tryz.func12, Tryz.ntmps12
  go_upto_region 1 with (fail)
  rw [← HX.out]
  have s0 := HS.out X.drew H0.out
  refine T.wp_region_T (S := fun V => V.cell? ⟨w.heap.size, 1, none⟩ = some (.slice A1 n1 c1) ∧ V.cell? ⟨w.heap.size, 2, none⟩ = some (.slice A2 n2 c2) ∧ V.cell? ⟨w.heap.size, 4, none⟩ = some (.slice A4 n4 c4) ∧ V.cell? ⟨w.heap.size, 5, none⟩ = some (.slice A5 n5 c5)) (A := [0, 1, 2, 3, 4, 5, 6, 7, 8, 9, 10, 11, 12]) (n := 20) (by kernel_rfl) (by kernel_rfl) ?_
  refine T.wpAnyT_take (i := 0) (v := .pointer (some ⟨w.heap.size, 1, none⟩)) 3 rfl rfl (by kernel_rfl) (by kernel_rfl) (by kernel_rfl) (by kernel_rfl) (fun _ _ _ h => h) (Or.inl ⟨by rfl, ?_⟩) s0 ?_
  · intro V hV
    go_simp
  simp only [Act.put, List.setIfInBounds_toArray, List.set]
  refine T.wpAnyT_take (i := 1) (v := .slice A1 n1 c1) 4 rfl rfl (by kernel_rfl) (by kernel_rfl) (by kernel_rfl) (by kernel_rfl) (fun _ _ _ h => h) (Or.inl ⟨by rfl, ?_⟩) s0 ?_
  · intro V hV
    go_simp
  simp only [Act.put, List.setIfInBounds_toArray, List.set]
  refine T.wpAnyT_take (i := 3) (v := .pointer (some ⟨w.heap.size, 2, none⟩)) 6 rfl rfl (by kernel_rfl) (by kernel_rfl) (by kernel_rfl) (by kernel_rfl) (fun _ _ _ h => h) (Or.inl ⟨by rfl, ?_⟩) s0 ?_
  · intro V hV
    go_simp
  simp only [Act.put, List.setIfInBounds_toArray, List.set]
  refine T.wpAnyT_take (i := 4) (v := .slice A2 n2 c2) 7 rfl rfl (by kernel_rfl) (by kernel_rfl) (by kernel_rfl) (by kernel_rfl) (fun _ _ _ h => h) (Or.inl ⟨by rfl, ?_⟩) s0 ?_
  · intro V hV
    go_simp
  simp only [Act.put, List.setIfInBounds_toArray, List.set]
  refine T.wpAnyT_take (i := 6) (v := .pointer (some ⟨w.heap.size, 4, none⟩)) 9 rfl rfl (by kernel_rfl) (by kernel_rfl) (by kernel_rfl) (by kernel_rfl) (fun _ _ _ h => h) (Or.inl ⟨by rfl, ?_⟩) s0 ?_
  · intro V hV
    go_simp
  simp only [Act.put, List.setIfInBounds_toArray, List.set]
  refine T.wpAnyT_take (i := 7) (v := .slice A4 n4 c4) 10 rfl rfl (by kernel_rfl) (by kernel_rfl) (by kernel_rfl) (by kernel_rfl) (fun _ _ _ h => h) (Or.inl ⟨by rfl, ?_⟩) s0 ?_
  · intro V hV
    go_simp
  simp only [Act.put, List.setIfInBounds_toArray, List.set]
  refine T.wpAnyT_take (i := 9) (v := .pointer (some ⟨w.heap.size, 5, none⟩)) 12 rfl rfl (by kernel_rfl) (by kernel_rfl) (by kernel_rfl) (by kernel_rfl) (fun _ _ _ h => h) (Or.inl ⟨by rfl, ?_⟩) s0 ?_
  · intro V hV
    go_simp
  simp only [Act.put, List.setIfInBounds_toArray, List.set]
  refine T.wpAnyT_take (i := 10) (v := .slice A5 n5 c5) 13 rfl rfl (by kernel_rfl) (by kernel_rfl) (by kernel_rfl) (by kernel_rfl) (fun _ _ _ h => h) (Or.inl ⟨by rfl, ?_⟩) s0 ?_
  · intro V hV
    go_simp
  simp only [Act.put, List.setIfInBounds_toArray, List.set]
  refine T.wpAnyT_one (i := 2) (by kernel_rfl) (by kernel_rfl) rfl (fun K' hK => ?_)
  go_simp
  go_wp2_with (go_at_call 17; refine (K1.out _ HB.out.drew HXL.out).mono ?_; rintro e V1 ⟨B1, m1, d1, rfl, r1, b1⟩)
  have hb1 : Below w.heap.size w V1 := btr HB.out.drew b1
  have g1 : V1.heap[w.heap.size]? = some (.cells #[.string ⟨nm.toArray⟩, .slice A1 n1 c1, .slice A2 n2 c2, .slice A3 n3 c3, .slice A4 n4 c4, .slice A5 n5 c5, .int .i64 op, .int .i64 st, .int .i64 pid, .int .i64 la, .string ⟨cwd.toArray⟩, .int .i64 gi, .int .i64 gf, .int .i64 lev, .bool tk] 31 (0, 0)) := (b1.block _ (Nat.lt_of_succ_lt HXL.out)).trans H0.out
  have z1 : V1.heap[w.heap.size + 1]? = some (.cells #[.string ⟨#[]⟩, .slice none 0 0, .slice none 0 0, .slice none 0 0, .slice none 0 0, .slice none 0 0, .int .i64 0, .int .i64 0, .int .i64 0, .int .i64 0, .string ⟨#[]⟩, .int .i64 0, .int .i64 0, .int .i64 0, .bool false] 31 (0, 0)) := (b1.block _ HXL.out).trans H1.out
  have y1 : w.heap.size + 1 < V1.heap.size := (Array.getElem?_eq_some_iff.1 z1).1
  refine hK.out _ _ (HS.out V1 g1) ?_
  clear hK K'
  refine T.wpAnyT_take (i := 12) (v := .pointer (some ⟨w.heap.size, 1, none⟩)) 15 rfl rfl (by kernel_rfl) (by kernel_rfl) (by kernel_rfl) (by kernel_rfl) (fun _ _ _ h => h) (Or.inl ⟨by rfl, ?_⟩) (HS.out V1 g1) ?_
  · intro V hV
    go_simp
  simp only [Act.put, List.setIfInBounds_toArray, List.set]
  refine T.wpAnyT_one (i := 5) (by kernel_rfl) (by kernel_rfl) rfl (fun K' hK => ?_)
  go_simp
  go_wp2_with (go_at_call 18; refine (K2.out _ hb1 y1).mono ?_; rintro e V2 ⟨B2, m2, d2, rfl, r2, b2⟩)
  have hb2 : Below w.heap.size w V2 := btr hb1 b2
  have g2 : V2.heap[w.heap.size]? = some (.cells #[.string ⟨nm.toArray⟩, .slice A1 n1 c1, .slice A2 n2 c2, .slice A3 n3 c3, .slice A4 n4 c4, .slice A5 n5 c5, .int .i64 op, .int .i64 st, .int .i64 pid, .int .i64 la, .string ⟨cwd.toArray⟩, .int .i64 gi, .int .i64 gf, .int .i64 lev, .bool tk] 31 (0, 0)) := (b2.block _ (Nat.lt_of_succ_lt y1)).trans g1
  have z2 : V2.heap[w.heap.size + 1]? = some (.cells #[.string ⟨#[]⟩, .slice none 0 0, .slice none 0 0, .slice none 0 0, .slice none 0 0, .slice none 0 0, .int .i64 0, .int .i64 0, .int .i64 0, .int .i64 0, .string ⟨#[]⟩, .int .i64 0, .int .i64 0, .int .i64 0, .bool false] 31 (0, 0)) := (b2.block _ y1).trans z1
  have y2 : w.heap.size + 1 < V2.heap.size := (Array.getElem?_eq_some_iff.1 z2).1
  refine hK.out _ _ (HS.out V2 g2) ?_
  clear hK K'
  refine T.wpAnyT_one (i := 8) (by kernel_rfl) (by kernel_rfl) rfl (fun K' hK => ?_)
  go_simp
  go_wp2_with (go_at_call 19; refine (K4.out _ hb2 y2).mono ?_; rintro e V3 ⟨B4, m4, d4, rfl, r4, b3⟩)
  have hb3 : Below w.heap.size w V3 := btr hb2 b3
  have g3 : V3.heap[w.heap.size]? = some (.cells #[.string ⟨nm.toArray⟩, .slice A1 n1 c1, .slice A2 n2 c2, .slice A3 n3 c3, .slice A4 n4 c4, .slice A5 n5 c5, .int .i64 op, .int .i64 st, .int .i64 pid, .int .i64 la, .string ⟨cwd.toArray⟩, .int .i64 gi, .int .i64 gf, .int .i64 lev, .bool tk] 31 (0, 0)) := (b3.block _ (Nat.lt_of_succ_lt y2)).trans g2
  have z3 : V3.heap[w.heap.size + 1]? = some (.cells #[.string ⟨#[]⟩, .slice none 0 0, .slice none 0 0, .slice none 0 0, .slice none 0 0, .slice none 0 0, .int .i64 0, .int .i64 0, .int .i64 0, .int .i64 0, .string ⟨#[]⟩, .int .i64 0, .int .i64 0, .int .i64 0, .bool false] 31 (0, 0)) := (b3.block _ y2).trans z2
  have y3 : w.heap.size + 1 < V3.heap.size := (Array.getElem?_eq_some_iff.1 z3).1
  refine hK.out _ _ (HS.out V3 g3) ?_
  clear hK K'
  refine T.wpAnyT_one (i := 11) (by kernel_rfl) (by kernel_rfl) rfl (fun K' hK => ?_)
  go_simp
  go_wp2_with (go_at_call 20; refine (K5.out _ hb3 y3).mono ?_; rintro e V4 ⟨B5, m5, d5, rfl, r5, b4⟩)
  have hb4 : Below w.heap.size w V4 := btr hb3 b4
  have g4 : V4.heap[w.heap.size]? = some (.cells #[.string ⟨nm.toArray⟩, .slice A1 n1 c1, .slice A2 n2 c2, .slice A3 n3 c3, .slice A4 n4 c4, .slice A5 n5 c5, .int .i64 op, .int .i64 st, .int .i64 pid, .int .i64 la, .string ⟨cwd.toArray⟩, .int .i64 gi, .int .i64 gf, .int .i64 lev, .bool tk] 31 (0, 0)) := (b4.block _ (Nat.lt_of_succ_lt y3)).trans g3
  have z4 : V4.heap[w.heap.size + 1]? = some (.cells #[.string ⟨#[]⟩, .slice none 0 0, .slice none 0 0, .slice none 0 0, .slice none 0 0, .slice none 0 0, .int .i64 0, .int .i64 0, .int .i64 0, .int .i64 0, .string ⟨#[]⟩, .int .i64 0, .int .i64 0, .int .i64 0, .bool false] 31 (0, 0)) := (b4.block _ y3).trans z3
  have y4 : w.heap.size + 1 < V4.heap.size := (Array.getElem?_eq_some_iff.1 z4).1
  refine hK.out _ _ (HS.out V4 g4) ?_
  clear hK K'
  refine T.wpAnyT_last (by kernel_rfl) ?_
  have u0 := g4
  have x0 := z4
  have q0 := hb4
  clear g1 g2 g3 g4 z1 z2 z3 z4 s0
  have e1 : V4.cell? ⟨w.heap.size, 1, none⟩ = some (.slice A1 n1 c1) := Lib.cell_of_heap u0 1
  have f1 : V4.frozen? ⟨w.heap.size, 1, none⟩ = false := Lib.frozen_of_heap u0 1
  refine T.wpAny_one (i := 13) (by kernel_rfl) rfl (fun K' hK => ?_)
  go_simp
  refine hK.out _ _ ?_
  clear hK K' e1 f1
  obtain ⟨Y1, hY1⟩ : ∃ Y, Y = V4.setCell ⟨w.heap.size, 1, none⟩ (.slice B1 m1 d1) := ⟨_, rfl⟩
  rw [← hY1]
  have u1 : Y1.heap[w.heap.size]? = some (.cells #[.string ⟨nm.toArray⟩, .slice B1 m1 d1, .slice A2 n2 c2, .slice A3 n3 c3, .slice A4 n4 c4, .slice A5 n5 c5, .int .i64 op, .int .i64 st, .int .i64 pid, .int .i64 la, .string ⟨cwd.toArray⟩, .int .i64 gi, .int .i64 gf, .int .i64 lev, .bool tk] 31 (0, 0)) := by rw [hY1]; exact heap_setCell_same _ _ 1 _ _ _ u0
  have x1 : Y1.heap[w.heap.size + 1]? = some (.cells #[.string ⟨#[]⟩, .slice none 0 0, .slice none 0 0, .slice none 0 0, .slice none 0 0, .slice none 0 0, .int .i64 0, .int .i64 0, .int .i64 0, .int .i64 0, .string ⟨#[]⟩, .int .i64 0, .int .i64 0, .int .i64 0, .bool false] 31 (0, 0)) := by rw [hY1]; exact (Below.heap_setCell _ _ _ _ (by dsimp only; omega)).trans x0
  have q1 : Below w.heap.size w Y1 := by rw [hY1]; exact q0.setCell (p := ⟨w.heap.size, 1, none⟩) (Nat.le_refl _) _
  have t1 : ∀ k, w.heap.size + 2 ≤ k → Y1.heap[k]? = V4.heap[k]? := fun k hk => by rw [hY1]; exact (Below.heap_setCell _ _ _ _ (by dsimp only; omega))
  have v1 : Y1.heap.size = V4.heap.size := by rw [hY1]; simp
  clear hY1 u0 x0 q0
  refine T.wpAny_one (i := 14) (by kernel_rfl) rfl (fun K' hK => ?_)
  go_simp
  refine hK.out _ _ ?_
  clear hK K'
  have e2 : Y1.cell? ⟨w.heap.size, 2, none⟩ = some (.slice A2 n2 c2) := Lib.cell_of_heap u1 2
  have f2 : Y1.frozen? ⟨w.heap.size, 2, none⟩ = false := Lib.frozen_of_heap u1 2
  refine T.wpAny_one (i := 15) (by kernel_rfl) rfl (fun K' hK => ?_)
  go_simp
  refine hK.out _ _ ?_
  clear hK K' e2 f2
  obtain ⟨Y2, hY2⟩ : ∃ Y, Y = Y1.setCell ⟨w.heap.size, 2, none⟩ (.slice B2 m2 d2) := ⟨_, rfl⟩
  rw [← hY2]
  have u2 : Y2.heap[w.heap.size]? = some (.cells #[.string ⟨nm.toArray⟩, .slice B1 m1 d1, .slice B2 m2 d2, .slice A3 n3 c3, .slice A4 n4 c4, .slice A5 n5 c5, .int .i64 op, .int .i64 st, .int .i64 pid, .int .i64 la, .string ⟨cwd.toArray⟩, .int .i64 gi, .int .i64 gf, .int .i64 lev, .bool tk] 31 (0, 0)) := by rw [hY2]; exact heap_setCell_same _ _ 2 _ _ _ u1
  have x2 : Y2.heap[w.heap.size + 1]? = some (.cells #[.string ⟨#[]⟩, .slice none 0 0, .slice none 0 0, .slice none 0 0, .slice none 0 0, .slice none 0 0, .int .i64 0, .int .i64 0, .int .i64 0, .int .i64 0, .string ⟨#[]⟩, .int .i64 0, .int .i64 0, .int .i64 0, .bool false] 31 (0, 0)) := by rw [hY2]; exact (Below.heap_setCell _ _ _ _ (by dsimp only; omega)).trans x1
  have q2 : Below w.heap.size w Y2 := by rw [hY2]; exact q1.setCell (p := ⟨w.heap.size, 2, none⟩) (Nat.le_refl _) _
  have t2 : ∀ k, w.heap.size + 2 ≤ k → Y2.heap[k]? = V4.heap[k]? := fun k hk => by rw [hY2]; exact (Below.heap_setCell _ _ _ _ (by dsimp only; omega)).trans (t1 k hk)
  have v2 : Y2.heap.size = V4.heap.size := by rw [hY2]; simp; exact v1
  clear hY2 u1 x1 q1 t1 v1
  refine T.wpAny_one (i := 16) (by kernel_rfl) rfl (fun K' hK => ?_)
  go_simp
  refine hK.out _ _ ?_
  clear hK K'
  have e3 : Y2.cell? ⟨w.heap.size, 4, none⟩ = some (.slice A4 n4 c4) := Lib.cell_of_heap u2 4
  have f3 : Y2.frozen? ⟨w.heap.size, 4, none⟩ = false := Lib.frozen_of_heap u2 4
  refine T.wpAny_one (i := 17) (by kernel_rfl) rfl (fun K' hK => ?_)
  go_simp
  refine hK.out _ _ ?_
  clear hK K' e3 f3
  obtain ⟨Y3, hY3⟩ : ∃ Y, Y = Y2.setCell ⟨w.heap.size, 4, none⟩ (.slice B4 m4 d4) := ⟨_, rfl⟩
  rw [← hY3]
  have u3 : Y3.heap[w.heap.size]? = some (.cells #[.string ⟨nm.toArray⟩, .slice B1 m1 d1, .slice B2 m2 d2, .slice A3 n3 c3, .slice B4 m4 d4, .slice A5 n5 c5, .int .i64 op, .int .i64 st, .int .i64 pid, .int .i64 la, .string ⟨cwd.toArray⟩, .int .i64 gi, .int .i64 gf, .int .i64 lev, .bool tk] 31 (0, 0)) := by rw [hY3]; exact heap_setCell_same _ _ 4 _ _ _ u2
  have x3 : Y3.heap[w.heap.size + 1]? = some (.cells #[.string ⟨#[]⟩, .slice none 0 0, .slice none 0 0, .slice none 0 0, .slice none 0 0, .slice none 0 0, .int .i64 0, .int .i64 0, .int .i64 0, .int .i64 0, .string ⟨#[]⟩, .int .i64 0, .int .i64 0, .int .i64 0, .bool false] 31 (0, 0)) := by rw [hY3]; exact (Below.heap_setCell _ _ _ _ (by dsimp only; omega)).trans x2
  have q3 : Below w.heap.size w Y3 := by rw [hY3]; exact q2.setCell (p := ⟨w.heap.size, 4, none⟩) (Nat.le_refl _) _
  have t3 : ∀ k, w.heap.size + 2 ≤ k → Y3.heap[k]? = V4.heap[k]? := fun k hk => by rw [hY3]; exact (Below.heap_setCell _ _ _ _ (by dsimp only; omega)).trans (t2 k hk)
  have v3 : Y3.heap.size = V4.heap.size := by rw [hY3]; simp; exact v2
  clear hY3 u2 x2 q2 t2 v2
  refine T.wpAny_one (i := 18) (by kernel_rfl) rfl (fun K' hK => ?_)
  go_simp
  refine hK.out _ _ ?_
  clear hK K'
  have e4 : Y3.cell? ⟨w.heap.size, 5, none⟩ = some (.slice A5 n5 c5) := Lib.cell_of_heap u3 5
  have f4 : Y3.frozen? ⟨w.heap.size, 5, none⟩ = false := Lib.frozen_of_heap u3 5
  refine T.wpAny_one (i := 19) (by kernel_rfl) rfl (fun K' hK => ?_)
  go_simp
  refine hK.out _ _ ?_
  clear hK K' e4 f4
  obtain ⟨Y4, hY4⟩ : ∃ Y, Y = Y3.setCell ⟨w.heap.size, 5, none⟩ (.slice B5 m5 d5) := ⟨_, rfl⟩
  rw [← hY4]
  have u4 : Y4.heap[w.heap.size]? = some (.cells #[.string ⟨nm.toArray⟩, .slice B1 m1 d1, .slice B2 m2 d2, .slice A3 n3 c3, .slice B4 m4 d4, .slice B5 m5 d5, .int .i64 op, .int .i64 st, .int .i64 pid, .int .i64 la, .string ⟨cwd.toArray⟩, .int .i64 gi, .int .i64 gf, .int .i64 lev, .bool tk] 31 (0, 0)) := by rw [hY4]; exact heap_setCell_same _ _ 5 _ _ _ u3
  have x4 : Y4.heap[w.heap.size + 1]? = some (.cells #[.string ⟨#[]⟩, .slice none 0 0, .slice none 0 0, .slice none 0 0, .slice none 0 0, .slice none 0 0, .int .i64 0, .int .i64 0, .int .i64 0, .int .i64 0, .string ⟨#[]⟩, .int .i64 0, .int .i64 0, .int .i64 0, .bool false] 31 (0, 0)) := by rw [hY4]; exact (Below.heap_setCell _ _ _ _ (by dsimp only; omega)).trans x3
  have q4 : Below w.heap.size w Y4 := by rw [hY4]; exact q3.setCell (p := ⟨w.heap.size, 5, none⟩) (Nat.le_refl _) _
  have t4 : ∀ k, w.heap.size + 2 ≤ k → Y4.heap[k]? = V4.heap[k]? := fun k hk => by rw [hY4]; exact (Below.heap_setCell _ _ _ _ (by dsimp only; omega)).trans (t3 k hk)
  have v4 : Y4.heap.size = V4.heap.size := by rw [hY4]; simp; exact v3
  clear hY4 u3 x3 q3 t3 v3
  have s12 := b2.size
  have s23 := b3.size
  have s34 := b4.size
  have hfar : ∀ k, w.heap.size + 2 ≤ k → Y4.heap[k]? = V4.heap[k]? := t4
  have hY4s : V4.heap.size ≤ Y4.heap.size := Nat.le_of_eq v4.symm
  have RR1 := Lib.hid (L1.out _ Y4 _ (by omega) (fun k h1 h2 => (hfar k h1).trans ((b4.block k (by omega)).trans ((b3.block k (by omega)).trans (b2.block k h2)))) r1)
  have RR2 := Lib.hid (L2.out _ Y4 _ (by omega) (fun k h1 h2 => (hfar k h1).trans ((b4.block k (by omega)).trans (b3.block k h2))) r2)
  have RR4 := Lib.hid (L4.out _ Y4 _ (by omega) (fun k h1 h2 => (hfar k h1).trans (b4.block k h2)) r4)
  have RR5 := Lib.hid (L5.out _ Y4 _ hY4s (fun k h1 h2 => hfar k h1) r5)
  have q5 := q4
  clear r1 r2 r4 r5 t4 v4 hY4s b1 b2 b3 b4 hb1 hb2 hb3 hb4 hfar s12 s23 s34 y1 y2 y3 y4
  refine wpAny_done (by kernel_rfl) ?_ _
  have e3 : Y4.cell? ⟨w.heap.size, 3, none⟩ = some (.slice A3 n3 c3) := Lib.cell_of_heap u4 3
  have f3 : Y4.frozen? ⟨w.heap.size, 3, none⟩ = false := Lib.frozen_of_heap u4 3
  have hyl1 : w.heap.size + 1 < Y4.heap.size := (Array.getElem?_eq_some_iff.1 x4).1
  have hyl : w.heap.size < Y4.heap.size := Nat.lt_of_succ_lt hyl1
  have U4 := Lib.hid u4
  have X4 := Lib.hid x4
  have Q4 := Lib.hid q4
  clear u4 x4 q4 q5
  go_wp2_with fail
  refine (K3.out _ Q4.out hyl1).mono ?_
  rintro e V5 ⟨B3, m3, d3, rfl, r3, b5⟩
  have u5 := (b5.block _ hyl).trans U4.out
  have x5 := (b5.block _ hyl1).trans X4.out
  have q5 := btr Q4.out b5
  have hvl1 : w.heap.size + 1 < V5.heap.size := (Array.getElem?_eq_some_iff.1 x5).1
  have hvl : w.heap.size < V5.heap.size := Nat.lt_of_succ_lt hvl1
  have e3 : V5.cell? ⟨w.heap.size, 3, none⟩ = some (.slice A3 n3 c3) := Lib.cell_of_heap u5 3
  have f3 : V5.frozen? ⟨w.heap.size, 3, none⟩ = false := Lib.frozen_of_heap u5 3
  obtain ⟨Y5, hY5⟩ : ∃ Y, Y = V5.setCell ⟨w.heap.size, 3, none⟩ (.slice B3 m3 d3) := ⟨_, rfl⟩
  have HY5 := Lib.hid hY5
  have U5 := Lib.hid (show Y5.heap[w.heap.size]? = some (.cells #[.string ⟨nm.toArray⟩, .slice B1 m1 d1, .slice B2 m2 d2, .slice B3 m3 d3, .slice B4 m4 d4, .slice B5 m5 d5, .int .i64 op, .int .i64 st, .int .i64 pid, .int .i64 la, .string ⟨cwd.toArray⟩, .int .i64 gi, .int .i64 gf, .int .i64 lev, .bool tk] 31 (0, 0)) by rw [hY5]; exact heap_setCell_same _ _ 3 _ _ _ u5)
  have X5 := Lib.hid (show Y5.heap[w.heap.size + 1]? = some (.cells #[.string ⟨#[]⟩, .slice none 0 0, .slice none 0 0, .slice none 0 0, .slice none 0 0, .slice none 0 0, .int .i64 0, .int .i64 0, .int .i64 0, .int .i64 0, .string ⟨#[]⟩, .int .i64 0, .int .i64 0, .int .i64 0, .bool false] 31 (0, 0)) by rw [hY5]; exact (Below.heap_setCell _ _ _ _ (by dsimp only; omega)).trans x5)
  have Q5 := Lib.hid (show Below w.heap.size w Y5 by rw [hY5]; exact q5.setCell (p := ⟨w.heap.size, 3, none⟩) (Nat.le_refl _) _)
  have F5 := Lib.hid (show ∀ k, w.heap.size + 2 ≤ k → Y5.heap[k]? = V5.heap[k]? from fun k hk => by rw [hY5]; exact Below.heap_setCell _ _ _ _ (by dsimp only; omega))
  have S5 := Lib.hid (show Y5.heap.size = V5.heap.size by rw [hY5]; simp)
  have BB5 := Lib.hid b5
  have R3' := Lib.hid r3
  clear hY5 u5 x5 q5 b5 r3
  go_upto_region 3 with (fail)
  rw [← HY5.out]
  clear e3 f3
  have e0 : Y5.cell? ⟨w.heap.size, 0, none⟩ = some (.string ⟨nm.toArray⟩) := Lib.cell_of_heap U5.out 0
  have z0 : Y5.cell? ⟨w.heap.size + 1, 0, none⟩ = some (.string ⟨#[]⟩) := Lib.cell_of_heap X5.out 0
  have f0 : Y5.frozen? ⟨w.heap.size + 1, 0, none⟩ = false := Lib.frozen_of_heap X5.out 0
  have e1 : Y5.cell? ⟨w.heap.size, 1, none⟩ = some (.slice B1 m1 d1) := Lib.cell_of_heap U5.out 1
  have z1 : Y5.cell? ⟨w.heap.size + 1, 1, none⟩ = some (.slice none 0 0) := Lib.cell_of_heap X5.out 1
  have f1 : Y5.frozen? ⟨w.heap.size + 1, 1, none⟩ = false := Lib.frozen_of_heap X5.out 1
  have e2 : Y5.cell? ⟨w.heap.size, 2, none⟩ = some (.slice B2 m2 d2) := Lib.cell_of_heap U5.out 2
  have z2 : Y5.cell? ⟨w.heap.size + 1, 2, none⟩ = some (.slice none 0 0) := Lib.cell_of_heap X5.out 2
  have f2 : Y5.frozen? ⟨w.heap.size + 1, 2, none⟩ = false := Lib.frozen_of_heap X5.out 2
  have e3 : Y5.cell? ⟨w.heap.size, 3, none⟩ = some (.slice B3 m3 d3) := Lib.cell_of_heap U5.out 3
  have z3 : Y5.cell? ⟨w.heap.size + 1, 3, none⟩ = some (.slice none 0 0) := Lib.cell_of_heap X5.out 3
  have f3 : Y5.frozen? ⟨w.heap.size + 1, 3, none⟩ = false := Lib.frozen_of_heap X5.out 3
  have e4 : Y5.cell? ⟨w.heap.size, 4, none⟩ = some (.slice B4 m4 d4) := Lib.cell_of_heap U5.out 4
  have z4 : Y5.cell? ⟨w.heap.size + 1, 4, none⟩ = some (.slice none 0 0) := Lib.cell_of_heap X5.out 4
  have f4 : Y5.frozen? ⟨w.heap.size + 1, 4, none⟩ = false := Lib.frozen_of_heap X5.out 4
  have e5 : Y5.cell? ⟨w.heap.size, 5, none⟩ = some (.slice B5 m5 d5) := Lib.cell_of_heap U5.out 5
  have z5 : Y5.cell? ⟨w.heap.size + 1, 5, none⟩ = some (.slice none 0 0) := Lib.cell_of_heap X5.out 5
  have f5 : Y5.frozen? ⟨w.heap.size + 1, 5, none⟩ = false := Lib.frozen_of_heap X5.out 5
  have e6 : Y5.cell? ⟨w.heap.size, 6, none⟩ = some (.int .i64 op) := Lib.cell_of_heap U5.out 6
  have z6 : Y5.cell? ⟨w.heap.size + 1, 6, none⟩ = some (.int .i64 0) := Lib.cell_of_heap X5.out 6
  have f6 : Y5.frozen? ⟨w.heap.size + 1, 6, none⟩ = false := Lib.frozen_of_heap X5.out 6
  have e7 : Y5.cell? ⟨w.heap.size, 7, none⟩ = some (.int .i64 st) := Lib.cell_of_heap U5.out 7
  have z7 : Y5.cell? ⟨w.heap.size + 1, 7, none⟩ = some (.int .i64 0) := Lib.cell_of_heap X5.out 7
  have f7 : Y5.frozen? ⟨w.heap.size + 1, 7, none⟩ = false := Lib.frozen_of_heap X5.out 7
  have e8 : Y5.cell? ⟨w.heap.size, 8, none⟩ = some (.int .i64 pid) := Lib.cell_of_heap U5.out 8
  have z8 : Y5.cell? ⟨w.heap.size + 1, 8, none⟩ = some (.int .i64 0) := Lib.cell_of_heap X5.out 8
  have f8 : Y5.frozen? ⟨w.heap.size + 1, 8, none⟩ = false := Lib.frozen_of_heap X5.out 8
  have e9 : Y5.cell? ⟨w.heap.size, 9, none⟩ = some (.int .i64 la) := Lib.cell_of_heap U5.out 9
  have z9 : Y5.cell? ⟨w.heap.size + 1, 9, none⟩ = some (.int .i64 0) := Lib.cell_of_heap X5.out 9
  have f9 : Y5.frozen? ⟨w.heap.size + 1, 9, none⟩ = false := Lib.frozen_of_heap X5.out 9
  have e10 : Y5.cell? ⟨w.heap.size, 10, none⟩ = some (.string ⟨cwd.toArray⟩) := Lib.cell_of_heap U5.out 10
  have z10 : Y5.cell? ⟨w.heap.size + 1, 10, none⟩ = some (.string ⟨#[]⟩) := Lib.cell_of_heap X5.out 10
  have f10 : Y5.frozen? ⟨w.heap.size + 1, 10, none⟩ = false := Lib.frozen_of_heap X5.out 10
  have e11 : Y5.cell? ⟨w.heap.size, 11, none⟩ = some (.int .i64 gi) := Lib.cell_of_heap U5.out 11
  have z11 : Y5.cell? ⟨w.heap.size + 1, 11, none⟩ = some (.int .i64 0) := Lib.cell_of_heap X5.out 11
  have f11 : Y5.frozen? ⟨w.heap.size + 1, 11, none⟩ = false := Lib.frozen_of_heap X5.out 11
  have e12 : Y5.cell? ⟨w.heap.size, 12, none⟩ = some (.int .i64 gf) := Lib.cell_of_heap U5.out 12
  have z12 : Y5.cell? ⟨w.heap.size + 1, 12, none⟩ = some (.int .i64 0) := Lib.cell_of_heap X5.out 12
  have f12 : Y5.frozen? ⟨w.heap.size + 1, 12, none⟩ = false := Lib.frozen_of_heap X5.out 12
  have e13 : Y5.cell? ⟨w.heap.size, 13, none⟩ = some (.int .i64 lev) := Lib.cell_of_heap U5.out 13
  have z13 : Y5.cell? ⟨w.heap.size + 1, 13, none⟩ = some (.int .i64 0) := Lib.cell_of_heap X5.out 13
  have f13 : Y5.frozen? ⟨w.heap.size + 1, 13, none⟩ = false := Lib.frozen_of_heap X5.out 13
  have e14 : Y5.cell? ⟨w.heap.size, 14, none⟩ = some (.bool tk) := Lib.cell_of_heap U5.out 14
  have z14 : Y5.cell? ⟨w.heap.size + 1, 14, none⟩ = some (.bool false) := Lib.cell_of_heap X5.out 14
  have f14 : Y5.frozen? ⟨w.heap.size + 1, 14, none⟩ = false := Lib.frozen_of_heap X5.out 14
  have hql1 : w.heap.size + 1 < Y5.heap.size := (Array.getElem?_eq_some_iff.1 X5.out).1
  have hql : w.heap.size < Y5.heap.size := Nat.lt_of_succ_lt hql1
  have p0 : (Y5.setCell ⟨w.heap.size + 1, 0, none⟩ (.string ⟨nm.toArray⟩)).heap[w.heap.size + 1]? = some (.cells #[.string ⟨nm.toArray⟩, .slice none 0 0, .slice none 0 0, .slice none 0 0, .slice none 0 0, .slice none 0 0, .int .i64 0, .int .i64 0, .int .i64 0, .int .i64 0, .string ⟨#[]⟩, .int .i64 0, .int .i64 0, .int .i64 0, .bool false] 31 (0, 0)) := heap_setCell_same _ _ 0 _ _ _ X5.out
  have p1 : ((Y5.setCell ⟨w.heap.size + 1, 0, none⟩ (.string ⟨nm.toArray⟩)).setCell ⟨w.heap.size + 1, 1, none⟩ (.slice B1 m1 d1)).heap[w.heap.size + 1]? = some (.cells #[.string ⟨nm.toArray⟩, .slice B1 m1 d1, .slice none 0 0, .slice none 0 0, .slice none 0 0, .slice none 0 0, .int .i64 0, .int .i64 0, .int .i64 0, .int .i64 0, .string ⟨#[]⟩, .int .i64 0, .int .i64 0, .int .i64 0, .bool false] 31 (0, 0)) := heap_setCell_same _ _ 1 _ _ _ p0
  have p2 : (((Y5.setCell ⟨w.heap.size + 1, 0, none⟩ (.string ⟨nm.toArray⟩)).setCell ⟨w.heap.size + 1, 1, none⟩ (.slice B1 m1 d1)).setCell ⟨w.heap.size + 1, 2, none⟩ (.slice B2 m2 d2)).heap[w.heap.size + 1]? = some (.cells #[.string ⟨nm.toArray⟩, .slice B1 m1 d1, .slice B2 m2 d2, .slice none 0 0, .slice none 0 0, .slice none 0 0, .int .i64 0, .int .i64 0, .int .i64 0, .int .i64 0, .string ⟨#[]⟩, .int .i64 0, .int .i64 0, .int .i64 0, .bool false] 31 (0, 0)) := heap_setCell_same _ _ 2 _ _ _ p1
  have p3 : ((((Y5.setCell ⟨w.heap.size + 1, 0, none⟩ (.string ⟨nm.toArray⟩)).setCell ⟨w.heap.size + 1, 1, none⟩ (.slice B1 m1 d1)).setCell ⟨w.heap.size + 1, 2, none⟩ (.slice B2 m2 d2)).setCell ⟨w.heap.size + 1, 3, none⟩ (.slice B3 m3 d3)).heap[w.heap.size + 1]? = some (.cells #[.string ⟨nm.toArray⟩, .slice B1 m1 d1, .slice B2 m2 d2, .slice B3 m3 d3, .slice none 0 0, .slice none 0 0, .int .i64 0, .int .i64 0, .int .i64 0, .int .i64 0, .string ⟨#[]⟩, .int .i64 0, .int .i64 0, .int .i64 0, .bool false] 31 (0, 0)) := heap_setCell_same _ _ 3 _ _ _ p2
  have p4 : (((((Y5.setCell ⟨w.heap.size + 1, 0, none⟩ (.string ⟨nm.toArray⟩)).setCell ⟨w.heap.size + 1, 1, none⟩ (.slice B1 m1 d1)).setCell ⟨w.heap.size + 1, 2, none⟩ (.slice B2 m2 d2)).setCell ⟨w.heap.size + 1, 3, none⟩ (.slice B3 m3 d3)).setCell ⟨w.heap.size + 1, 4, none⟩ (.slice B4 m4 d4)).heap[w.heap.size + 1]? = some (.cells #[.string ⟨nm.toArray⟩, .slice B1 m1 d1, .slice B2 m2 d2, .slice B3 m3 d3, .slice B4 m4 d4, .slice none 0 0, .int .i64 0, .int .i64 0, .int .i64 0, .int .i64 0, .string ⟨#[]⟩, .int .i64 0, .int .i64 0, .int .i64 0, .bool false] 31 (0, 0)) := heap_setCell_same _ _ 4 _ _ _ p3
  have p5 : ((((((Y5.setCell ⟨w.heap.size + 1, 0, none⟩ (.string ⟨nm.toArray⟩)).setCell ⟨w.heap.size + 1, 1, none⟩ (.slice B1 m1 d1)).setCell ⟨w.heap.size + 1, 2, none⟩ (.slice B2 m2 d2)).setCell ⟨w.heap.size + 1, 3, none⟩ (.slice B3 m3 d3)).setCell ⟨w.heap.size + 1, 4, none⟩ (.slice B4 m4 d4)).setCell ⟨w.heap.size + 1, 5, none⟩ (.slice B5 m5 d5)).heap[w.heap.size + 1]? = some (.cells #[.string ⟨nm.toArray⟩, .slice B1 m1 d1, .slice B2 m2 d2, .slice B3 m3 d3, .slice B4 m4 d4, .slice B5 m5 d5, .int .i64 0, .int .i64 0, .int .i64 0, .int .i64 0, .string ⟨#[]⟩, .int .i64 0, .int .i64 0, .int .i64 0, .bool false] 31 (0, 0)) := heap_setCell_same _ _ 5 _ _ _ p4
  have p6 : (((((((Y5.setCell ⟨w.heap.size + 1, 0, none⟩ (.string ⟨nm.toArray⟩)).setCell ⟨w.heap.size + 1, 1, none⟩ (.slice B1 m1 d1)).setCell ⟨w.heap.size + 1, 2, none⟩ (.slice B2 m2 d2)).setCell ⟨w.heap.size + 1, 3, none⟩ (.slice B3 m3 d3)).setCell ⟨w.heap.size + 1, 4, none⟩ (.slice B4 m4 d4)).setCell ⟨w.heap.size + 1, 5, none⟩ (.slice B5 m5 d5)).setCell ⟨w.heap.size + 1, 6, none⟩ (.int .i64 op)).heap[w.heap.size + 1]? = some (.cells #[.string ⟨nm.toArray⟩, .slice B1 m1 d1, .slice B2 m2 d2, .slice B3 m3 d3, .slice B4 m4 d4, .slice B5 m5 d5, .int .i64 op, .int .i64 0, .int .i64 0, .int .i64 0, .string ⟨#[]⟩, .int .i64 0, .int .i64 0, .int .i64 0, .bool false] 31 (0, 0)) := heap_setCell_same _ _ 6 _ _ _ p5
  have p7 : ((((((((Y5.setCell ⟨w.heap.size + 1, 0, none⟩ (.string ⟨nm.toArray⟩)).setCell ⟨w.heap.size + 1, 1, none⟩ (.slice B1 m1 d1)).setCell ⟨w.heap.size + 1, 2, none⟩ (.slice B2 m2 d2)).setCell ⟨w.heap.size + 1, 3, none⟩ (.slice B3 m3 d3)).setCell ⟨w.heap.size + 1, 4, none⟩ (.slice B4 m4 d4)).setCell ⟨w.heap.size + 1, 5, none⟩ (.slice B5 m5 d5)).setCell ⟨w.heap.size + 1, 6, none⟩ (.int .i64 op)).setCell ⟨w.heap.size + 1, 7, none⟩ (.int .i64 st)).heap[w.heap.size + 1]? = some (.cells #[.string ⟨nm.toArray⟩, .slice B1 m1 d1, .slice B2 m2 d2, .slice B3 m3 d3, .slice B4 m4 d4, .slice B5 m5 d5, .int .i64 op, .int .i64 st, .int .i64 0, .int .i64 0, .string ⟨#[]⟩, .int .i64 0, .int .i64 0, .int .i64 0, .bool false] 31 (0, 0)) := heap_setCell_same _ _ 7 _ _ _ p6
  have p8 : (((((((((Y5.setCell ⟨w.heap.size + 1, 0, none⟩ (.string ⟨nm.toArray⟩)).setCell ⟨w.heap.size + 1, 1, none⟩ (.slice B1 m1 d1)).setCell ⟨w.heap.size + 1, 2, none⟩ (.slice B2 m2 d2)).setCell ⟨w.heap.size + 1, 3, none⟩ (.slice B3 m3 d3)).setCell ⟨w.heap.size + 1, 4, none⟩ (.slice B4 m4 d4)).setCell ⟨w.heap.size + 1, 5, none⟩ (.slice B5 m5 d5)).setCell ⟨w.heap.size + 1, 6, none⟩ (.int .i64 op)).setCell ⟨w.heap.size + 1, 7, none⟩ (.int .i64 st)).setCell ⟨w.heap.size + 1, 8, none⟩ (.int .i64 pid)).heap[w.heap.size + 1]? = some (.cells #[.string ⟨nm.toArray⟩, .slice B1 m1 d1, .slice B2 m2 d2, .slice B3 m3 d3, .slice B4 m4 d4, .slice B5 m5 d5, .int .i64 op, .int .i64 st, .int .i64 pid, .int .i64 0, .string ⟨#[]⟩, .int .i64 0, .int .i64 0, .int .i64 0, .bool false] 31 (0, 0)) := heap_setCell_same _ _ 8 _ _ _ p7
  have p9 : ((((((((((Y5.setCell ⟨w.heap.size + 1, 0, none⟩ (.string ⟨nm.toArray⟩)).setCell ⟨w.heap.size + 1, 1, none⟩ (.slice B1 m1 d1)).setCell ⟨w.heap.size + 1, 2, none⟩ (.slice B2 m2 d2)).setCell ⟨w.heap.size + 1, 3, none⟩ (.slice B3 m3 d3)).setCell ⟨w.heap.size + 1, 4, none⟩ (.slice B4 m4 d4)).setCell ⟨w.heap.size + 1, 5, none⟩ (.slice B5 m5 d5)).setCell ⟨w.heap.size + 1, 6, none⟩ (.int .i64 op)).setCell ⟨w.heap.size + 1, 7, none⟩ (.int .i64 st)).setCell ⟨w.heap.size + 1, 8, none⟩ (.int .i64 pid)).setCell ⟨w.heap.size + 1, 9, none⟩ (.int .i64 la)).heap[w.heap.size + 1]? = some (.cells #[.string ⟨nm.toArray⟩, .slice B1 m1 d1, .slice B2 m2 d2, .slice B3 m3 d3, .slice B4 m4 d4, .slice B5 m5 d5, .int .i64 op, .int .i64 st, .int .i64 pid, .int .i64 la, .string ⟨#[]⟩, .int .i64 0, .int .i64 0, .int .i64 0, .bool false] 31 (0, 0)) := heap_setCell_same _ _ 9 _ _ _ p8
  have p10 : (((((((((((Y5.setCell ⟨w.heap.size + 1, 0, none⟩ (.string ⟨nm.toArray⟩)).setCell ⟨w.heap.size + 1, 1, none⟩ (.slice B1 m1 d1)).setCell ⟨w.heap.size + 1, 2, none⟩ (.slice B2 m2 d2)).setCell ⟨w.heap.size + 1, 3, none⟩ (.slice B3 m3 d3)).setCell ⟨w.heap.size + 1, 4, none⟩ (.slice B4 m4 d4)).setCell ⟨w.heap.size + 1, 5, none⟩ (.slice B5 m5 d5)).setCell ⟨w.heap.size + 1, 6, none⟩ (.int .i64 op)).setCell ⟨w.heap.size + 1, 7, none⟩ (.int .i64 st)).setCell ⟨w.heap.size + 1, 8, none⟩ (.int .i64 pid)).setCell ⟨w.heap.size + 1, 9, none⟩ (.int .i64 la)).setCell ⟨w.heap.size + 1, 10, none⟩ (.string ⟨cwd.toArray⟩)).heap[w.heap.size + 1]? = some (.cells #[.string ⟨nm.toArray⟩, .slice B1 m1 d1, .slice B2 m2 d2, .slice B3 m3 d3, .slice B4 m4 d4, .slice B5 m5 d5, .int .i64 op, .int .i64 st, .int .i64 pid, .int .i64 la, .string ⟨cwd.toArray⟩, .int .i64 0, .int .i64 0, .int .i64 0, .bool false] 31 (0, 0)) := heap_setCell_same _ _ 10 _ _ _ p9
  have p11 : ((((((((((((Y5.setCell ⟨w.heap.size + 1, 0, none⟩ (.string ⟨nm.toArray⟩)).setCell ⟨w.heap.size + 1, 1, none⟩ (.slice B1 m1 d1)).setCell ⟨w.heap.size + 1, 2, none⟩ (.slice B2 m2 d2)).setCell ⟨w.heap.size + 1, 3, none⟩ (.slice B3 m3 d3)).setCell ⟨w.heap.size + 1, 4, none⟩ (.slice B4 m4 d4)).setCell ⟨w.heap.size + 1, 5, none⟩ (.slice B5 m5 d5)).setCell ⟨w.heap.size + 1, 6, none⟩ (.int .i64 op)).setCell ⟨w.heap.size + 1, 7, none⟩ (.int .i64 st)).setCell ⟨w.heap.size + 1, 8, none⟩ (.int .i64 pid)).setCell ⟨w.heap.size + 1, 9, none⟩ (.int .i64 la)).setCell ⟨w.heap.size + 1, 10, none⟩ (.string ⟨cwd.toArray⟩)).setCell ⟨w.heap.size + 1, 11, none⟩ (.int .i64 gi)).heap[w.heap.size + 1]? = some (.cells #[.string ⟨nm.toArray⟩, .slice B1 m1 d1, .slice B2 m2 d2, .slice B3 m3 d3, .slice B4 m4 d4, .slice B5 m5 d5, .int .i64 op, .int .i64 st, .int .i64 pid, .int .i64 la, .string ⟨cwd.toArray⟩, .int .i64 gi, .int .i64 0, .int .i64 0, .bool false] 31 (0, 0)) := heap_setCell_same _ _ 11 _ _ _ p10
  have p12 : (((((((((((((Y5.setCell ⟨w.heap.size + 1, 0, none⟩ (.string ⟨nm.toArray⟩)).setCell ⟨w.heap.size + 1, 1, none⟩ (.slice B1 m1 d1)).setCell ⟨w.heap.size + 1, 2, none⟩ (.slice B2 m2 d2)).setCell ⟨w.heap.size + 1, 3, none⟩ (.slice B3 m3 d3)).setCell ⟨w.heap.size + 1, 4, none⟩ (.slice B4 m4 d4)).setCell ⟨w.heap.size + 1, 5, none⟩ (.slice B5 m5 d5)).setCell ⟨w.heap.size + 1, 6, none⟩ (.int .i64 op)).setCell ⟨w.heap.size + 1, 7, none⟩ (.int .i64 st)).setCell ⟨w.heap.size + 1, 8, none⟩ (.int .i64 pid)).setCell ⟨w.heap.size + 1, 9, none⟩ (.int .i64 la)).setCell ⟨w.heap.size + 1, 10, none⟩ (.string ⟨cwd.toArray⟩)).setCell ⟨w.heap.size + 1, 11, none⟩ (.int .i64 gi)).setCell ⟨w.heap.size + 1, 12, none⟩ (.int .i64 gf)).heap[w.heap.size + 1]? = some (.cells #[.string ⟨nm.toArray⟩, .slice B1 m1 d1, .slice B2 m2 d2, .slice B3 m3 d3, .slice B4 m4 d4, .slice B5 m5 d5, .int .i64 op, .int .i64 st, .int .i64 pid, .int .i64 la, .string ⟨cwd.toArray⟩, .int .i64 gi, .int .i64 gf, .int .i64 0, .bool false] 31 (0, 0)) := heap_setCell_same _ _ 12 _ _ _ p11
  have p13 : ((((((((((((((Y5.setCell ⟨w.heap.size + 1, 0, none⟩ (.string ⟨nm.toArray⟩)).setCell ⟨w.heap.size + 1, 1, none⟩ (.slice B1 m1 d1)).setCell ⟨w.heap.size + 1, 2, none⟩ (.slice B2 m2 d2)).setCell ⟨w.heap.size + 1, 3, none⟩ (.slice B3 m3 d3)).setCell ⟨w.heap.size + 1, 4, none⟩ (.slice B4 m4 d4)).setCell ⟨w.heap.size + 1, 5, none⟩ (.slice B5 m5 d5)).setCell ⟨w.heap.size + 1, 6, none⟩ (.int .i64 op)).setCell ⟨w.heap.size + 1, 7, none⟩ (.int .i64 st)).setCell ⟨w.heap.size + 1, 8, none⟩ (.int .i64 pid)).setCell ⟨w.heap.size + 1, 9, none⟩ (.int .i64 la)).setCell ⟨w.heap.size + 1, 10, none⟩ (.string ⟨cwd.toArray⟩)).setCell ⟨w.heap.size + 1, 11, none⟩ (.int .i64 gi)).setCell ⟨w.heap.size + 1, 12, none⟩ (.int .i64 gf)).setCell ⟨w.heap.size + 1, 13, none⟩ (.int .i64 lev)).heap[w.heap.size + 1]? = some (.cells #[.string ⟨nm.toArray⟩, .slice B1 m1 d1, .slice B2 m2 d2, .slice B3 m3 d3, .slice B4 m4 d4, .slice B5 m5 d5, .int .i64 op, .int .i64 st, .int .i64 pid, .int .i64 la, .string ⟨cwd.toArray⟩, .int .i64 gi, .int .i64 gf, .int .i64 lev, .bool false] 31 (0, 0)) := heap_setCell_same _ _ 13 _ _ _ p12
  have p14 : (((((((((((((((Y5.setCell ⟨w.heap.size + 1, 0, none⟩ (.string ⟨nm.toArray⟩)).setCell ⟨w.heap.size + 1, 1, none⟩ (.slice B1 m1 d1)).setCell ⟨w.heap.size + 1, 2, none⟩ (.slice B2 m2 d2)).setCell ⟨w.heap.size + 1, 3, none⟩ (.slice B3 m3 d3)).setCell ⟨w.heap.size + 1, 4, none⟩ (.slice B4 m4 d4)).setCell ⟨w.heap.size + 1, 5, none⟩ (.slice B5 m5 d5)).setCell ⟨w.heap.size + 1, 6, none⟩ (.int .i64 op)).setCell ⟨w.heap.size + 1, 7, none⟩ (.int .i64 st)).setCell ⟨w.heap.size + 1, 8, none⟩ (.int .i64 pid)).setCell ⟨w.heap.size + 1, 9, none⟩ (.int .i64 la)).setCell ⟨w.heap.size + 1, 10, none⟩ (.string ⟨cwd.toArray⟩)).setCell ⟨w.heap.size + 1, 11, none⟩ (.int .i64 gi)).setCell ⟨w.heap.size + 1, 12, none⟩ (.int .i64 gf)).setCell ⟨w.heap.size + 1, 13, none⟩ (.int .i64 lev)).setCell ⟨w.heap.size + 1, 14, none⟩ (.bool tk)).heap[w.heap.size + 1]? = some (.cells #[.string ⟨nm.toArray⟩, .slice B1 m1 d1, .slice B2 m2 d2, .slice B3 m3 d3, .slice B4 m4 d4, .slice B5 m5 d5, .int .i64 op, .int .i64 st, .int .i64 pid, .int .i64 la, .string ⟨cwd.toArray⟩, .int .i64 gi, .int .i64 gf, .int .i64 lev, .bool tk] 31 (0, 0)) := heap_setCell_same _ _ 14 _ _ _ p13
  obtain ⟨Z, hZ⟩ : ∃ Z, Z = (((((((((((((((Y5.setCell ⟨w.heap.size + 1, 0, none⟩ (.string ⟨nm.toArray⟩)).setCell ⟨w.heap.size + 1, 1, none⟩ (.slice B1 m1 d1)).setCell ⟨w.heap.size + 1, 2, none⟩ (.slice B2 m2 d2)).setCell ⟨w.heap.size + 1, 3, none⟩ (.slice B3 m3 d3)).setCell ⟨w.heap.size + 1, 4, none⟩ (.slice B4 m4 d4)).setCell ⟨w.heap.size + 1, 5, none⟩ (.slice B5 m5 d5)).setCell ⟨w.heap.size + 1, 6, none⟩ (.int .i64 op)).setCell ⟨w.heap.size + 1, 7, none⟩ (.int .i64 st)).setCell ⟨w.heap.size + 1, 8, none⟩ (.int .i64 pid)).setCell ⟨w.heap.size + 1, 9, none⟩ (.int .i64 la)).setCell ⟨w.heap.size + 1, 10, none⟩ (.string ⟨cwd.toArray⟩)).setCell ⟨w.heap.size + 1, 11, none⟩ (.int .i64 gi)).setCell ⟨w.heap.size + 1, 12, none⟩ (.int .i64 gf)).setCell ⟨w.heap.size + 1, 13, none⟩ (.int .i64 lev)).setCell ⟨w.heap.size + 1, 14, none⟩ (.bool tk)) := ⟨_, rfl⟩
  have HP := Lib.hid (show Z.heap[w.heap.size + 1]? = some (.cells #[.string ⟨nm.toArray⟩, .slice B1 m1 d1, .slice B2 m2 d2, .slice B3 m3 d3, .slice B4 m4 d4, .slice B5 m5 d5, .int .i64 op, .int .i64 st, .int .i64 pid, .int .i64 la, .string ⟨cwd.toArray⟩, .int .i64 gi, .int .i64 gf, .int .i64 lev, .bool tk] 31 (0, 0)) by rw [hZ]; exact p14)
  have HBZ := Lib.hid (show Below w.heap.size w Z by rw [hZ]; exact ((((((((((((((Q5.out.setCell (p := ⟨w.heap.size + 1, 0, none⟩) (Nat.le_succ _) _).setCell (p := ⟨w.heap.size + 1, 1, none⟩) (Nat.le_succ _) _).setCell (p := ⟨w.heap.size + 1, 2, none⟩) (Nat.le_succ _) _).setCell (p := ⟨w.heap.size + 1, 3, none⟩) (Nat.le_succ _) _).setCell (p := ⟨w.heap.size + 1, 4, none⟩) (Nat.le_succ _) _).setCell (p := ⟨w.heap.size + 1, 5, none⟩) (Nat.le_succ _) _).setCell (p := ⟨w.heap.size + 1, 6, none⟩) (Nat.le_succ _) _).setCell (p := ⟨w.heap.size + 1, 7, none⟩) (Nat.le_succ _) _).setCell (p := ⟨w.heap.size + 1, 8, none⟩) (Nat.le_succ _) _).setCell (p := ⟨w.heap.size + 1, 9, none⟩) (Nat.le_succ _) _).setCell (p := ⟨w.heap.size + 1, 10, none⟩) (Nat.le_succ _) _).setCell (p := ⟨w.heap.size + 1, 11, none⟩) (Nat.le_succ _) _).setCell (p := ⟨w.heap.size + 1, 12, none⟩) (Nat.le_succ _) _).setCell (p := ⟨w.heap.size + 1, 13, none⟩) (Nat.le_succ _) _).setCell (p := ⟨w.heap.size + 1, 14, none⟩) (Nat.le_succ _) _)
  have hzf : ∀ k, w.heap.size + 2 ≤ k → Z.heap[k]? = Y5.heap[k]? := fun k hk => by
    rw [hZ]
    exact (Below.heap_setCell _ _ _ _ (by dsimp only; omega)).trans ((Below.heap_setCell _ _ _ _ (by dsimp only; omega)).trans ((Below.heap_setCell _ _ _ _ (by dsimp only; omega)).trans ((Below.heap_setCell _ _ _ _ (by dsimp only; omega)).trans ((Below.heap_setCell _ _ _ _ (by dsimp only; omega)).trans ((Below.heap_setCell _ _ _ _ (by dsimp only; omega)).trans ((Below.heap_setCell _ _ _ _ (by dsimp only; omega)).trans ((Below.heap_setCell _ _ _ _ (by dsimp only; omega)).trans ((Below.heap_setCell _ _ _ _ (by dsimp only; omega)).trans ((Below.heap_setCell _ _ _ _ (by dsimp only; omega)).trans ((Below.heap_setCell _ _ _ _ (by dsimp only; omega)).trans ((Below.heap_setCell _ _ _ _ (by dsimp only; omega)).trans ((Below.heap_setCell _ _ _ _ (by dsimp only; omega)).trans ((Below.heap_setCell _ _ _ _ (by dsimp only; omega)).trans (Below.heap_setCell _ _ _ _ (by dsimp only; omega)))))))))))))))
  have hzs : Z.heap.size = Y5.heap.size := by rw [hZ]; simp
  have hvs := S5.out
  have hbs := BB5.out.size
  have HRR := Lib.hid (show R1 Z (.slice B1 m1 d1) ∧ R2 Z (.slice B2 m2 d2) ∧ R3 Z (.slice B3 m3 d3) ∧ R4 Z (.slice B4 m4 d4) ∧ R5 Z (.slice B5 m5 d5) from by
    have far : ∀ k, w.heap.size + 2 ≤ k → k < Y4.heap.size → Z.heap[k]? = Y4.heap[k]? := fun k hk h2 => (hzf k hk).trans ((F5.out k hk).trans (BB5.out.block k h2))
    exact ⟨L1.out _ _ _ (by omega) far RR1.out, L2.out _ _ _ (by omega) far RR2.out, L3.out _ _ _ (by omega) (fun k hk _ => (hzf k hk).trans (F5.out k hk)) R3'.out, L4.out _ _ _ (by omega) far RR4.out, L5.out _ _ _ (by omega) far RR5.out⟩)
  have HZ := Lib.hid hZ
  clear hZ hzf hzs hvs hbs p0 p1 p2 p3 p4 p5 p6 p7 p8 p9 p10 p11 p12 p13 p14
  go_wp2
  rw [← HZ.out]
  have hld : (loadVar 31 ⟨w.heap.size + 1, 0, none⟩).run Tryz.prog Z = .ok (.agg #[.string ⟨nm.toArray⟩, .slice B1 m1 d1, .slice B2 m2 d2, .slice B3 m3 d3, .slice B4 m4 d4, .slice B5 m5 d5, .int .i64 op, .int .i64 st, .int .i64 pid, .int .i64 la, .string ⟨cwd.toArray⟩, .int .i64 gi, .int .i64 gf, .int .i64 lev, .bool tk]) Z := run_loadVar_row Z (w.heap.size + 1) _ 31 _ (0, 0) _ HP.out Tryz.underlying31 rfl (by kernel_rfl)
  exact bodyPost_ret (results_cell1 Tryz.results12 _ _ _ _ _ rfl hld) rfl ⟨B1, B2, B3, B4, B5, m1, m2, m3, m4, m5, d1, d2, d3, d4, d5, rfl, HRR.out, HBZ.out⟩
end W
end Go.Proofs.YtcbebkeakkahgaaGreatDoor
