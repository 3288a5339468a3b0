/- Chapter 9: pass, where no delimiter of a here-document is awaited and no newline passed. -/
import Derived.Test.YtelhobphphkidaaGreatDoorW09s
namespace Go.Proofs.YtelhobphphkidaaGreatDoor
open Go.RowKit K
namespace W
section
variable {W : World} {g : Nat} {s : List UInt8} {at_ : Int} {va vm vb vl : Value} {c h st : Bool}
theorem EB.set1 (e : EB W g s at_ va vm vb c h st vl) (a : Int) : EB (W.setCell ⟨g, 1, none⟩ (.int .i64 a)) g s a va vm vb c h st vl := by
  have := heap_setCell_same W g 1 _ _ (.int .i64 a) e
  unfold EB; rw [this]; simp
theorem EB.set6 (e : EB W g s at_ va vm vb c h st vl) (b : Bool) : EB (W.setCell ⟨g, 6, none⟩ (.bool b)) g s at_ va vm vb c b st vl := by
  have := heap_setCell_same W g 6 _ _ (.bool b) e
  unfold EB; rw [this]; simp
theorem EB.set7 (e : EB W g s at_ va vm vb c h st vl) (b : Bool) : EB (W.setCell ⟨g, 7, none⟩ (.bool b)) g s at_ va vm vb c h b vl := by
  have := heap_setCell_same W g 7 _ _ (.bool b) e
  unfold EB; rw [this]; simp
theorem EB.set0 (e : EB W g s at_ va vm vb c h st vl) (t : List UInt8) : EB (W.setCell ⟨g, 0, none⟩ (.string ⟨t.toArray⟩)) g t at_ va vm vb c h st vl := by
  have := heap_setCell_same W g 0 _ _ (.string ⟨t.toArray⟩) e
  unfold EB; rw [this]; simp
end
/-- Of what was there, the examiner's box alone is turned. -/
def OneBox (g : Nat) (w w' : World) : Prop := w.heap.size ≤ w'.heap.size ∧ (∀ q, q < w.heap.size → q ≠ g → w'.heap[q]? = w.heap[q]?) ∧ Below g w w'
theorem OneBox.refl (g : Nat) (w : World) : OneBox g w w := ⟨Nat.le_refl _, fun _ _ _ => rfl, Below.refl _ _⟩
theorem OneBox.alloc {g : Nat} {a w : World} (h : OneBox g a w) (hg : g < a.heap.size) (o : Obj) : OneBox g a (w.alloc o) :=
  ⟨by have := h.1; simp; omega, fun q h1 h2 => (Below.heap_alloc _ _ _ (Nat.lt_of_lt_of_le h1 h.1)).trans (h.2.1 q h1 h2), h.2.2.alloc (by have := h.1; omega) o⟩
theorem OneBox.set {g : Nat} {a w : World} (h : OneBox g a w) (o : Nat) (v : Value) : OneBox g a (w.setCell ⟨g, o, none⟩ v) :=
  ⟨by have := h.1; simpa using this, fun q h1 h2 => (Below.heap_setCell _ _ _ _ (by dsimp only; exact h2)).trans (h.2.1 q h1 h2), h.2.2.setCell (p := ⟨g, o, none⟩) (Nat.le_refl _) v⟩
set_option maxRecDepth 100000 in
set_option maxHeartbeats 1000000 in
theorem pass_word (kd ps st : Nat) (tx : List UInt8) (g : Nat) (s : List UInt8) (at_ : Int) (va vm vb vl : Value) (c str : Bool) (w : World) (he : EB w g s at_ va vm vb c false str vl) (h2 : kd ≠ 2) (h3 : kd ≠ 3) :
    Calls Tryz.prog 36 #[.pointer (some ⟨g, 0, none⟩), .agg #[.int .i64 kd, .int .i64 ps, .int .i64 st, .string ⟨tx.toArray⟩]] w fun e w' => e = .returned (.tuple #[]) ∧ EB w' g s st va vm vb (c && kd == 1 && AX.introB tx) false str vl ∧ OneBox g w w' := by
  have hgs := he.lt
  obtain ⟨V, hV⟩ : ∃ V, V = w.setCell ⟨g, 1, none⟩ (.int .i64 st) := ⟨_, rfl⟩
  have e1 : EB V g s st va vm vb c false str vl := by rw [hV]; exact he.set1 _
  have hVs : V.heap.size = w.heap.size := by rw [hV]; simp
  have hV1 : OneBox g w V := by rw [hV]; exact (OneBox.refl g w).set 1 _
  obtain ⟨X, hX⟩ : ∃ X, X = V.alloc (.cells #[.int .i64 kd, .int .i64 ps, .int .i64 st, .string ⟨tx.toArray⟩] 62) := ⟨_, rfl⟩
  have e2 : EB X g s st va vm vb c false str vl := by rw [hX]; exact e1.new (balloc V _)
  have hX1 : OneBox g w X := by rw [hX]; exact hV1.alloc hgs _
  have hnX : X.heap[w.heap.size]? = some (.cells #[.int .i64 kd, .int .i64 ps, .int .i64 st, .string ⟨tx.toArray⟩] 62 (0, 0)) := by rw [hX, ← hVs]; exact al_new V _
  obtain ⟨-, w1, -⟩ := he.cells
  have wf := he.thaw 1
  obtain ⟨-, -, -, -, -, x5, x6, -⟩ := e2.cells
  have f5 := e2.thaw 5
  have t0 : X.cell? ⟨w.heap.size, 0, none⟩ = some (.int .i64 kd) := Lib.cell_of_heap hnX 0
  have t3 : X.cell? ⟨w.heap.size, 3, none⟩ = some (.string ⟨tx.toArray⟩) := Lib.cell_of_heap hnX 3
  have HX := Lib.hid (show X = (w.setCell ⟨g, 1, none⟩ (.int .i64 st)).alloc (.cells #[.int .i64 kd, .int .i64 ps, .int .i64 st, .string ⟨tx.toArray⟩] 62) by rw [hX, hV])
  have HI := Lib.hid (introduces_any tx X)
  have HF := Lib.hid (fun b => show EB (X.setCell ⟨g, 5, none⟩ (.bool b)) g s st va vm vb b false str vl ∧ OneBox g w (X.setCell ⟨g, 5, none⟩ (.bool b)) from ⟨e2.set5 b, hX1.set _ _⟩)
  have k2 : ((kd : Int) == 2) = false := by rw [beq_eq_false_iff_ne]; omega
  have k3 : ((kd : Int) == 3) = false := by rw [beq_eq_false_iff_ne]; omega
  obtain ⟨k1, hk1⟩ : ∃ k1, (kd == 1) = k1 := ⟨_, rfl⟩
  have k4 : ((kd : Int) == 1) = k1 := by rw [← hk1]; cases h : (kd == 1) <;> simp_all <;> omega
  rw [hk1]
  clear he e1 hV1 hX hV e2 hX1 hnX h2 h3 hk1 hVs
  cases c
  case false =>
    go_enter Tryz.func36, Tryz.ntmps36
    go_upto_region 2 with (fail)
    rw [← HX.out]
    go_wp2
    first | go_end0 | refine bodyPost_ret (results_none rfl _ _ _) rfl ?_
    exact ⟨rfl, HF.out _⟩
  case true =>
    cases k1
    case false =>
      go_enter Tryz.func36, Tryz.ntmps36
      go_upto_region 2 with (fail)
      rw [← HX.out]
      go_wp2
      first | go_end0 | refine bodyPost_ret (results_none rfl _ _ _) rfl ?_
      exact ⟨rfl, HF.out _⟩
    case true =>
      go_enter Tryz.func36, Tryz.ntmps36
      go_upto_region 2 with (fail)
      rw [← HX.out]
      go_wp2_with fail
      refine HI.out.mono ?_
      rintro e X1 ⟨rfl, rfl⟩
      go_wp2
      first | go_end0 | refine bodyPost_ret (results_none rfl _ _ _) rfl ?_
      exact ⟨rfl, HF.out _⟩
end W
end Go.Proofs.YtelhobphphkidaaGreatDoor
