/- Chapter 9: pass at a newline, where no here-document waits. -/
import Derived.Test.YtelhobphphkidaaGreatDoorW09t
namespace Go.Proofs.YtelhobphphkidaaGreatDoor
open Go.RowKit K
namespace W
theorem EB.set8 {W : World} {g : Nat} {s : List UInt8} {at_ : Int} {va vm vb vl : Value} {c h st : Bool} (e : EB W g s at_ va vm vb c h st vl) (v : Value) : EB (W.setCell ⟨g, 8, none⟩ v) g s at_ va vm vb c h st v := by
  have := heap_setCell_same W g 8 _ _ v e
  unfold EB; rw [this]; simp
set_option maxRecDepth 100000 in
set_option maxHeartbeats 1000000 in
theorem skip_none (g : Nat) (s : List UInt8) (at_ : Int) (va vm vb : Value) (c h str : Bool) (w : World) (he : EB w g s at_ va vm vb c h str (.slice none 0 0)) :
    Calls Tryz.prog 57 #[.pointer (some ⟨g, 0, none⟩)] w fun e w' => e = .returned (.tuple #[]) ∧ EB w' g s at_ va vm vb c h str (.slice none 0 0) ∧ OneBox g w w' := by
  obtain ⟨-, -, -, -, -, -, -, -, x8⟩ := he.cells
  have f8 := he.thaw 8
  have hgs := he.lt
  have HF := Lib.hid (show EB (w.setCell ⟨g, 8, none⟩ (.slice none 0 0)) g s at_ va vm vb c h str (.slice none 0 0) ∧ OneBox g w (w.setCell ⟨g, 8, none⟩ (.slice none 0 0)) from ⟨he.set8 _, (OneBox.refl g w).set _ _⟩)
  clear he
  go_enter Tryz.func57, Tryz.ntmps57
  go_wp2
  go_loopw [13] (fun i wr => i = .int .i64 0 ∧ wr = w) (fun _ _ => 0)
  case atStart => exact ⟨rfl, rfl⟩
  case round =>
    obtain ⟨rfl, rfl⟩ := hrel
    go_wp2
    first | go_end0 | refine bodyPost_ret (results_none rfl _ _ _) rfl ?_
    exact ⟨rfl, HF.out⟩
set_option maxRecDepth 100000 in
set_option maxHeartbeats 1000000 in
theorem pass_line (ps st : Nat) (tx : List UInt8) (g : Nat) (s : List UInt8) (at_ : Int) (va vm vb : Value) (c str : Bool) (w : World) (he : EB w g s at_ va vm vb c false str (.slice none 0 0)) :
    Calls Tryz.prog 36 #[.pointer (some ⟨g, 0, none⟩), .agg #[.int .i64 3, .int .i64 ps, .int .i64 st, .string ⟨tx.toArray⟩]] w fun e w' => e = .returned (.tuple #[]) ∧ EB w' g s st va vm vb true false str (.slice none 0 0) ∧ OneBox g w w' := by
  have hgs := he.lt
  obtain ⟨V, hV⟩ : ∃ V, V = w.setCell ⟨g, 1, none⟩ (.int .i64 st) := ⟨_, rfl⟩
  have e1 : EB V g s st va vm vb c false str (.slice none 0 0) := by rw [hV]; exact he.set1 _
  have hVs : V.heap.size = w.heap.size := by rw [hV]; simp
  have hV1 : OneBox g w V := by rw [hV]; exact (OneBox.refl g w).set 1 _
  obtain ⟨X, hX⟩ : ∃ X, X = V.alloc (.cells #[.int .i64 3, .int .i64 ps, .int .i64 st, .string ⟨tx.toArray⟩] 62) := ⟨_, rfl⟩
  have e2 : EB X g s st va vm vb c false str (.slice none 0 0) := by rw [hX]; exact e1.new (balloc V _)
  have hX1 : OneBox g w X := by rw [hX]; exact hV1.alloc hgs _
  have hnX : X.heap[w.heap.size]? = some (.cells #[.int .i64 3, .int .i64 ps, .int .i64 st, .string ⟨tx.toArray⟩] 62 (0, 0)) := by rw [hX, ← hVs]; exact al_new V _
  obtain ⟨-, w1, -⟩ := he.cells
  have wf := he.thaw 1
  obtain ⟨-, -, -, -, -, x5, x6, -⟩ := e2.cells
  have f5 := e2.thaw 5
  have t0 : X.cell? ⟨w.heap.size, 0, none⟩ = some (.int .i64 3) := Lib.cell_of_heap hnX 0
  have HX := Lib.hid (show X = (w.setCell ⟨g, 1, none⟩ (.int .i64 st)).alloc (.cells #[.int .i64 3, .int .i64 ps, .int .i64 st, .string ⟨tx.toArray⟩] 62) by rw [hX, hV])
  have HS := Lib.hid (skip_none g s st va vm vb c false str X e2)
  have hgx : g < X.heap.size := e2.lt
  have HX1 := Lib.hid hX1
  clear he e1 hV1 hX hV e2 hX1 hnX hVs
  go_enter Tryz.func36, Tryz.ntmps36
  go_upto_region 2 with (fail)
  rw [← HX.out]
  go_wp2_with fail
  refine HS.out.mono ?_
  rintro e X2 ⟨rfl, hb, ho⟩
  obtain ⟨-, -, -, -, -, y5, -⟩ := hb.cells
  have k5 := hb.thaw 5
  have HF := Lib.hid (show EB (X2.setCell ⟨g, 5, none⟩ (.bool true)) g s st va vm vb true false str (.slice none 0 0) ∧ OneBox g w (X2.setCell ⟨g, 5, none⟩ (.bool true)) from ⟨hb.set5 true, OneBox.set ⟨Nat.le_trans HX1.out.1 ho.1, fun q h1 h2 => (ho.2.1 q (Nat.lt_of_lt_of_le h1 HX1.out.1) h2).trans (HX1.out.2.1 q h1 h2), HX1.out.2.2.trans ho.2.2⟩ _ _⟩)
  clear hb ho
  go_wp2
  first | go_end0 | refine bodyPost_ret (results_none rfl _ _ _) rfl ?_
  exact ⟨rfl, HF.out⟩
end W
end Go.Proofs.YtelhobphphkidaaGreatDoor
