/- Words: parse and Here at "$x\n"; the body of a here-document. -/
import Derived.Test.YtggjhkmokgliaaaDoorW10k
import Derived.Defers
import Derived.Recover
namespace Go.Proofs.YtggjhkmokgliaaaDoor
open Go.RowKit K
namespace W
theorem al_new' (w : World) (o : Obj) (k : Nat) (hk : k = w.heap.size) : (w.alloc o).heap[k]? = some o := by rw [hk]; exact al_new w o
set_option maxRecDepth 100000 in
/-- The deferred closure of a frame that returns. -/
theorem parse_idle (p q r : Addr) (w : World) :
    CallsD Tryd.prog 42 #[.pointer (some p), .pointer (some q), .pointer (some r)] .returning w fun e u' w' => e = .returned (.tuple #[]) ∧ u' = .returning ∧ w' = w := by
  refine callsD_of_wpS Tryd.func42 rfl fun c₀ cs hu => ?_
  apply wpS_seq
  apply wpS_region
  simp [wpOpsS, go_sem, recoverD, hu, Tryd.ntmps42, Exit.thenS]
  apply wpS_seq
  apply wpS_region
  simp [wpOpsS, go_sem, Exit.thenS]
  refine wpS_cond (t := false) (by simp [Act.eval, Array.replicate]) ?_
  simp only [Bool.false_eq_true, if_false]
  refine wpS_of_wp (wp_skip ?_)
  cases c₀
  simp_all [bodyPostS, results, Tryd.results42]
set_option maxRecDepth 100000 in
set_option maxHeartbeats 2000000 in
theorem wparse_here (w : World) :
    Calls Tryd.prog 34 #[.string ⟨#[36, 120, 10]⟩, .int .i64 3] w fun e w' => (∃ A c, e = .returned (.tuple #[.slice A 2 c, .int .i64 0, .int .i64 0])) ∧ Below w.heap.size w w' := by
  have hmf : ∀ (fn : Fn) (first cap : Array Value) (w : World), (Instr.makeFunc fn first cap).run Tryd.prog w = .ok (.func fn first cap) w := fun _ _ _ _ => rfl
  obtain ⟨x, hx⟩ : ∃ x, x = (((w.alloc (.cells #[.slice none 0 0] 34)).alloc (.cells #[.int .i64 0] 3)).alloc (.cells #[.int .i64 0] 26)).alloc (.cells #[.string ⟨#[36, 120, 10]⟩, .int .i64 0, .int .i64 3, .bool false, .int .i64 1, .int .i64 (-1), .int .i64 0, .slice none 0 0, .slice none 0 0] 82) := ⟨_, rfl⟩
  have hsc : Sc x (w.heap.size + 1 + 1 + 1) [36, 120, 10] 0 3 false 1 (-1) 0 [] 0 [] := by
    refine ⟨.slice none 0 0, .slice none 0 0, ?_, ⟨rfl, .inl ⟨rfl, rfl⟩⟩, ⟨rfl, .inl ⟨rfl, rfl⟩⟩⟩
    rw [hx]
    exact al_new' _ _ _ (by simp)
  have hb0 : x.heap[w.heap.size]? = some (.cells #[.slice none 0 0] 34 (0, 0)) := by
    rw [hx]
    exact ((((balloc _ _).block _ (by simp; omega)).trans ((balloc _ _).block _ (by simp; omega))).trans ((balloc _ _).block _ (by simp))).trans (al_new w _)
  have hb1 : x.heap[w.heap.size + 1]? = some (.cells #[.int .i64 0] 3 (0, 0)) := by
    rw [hx]
    exact (((balloc _ _).block _ (by simp)).trans ((balloc _ _).block _ (by simp))).trans (al_new' _ _ _ (by simp))
  have hb2 : x.heap[w.heap.size + 1 + 1]? = some (.cells #[.int .i64 0] 26 (0, 0)) := by
    rw [hx]
    exact ((balloc _ _).block _ (by simp)).trans (al_new' _ _ _ (by simp))
  have hBx : Below w.heap.size w x := by
    rw [hx]
    exact btr (btr (btr (balloc _ _) (balloc _ _)) (balloc _ _)) (balloc _ _)
  have hxs : w.heap.size + 1 + 1 + 1 < x.heap.size := by rw [hx]; simp
  have HX := Lib.hid hx
  have HP := Lib.hid (here_parse hsc)
  have HB0 := Lib.hid hb0
  have HB1 := Lib.hid hb1
  have HB2 := Lib.hid hb2
  have HXS := Lib.hid hxs
  clear hx hsc hb0 hb1 hb2 hxs
  go_enter_defers Tryd.func34, Tryd.ntmps34
  go_wp2_with fail
  rw [← HX.out]
  refine HP.out.mono ?_
  rintro e y ⟨rfl, ⟨lc, hsy⟩, hby⟩
  obtain ⟨ty, ly, hbox, -, hrow⟩ := hsy
  obtain ⟨A, cap, rfl⟩ := row_val hrow
  obtain ⟨-, -, -, -, -, -, -, -, c8⟩ := hbox.cells
  have y0 := (hby.block w.heap.size (by omega)).trans HB0.out
  have y1 := (hby.block (w.heap.size + 1) (by omega)).trans HB1.out
  have y2 := (hby.block (w.heap.size + 1 + 1) (by omega)).trans HB2.out
  have d0 : y.cell? ⟨w.heap.size, 0, none⟩ = some (.slice none 0 0) := Lib.cell_of_heap y0 0
  have d1 : y.cell? ⟨w.heap.size + 1, 0, none⟩ = some (.int .i64 0) := Lib.cell_of_heap y1 0
  have d2 : y.cell? ⟨w.heap.size + 1 + 1, 0, none⟩ = some (.int .i64 0) := Lib.cell_of_heap y2 0
  have t0 : y.frozen? ⟨w.heap.size, 0, none⟩ = false := Lib.frozen_of_heap y0 0
  have t1 : y.frozen? ⟨w.heap.size + 1, 0, none⟩ = false := Lib.frozen_of_heap y1 0
  have t2 : y.frozen? ⟨w.heap.size + 1 + 1, 0, none⟩ = false := Lib.frozen_of_heap y2 0
  have hBy : Below w.heap.size w y := hBx.trans (hby.mono (by omega))
  clear hby hbox hrow y0 y1 y2 hBx
  go_wp2
  refine leaves_cons (f := 42) (args := #[.pointer (some ⟨w.heap.size, 0, none⟩), .pointer (some ⟨w.heap.size + 1, 0, none⟩), .pointer (some ⟨w.heap.size + 1 + 1, 0, none⟩)]) (by simp) (by simp [go_sem]) ?_
  refine (parse_idle ⟨w.heap.size, 0, none⟩ ⟨w.heap.size + 1, 0, none⟩ ⟨w.heap.size + 1 + 1, 0, none⟩ _).mono ?_
  rintro e u' w'' ⟨rfl, rfl, rfl⟩
  have hfin : Below w.heap.size w (((y.setCell ⟨w.heap.size, 0, none⟩ (.slice A 2 cap)).setCell ⟨w.heap.size + 1, 0, none⟩ (.int .i64 0)).setCell ⟨w.heap.size + 1 + 1, 0, none⟩ (.int .i64 0)) := ((hBy.setCell (by dsimp only; omega) _).setCell (by dsimp only; omega) _).setCell (by dsimp only; omega) _
  simp [Leaves, settle, results, Tryd.results34, go_sem, d0, d1, d2]
  exact hfin
end W
end Go.Proofs.YtggjhkmokgliaaaDoor
