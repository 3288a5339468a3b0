/- Words: words.parse, both ways; Parse and Here. -/
import Derived.Test.YtkceenmlhfkkhaaGreatDoorW08n
import Derived.Defers
import Derived.Recover
namespace Go.Proofs.YtkceenmlhfkkhaaGreatDoor
open Go.RowKit K
namespace W
set_option maxRecDepth 100000 in
/-- The deferred closure of a frame that returns. -/
theorem parse_idle (p q r : Addr) (w : World) :
    CallsD Tryz.prog 33 #[.pointer (some p), .pointer (some q), .pointer (some r)] .returning w fun e u' w' => e = .returned (.tuple #[]) ∧ u' = .returning ∧ w' = w := by
  refine callsD_of_wpS Tryz.func33 rfl fun c₀ cs hu => ?_
  apply wpS_seq
  apply wpS_region
  simp [wpOpsS, go_sem, recoverD, hu, Tryz.ntmps33, Exit.thenS]
  apply wpS_seq
  apply wpS_region
  simp [wpOpsS, go_sem, Exit.thenS]
  refine wpS_cond (t := false) (by simp [Act.eval, Array.replicate]) ?_
  simp only [Bool.false_eq_true, if_false]
  refine wpS_of_wp (wp_skip ?_)
  cases c₀
  simp_all [bodyPostS, results, Tryz.results33]
theorem assert_fault (v : Value) (xT : TypeId) (w : World) : (Instr.typeAssert (.iface 77 v) xT 77 true).run Tryz.prog w = .ok (.tuple #[v, .bool true]) w := by
  simp [Instr.typeAssert, run_underlying Tryz.underlying77, go_sem, Result.andThen]
set_option maxRecDepth 100000 in
set_option maxHeartbeats 2000000 in
/-- The deferred closure of a frame that panics with a fault. -/
theorem parse_caught (p q r B : Nat) (fl : WP.Flt) (w : World) (hB : B ≤ p) (hpq : p < q) (hqr : q < r) (hr : r < w.heap.size) (d0 : w.cell? ⟨p, 0, none⟩ = some (.slice none 0 0)) (d1 : w.cell? ⟨q, 0, none⟩ = some (.int .i64 0)) (d2 : w.cell? ⟨r, 0, none⟩ = some (.int .i64 0))
    (t0 : w.frozen? ⟨p, 0, none⟩ = false) (t1 : w.frozen? ⟨q, 0, none⟩ = false) (t2 : w.frozen? ⟨r, 0, none⟩ = false) :
    CallsD Tryz.prog 33 #[.pointer (some ⟨p, 0, none⟩), .pointer (some ⟨q, 0, none⟩), .pointer (some ⟨r, 0, none⟩)] (.panicking (faultP fl)) w fun e u' w' => e = .returned (.tuple #[]) ∧ (∃ x, u' = .panicking [{ v := x, recovered := true }]) ∧ w'.cell? ⟨p, 0, none⟩ = some (.slice none 0 0) ∧ w'.cell? ⟨q, 0, none⟩ = some (.int .i64 fl.1) ∧ w'.cell? ⟨r, 0, none⟩ = some (.int .i64 fl.2) ∧ Below B w w' := by
  obtain ⟨fa, fe⟩ := fl
  have hpq' : ¬ p = q := by omega
  have hqr' : ¬ q = r := by omega
  have hpr' : ¬ p = r := by omega
  have hB1 : B ≤ q := by omega
  have hB2 : B ≤ r := by omega
  have hta := fun v xT w => assert_fault v xT w
  obtain ⟨V, hV⟩ : ∃ V, V = (((w.setCell ⟨p, 0, none⟩ (.slice none 0 0)).setCell ⟨q, 0, none⟩ (.int .i64 0)).setCell ⟨r, 0, none⟩ (.int .i64 1)).alloc (.cells #[.int .i64 fa, .int .i64 fe] 77) := ⟨_, rfl⟩
  have hbs : Below (w.heap.size) (((w.setCell ⟨p, 0, none⟩ (.slice none 0 0)).setCell ⟨q, 0, none⟩ (.int .i64 0)).setCell ⟨r, 0, none⟩ (.int .i64 1)) V := by
    rw [hV]
    exact (Below.refl _ _).alloc (by simp) _
  have hbw : Below B w V := by
    rw [hV]
    exact ((((Below.refl _ _).setCell hB _).setCell hB1 _).setCell hB2 _).alloc (by simp; omega) _
  have hnew : V.heap[w.heap.size]? = some (.cells #[.int .i64 fa, .int .i64 fe] 77 (0, 0)) := by
    rw [hV]
    exact al_new' _ _ _ (by simp)
  have k0 : V.cell? ⟨p, 0, none⟩ = some (.slice none 0 0) := by
    rw [hbs.cell (p := ⟨p, 0, none⟩) (by show p < _; omega), set_far _ hpr', set_far _ hpq']
    exact set_same_of d0
  have k1 : V.cell? ⟨q, 0, none⟩ = some (.int .i64 0) := by
    rw [hbs.cell (p := ⟨q, 0, none⟩) (by show q < _; omega), set_far _ hqr']
    exact set_same_of (by rw [set_far _ (fun e => hpq' e.symm)]; exact d1)
  have k2 : V.cell? ⟨r, 0, none⟩ = some (.int .i64 1) := by
    rw [hbs.cell (p := ⟨r, 0, none⟩) (by show r < _; omega)]
    exact set_same_of (by rw [set_far _ (fun e => hqr' e.symm), set_far _ (fun e => hpr' e.symm)]; exact d2)
  have z1 : V.frozen? ⟨q, 0, none⟩ = false := by
    rw [hbs.frozen (p := ⟨q, 0, none⟩) (by show q < _; omega)]
    simpa using t1
  have z2 : V.frozen? ⟨r, 0, none⟩ = false := by
    rw [hbs.frozen (p := ⟨r, 0, none⟩) (by show r < _; omega)]
    simpa using t2
  have e0 : V.cell? ⟨w.heap.size, 0, none⟩ = some (.int .i64 fa) := Lib.cell_of_heap hnew 0
  have e1 : V.cell? ⟨w.heap.size, 1, none⟩ = some (.int .i64 fe) := Lib.cell_of_heap hnew 1
  have hqw : ¬ w.heap.size = q := by omega
  have hrw : ¬ w.heap.size = r := by omega
  have HV := Lib.hid hV
  have HBW := Lib.hid hbw
  clear hV hbs hbw hnew
  refine callsD_of_wpS Tryz.func33 rfl fun c₀ cs hu => ?_
  apply wpS_seq
  apply wpS_region
  simp [wpOpsS, go_sem, recoverD, hu, Tryz.ntmps33, Exit.thenS, faultP]
  apply wpS_seq
  apply wpS_region
  simp [wpOpsS, go_sem, Exit.thenS]
  refine wpS_cond (t := true) (by simp [Act.eval, Array.replicate]) ?_
  simp only [if_true]
  refine wpS_of_wp ?_
  clear hu
  change Code.wp _ _ _ { tmps := #[.pointer (some ⟨p, 0, none⟩), .pointer (some ⟨q, 0, none⟩), .pointer (some ⟨r, 0, none⟩), .iface 77 (.agg #[.int .i64 fa, .int .i64 fe]), undef, undef, .iface 77 (.agg #[.int .i64 fa, .int .i64 fe]), .iface 77 (.agg #[.int .i64 fa, .int .i64 fe]), .bool true, undef, undef, undef, undef, undef, undef, undef, undef, undef, undef], defers := [] } w
  go_wp2_with fail
  rw [← HV.out]
  go_region
  all_goals
    show bodyPostS _ _ _ _ _ _ _ _ _
    refine ⟨rfl, _, rfl, .tuple #[], by simp [results, Tryz.results33], rfl, ⟨_, rfl⟩, ?_, ?_, ?_, ?_⟩
  · show ((V.setCell _ _).setCell _ _).cell? _ = _
    rw [set_far _ hpr', set_far _ hpq']
    exact k0
  · show ((V.setCell _ _).setCell _ _).cell? _ = _
    rw [set_far _ hqr']
    exact set_same_of k1
  · show ((V.setCell _ _).setCell _ _).cell? _ = _
    exact set_same_of (by rw [set_far _ (fun e => hqr' e.symm)]; exact k2)
  · exact ((HBW.out.setCell hB1 _).setCell hB2 _).drew
/-- What words.parse gives: a slice of parts in new memory, or the error and its offset. -/
def ParseOut (W : World) : Except WP.Flt (List WP.Part) → Ending → World → Prop
  | .ok ps, e, W' => ∃ A cap, e = .returned (.tuple #[.slice A ps.length cap, .int .i64 0, .int .i64 0]) ∧ Below W.heap.size W W' ∧
      (ps = [] ∨ ∃ b cells, A = some ⟨b, 0, none⟩ ∧ W.heap.size ≤ b ∧ LRep W' (fun b => W.heap.size ≤ b) ps cells ∧ ∀ j u, cells[j]? = some u → W'.cell? ⟨b, j, none⟩ = some u)
  | .error f, e, W' => e = .returned (.tuple #[.slice none 0 0, .int .i64 f.1, .int .i64 f.2]) ∧ Below W.heap.size W W'
theorem rep_setO {B : Nat} {W' : World} {ps : List WP.Part} {A : Option Addr} {q i : Nat} {u : Value} (hq : q < B)
    (hr : ps = [] ∨ ∃ b cells, A = some ⟨b, 0, none⟩ ∧ B ≤ b ∧ LRep W' (fun b => B ≤ b) ps cells ∧ ∀ j u, cells[j]? = some u → W'.cell? ⟨b, j, none⟩ = some u) :
    ps = [] ∨ ∃ b cells, A = some ⟨b, 0, none⟩ ∧ B ≤ b ∧ LRep (W'.setCell ⟨q, i, none⟩ u) (fun b => B ≤ b) ps cells ∧ ∀ j v, cells[j]? = some v → (W'.setCell ⟨q, i, none⟩ u).cell? ⟨b, j, none⟩ = some v := by
  rcases hr with h | ⟨b, cells, h1, h2, h3, h4⟩
  · exact .inl h
  · exact .inr ⟨b, cells, h1, h2, LRep.mono (fun x hx _ => ⟨hx, Below.heap_setCell W' _ _ x (by dsimp only; omega)⟩) ps cells h3, fun j v hj => (set_far W' (by omega)).trans (h4 j v hj)⟩
theorem rep_baseO {B B' : Nat} {W' : World} {ps : List WP.Part} {A : Option Addr} (hq : B' ≤ B)
    (hr : ps = [] ∨ ∃ b cells, A = some ⟨b, 0, none⟩ ∧ B ≤ b ∧ LRep W' (fun b => B ≤ b) ps cells ∧ ∀ j u, cells[j]? = some u → W'.cell? ⟨b, j, none⟩ = some u) :
    ps = [] ∨ ∃ b cells, A = some ⟨b, 0, none⟩ ∧ B' ≤ b ∧ LRep W' (fun b => B' ≤ b) ps cells ∧ ∀ j u, cells[j]? = some u → W'.cell? ⟨b, j, none⟩ = some u := by
  rcases hr with h | ⟨b, cells, h1, h2, h3, h4⟩
  · exact .inl h
  · exact .inr ⟨b, cells, h1, by omega, LRep.mono (fun x hx _ => ⟨by omega, rfl⟩) ps cells h3, h4⟩
def partsOf (r : Except WP.Flt WP.St) : Except WP.Flt (List WP.Part) := match r with | .error x => .error x | .ok y => .ok y.ls
set_option maxRecDepth 100000 in
set_option maxHeartbeats 4000000 in
theorem wparse_any (hB : BrAll) (s : List UInt8) (pl : Nat) (w : World) (hs : s.length ≤ 100000) :
    Calls Tryz.prog 21 #[.string ⟨s.toArray⟩, .int .i64 pl] w (ParseOut w (WP.parse s pl)) := by
  have hmf : ∀ (fn : Fn) (first cap : Array Value) (w : World), (Instr.makeFunc fn first cap).run Tryz.prog w = .ok (.func fn first cap) w := fun _ _ _ _ => rfl
  obtain ⟨V, hV⟩ : ∃ V, V = ((w.alloc (.cells #[.slice none 0 0] 45)).alloc (.cells #[.int .i64 0] 3)).alloc (.cells #[.int .i64 0] 36) := ⟨_, rfl⟩
  have hb0 : V.heap[w.heap.size]? = some (.cells #[.slice none 0 0] 45 (0, 0)) := by
    rw [hV]
    exact (((balloc _ _).block _ (by simp; omega)).trans ((balloc _ _).block _ (by simp))).trans (al_new w _)
  have hb1 : V.heap[w.heap.size + 1]? = some (.cells #[.int .i64 0] 3 (0, 0)) := by
    rw [hV]
    exact ((balloc _ _).block _ (by simp)).trans (al_new' _ _ _ (by simp))
  have hb2 : V.heap[w.heap.size + 1 + 1]? = some (.cells #[.int .i64 0] 36 (0, 0)) := by
    rw [hV]
    exact al_new' _ _ _ (by simp)
  have hBV : Below w.heap.size w V := by
    rw [hV]
    exact btr (btr (balloc _ _) (balloc _ _)) (balloc _ _)
  have hVs : V.heap.size = w.heap.size + 1 + 1 + 1 := by rw [hV]; simp
  have HV := Lib.hid hV
  have HBV := Lib.hid hBV
  have HVS := Lib.hid hVs
  have HB0 := Lib.hid hb0
  have HB1 := Lib.hid hb1
  have HB2 := Lib.hid hb2
  have HBR := Lib.hid hB
  clear hV hBV hVs hb0 hb1 hb2 hB
  have HBACK := Lib.hid (fun (Y : World) (hY : Below V.heap.size V Y) => show Y.cell? ⟨w.heap.size, 0, none⟩ = some (.slice none 0 0) ∧ Y.cell? ⟨w.heap.size + 1, 0, none⟩ = some (.int .i64 0) ∧ Y.cell? ⟨w.heap.size + 1 + 1, 0, none⟩ = some (.int .i64 0) ∧ Y.frozen? ⟨w.heap.size, 0, none⟩ = false ∧ Y.frozen? ⟨w.heap.size + 1, 0, none⟩ = false ∧ Y.frozen? ⟨w.heap.size + 1 + 1, 0, none⟩ = false ∧ w.heap.size + 1 + 1 < Y.heap.size from by
    have hv := HVS.out
    have hsz := hY.size
    have y0 := (hY.block w.heap.size (by omega)).trans HB0.out
    have y1 := (hY.block (w.heap.size + 1) (by omega)).trans HB1.out
    have y2 := (hY.block (w.heap.size + 1 + 1) (by omega)).trans HB2.out
    exact ⟨Lib.cell_of_heap y0 0, Lib.cell_of_heap y1 0, Lib.cell_of_heap y2 0, Lib.frozen_of_heap y0 0, Lib.frozen_of_heap y1 0, Lib.frozen_of_heap y2 0, by omega⟩)
  by_cases hlong : 16384 < s.length
  · have HR := Lib.hid (show WP.parse s pl = .error (0, 3) by unfold WP.parse; rw [if_pos hlong])
    rw [HR.out]
    have l1 : ((16384 : Int) < (s.length : Int)) = True := eq_true (by omega)
    clear hlong
    go_enter_defers Tryz.func21, Tryz.ntmps21
    go_wp2_with fail
    rw [← HV.out]
    refine (fail_any 0 3 V).mono ?_
    rintro e y ⟨rfl, rfl⟩
    refine leaves_cons (f := 33) (args := #[.pointer (some ⟨w.heap.size, 0, none⟩), .pointer (some ⟨w.heap.size + 1, 0, none⟩), .pointer (some ⟨w.heap.size + 1 + 1, 0, none⟩)]) (by simp) (by simp [go_sem]) ?_
    obtain ⟨d0, d1, d2, t0, t1, t2, hz⟩ := HBACK.out V (Below.refl _ _)
    refine (parse_caught w.heap.size (w.heap.size + 1) (w.heap.size + 1 + 1) w.heap.size (0, 3) V (Nat.le_refl _) (by omega) (by omega) hz d0 d1 d2 t0 t1 t2).mono ?_
    rintro e u' w'' ⟨rfl, ⟨x, rfl⟩, k0, k1, k2, hbw⟩
    dsimp only at k1 k2
    simp [Leaves, settle, results, Tryz.results21, go_sem, k0, k1, k2]
    exact ⟨rfl, HBV.out.trans hbw⟩
  · obtain ⟨X, hX⟩ : ∃ X, X = (((w.alloc (.cells #[.slice none 0 0] 45)).alloc (.cells #[.int .i64 0] 3)).alloc (.cells #[.int .i64 0] 36)).alloc (.cells #[.string ⟨s.toArray⟩, .int .i64 0, .int .i64 pl, .bool false, .int .i64 1, .int .i64 (-1), .int .i64 0, .slice none 0 0, .slice none 0 0] 83) := ⟨_, rfl⟩
    have hgX : X.heap[w.heap.size + 1 + 1 + 1]? = some (.cells #[.string ⟨s.toArray⟩, .int .i64 0, .int .i64 pl, .bool false, .int .i64 1, .int .i64 (-1), .int .i64 0, .slice none 0 0, .slice none 0 0] 83 (0, 0)) := by
      rw [hX]
      exact al_new' _ _ _ (by simp)
    have HVX := Lib.hid (show Below V.heap.size V X by rw [hX, ← HV.out]; exact balloc _ _)
    have HX := Lib.hid hX
    have HSC := Lib.hid (show ScP X (w.heap.size + 1 + 1 + 1) ⟨s, pl, false, 1, -1⟩ ⟨0, 0, [], []⟩ from
      ⟨[], ⟨.slice none 0 0, .slice none 0 0, hgX, ⟨rfl, .inl ⟨rfl, rfl⟩⟩, ⟨rfl, .inl ⟨rfl, rfl⟩⟩⟩, by rw [LRep]⟩)
    have HP := Lib.hid (parse_run HBR.out (s.length + 1) X (w.heap.size + 1 + 1 + 1) ⟨s, pl, false, 1, -1⟩ ⟨0, 0, [], []⟩ ⟨Nat.zero_le _, by simp, Nat.le_refl _⟩ (by show s.length ≤ 20000; omega) (by show 1 ≤ 32; omega) HSC.out (by show s.length - 0 < _; omega))
    obtain ⟨R, hR⟩ : ∃ R, WP.run (s.length + 1) ⟨s, pl, false, 1, -1⟩ ⟨0, 0, [], []⟩ = R := ⟨_, rfl⟩
    have HR := Lib.hid (show WP.parse s pl = partsOf R by unfold WP.parse; rw [if_neg hlong, ← hR]; rfl)
    rw [hR] at HP
    rw [HR.out]
    have l1 : ((16384 : Int) < (s.length : Int)) = False := eq_false (by omega)
    clear hlong hX hgX hR
    cases R with
    | error x =>
      go_enter_defers Tryz.func21, Tryz.ntmps21
      go_wp2_with fail
      rw [← HX.out]
      refine HP.out.mono ?_
      rintro e y ⟨rfl, hby⟩
      have HVY := Lib.hid (show Below V.heap.size V y from HVX.out.trans (hby.mono (by have := HVS.out; omega)))
      refine leaves_cons (f := 33) (args := #[.pointer (some ⟨w.heap.size, 0, none⟩), .pointer (some ⟨w.heap.size + 1, 0, none⟩), .pointer (some ⟨w.heap.size + 1 + 1, 0, none⟩)]) (by simp) (by simp [go_sem]) ?_
      obtain ⟨d0, d1, d2, t0, t1, t2, hz⟩ := HBACK.out y HVY.out
      refine (parse_caught w.heap.size (w.heap.size + 1) (w.heap.size + 1 + 1) w.heap.size x y (Nat.le_refl _) (by omega) (by omega) hz d0 d1 d2 t0 t1 t2).mono ?_
      rintro e u' w'' ⟨rfl, ⟨x', rfl⟩, k0, k1, k2, hbw⟩
      simp [Leaves, settle, results, Tryz.results21, go_sem, k0, k1, k2]
      exact ⟨rfl, (HBV.out.trans (HVY.out.mono (by have := HVS.out; omega))).trans hbw⟩
    | ok y =>
      go_enter_defers Tryz.func21, Tryz.ntmps21
      go_wp2_with fail
      rw [← HX.out]
      refine HP.out.mono ?_
      rintro e Y ⟨rfl, hsc, hfr⟩
      have HVY := Lib.hid (show Below V.heap.size V Y from HVX.out.trans (hfr.below.mono (by have := HVS.out; omega)))
      obtain ⟨tx2, A, cap, hb2, hrep⟩ := own_rep (W := V) (by have := HVS.out; omega) hsc
      have HREP := Lib.hid hrep
      obtain ⟨-, -, -, -, -, -, -, -, c8⟩ := hb2.cells
      obtain ⟨d0, d1, d2, t0, t1, t2, hz⟩ := HBACK.out Y HVY.out
      have HBY := Lib.hid (HBV.out.trans (HVY.out.mono (by have := HVS.out; omega)))
      clear hb2 hrep hsc hfr hz
      go_wp2
      refine leaves_cons (f := 33) (args := #[.pointer (some ⟨w.heap.size, 0, none⟩), .pointer (some ⟨w.heap.size + 1, 0, none⟩), .pointer (some ⟨w.heap.size + 1 + 1, 0, none⟩)]) (by simp) (by simp [go_sem]) ?_
      refine (parse_idle ⟨w.heap.size, 0, none⟩ ⟨w.heap.size + 1, 0, none⟩ ⟨w.heap.size + 1 + 1, 0, none⟩ _).mono ?_
      rintro e u' w'' ⟨rfl, rfl, rfl⟩
      have hfin : Below w.heap.size w (((Y.setCell ⟨w.heap.size, 0, none⟩ (.slice A y.ls.length cap)).setCell ⟨w.heap.size + 1, 0, none⟩ (.int .i64 0)).setCell ⟨w.heap.size + 1 + 1, 0, none⟩ (.int .i64 0)) := ((HBY.out.setCell (by dsimp only; omega) _).setCell (by dsimp only; omega) _).setCell (by dsimp only; omega) _
      simp [Leaves, settle, results, Tryz.results21, go_sem, d0, d1, d2]
      refine ⟨A, cap, rfl, hfin, ?_⟩
      have hv := HVS.out
      exact rep_baseO (by omega) (rep_setO (by omega) (rep_setO (by omega) (rep_setO (by omega) HREP.out)))
/-- A slice of parts in new memory. -/
theorem Parse_any (hB : BrAll) (s : List UInt8) (w : World) (hs : s.length ≤ 100000) : Calls Tryz.prog 13 #[.string ⟨s.toArray⟩] w (ParseOut w (WP.parse s 0)) := by
  have HP := Lib.hid (show Calls Tryz.prog 21 #[.string ⟨s.toArray⟩, .int .i64 0] w (ParseOut w (WP.parse s 0)) from wparse_any hB s 0 w hs)
  cases hr : WP.parse s 0 with
  | error x =>
    rw [hr] at HP
    clear hr
    go_enter Tryz.func13, Tryz.ntmps13
    go_wp2_with fail
    refine HP.out.mono ?_
    rintro e Y ⟨rfl, hb⟩
    go_wp2
    exact bodyPost_ret (v := .tuple #[.slice none 0 0, .int .i64 x.1, .int .i64 x.2]) (by simp [results, Tryz.results13, go_sem]) rfl ⟨rfl, hb⟩
  | ok ps =>
    rw [hr] at HP
    clear hr
    have pn0 : (0 : Int) ≤ (ps.length : Int) := by omega
    go_enter Tryz.func13, Tryz.ntmps13
    go_wp2_with fail
    refine HP.out.mono ?_
    rintro e Y ⟨A, cap, rfl, hb, hrep⟩
    have HH := Lib.hid (And.intro hb hrep)
    clear hb hrep
    go_wp2
    exact bodyPost_ret (v := .tuple #[.slice A ps.length cap, .int .i64 0, .int .i64 0]) (by simp [results, Tryz.results13, go_sem]) rfl ⟨A, cap, rfl, HH.out⟩
end W
end Go.Proofs.YtkceenmlhfkkhaaGreatDoor
