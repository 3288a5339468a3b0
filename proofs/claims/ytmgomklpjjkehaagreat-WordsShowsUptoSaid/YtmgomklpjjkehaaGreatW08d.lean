/- Words: fail, the bytes, ended. -/
import Derived.Test.YtmgomklpjjkehaaGreatW08c
import Derived.WalkLawsBesides
namespace Go.Proofs.YtmgomklpjjkehaaGreat
open Go.RowKit K
namespace W
/-- The chain of a parser's error. -/
def faultP (f : WP.Flt) : List PanicEntry := [{ v := .iface 69 (.agg #[.int .i64 f.1, .int .i64 f.2]), recovered := false }]
theorem fail_any (a x : Int) (w : World) : Calls Tryz.prog 33 #[.int .i64 a, .int .i64 x] w fun e w' => e = .panicked (faultP (a, x)) ∧ w = w' := by
  go_enter Tryz.func33, Tryz.ntmps33
  go_wp2
  exact ⟨rfl, rfl, rfl⟩
theorem wd_starts (c : Int) (w : World) : Calls Tryz.prog 52 #[.int .u8 c] w fun e w' => e = .returned (.bool (LX.starts c)) ∧ w = w' := by
  go_enter Tryz.func52, Tryz.ntmps52
  go_wp2
  all_goals go_ret
  all_goals go_light
  all_goals exact ⟨ret_bool (by unfold LX.starts; rw [Bool.eq_iff_iff]; simp; try omega), rfl⟩
theorem wd_digit (c : Int) (w : World) : Calls Tryz.prog 53 #[.int .u8 c] w fun e w' => e = .returned (.bool (LX.digit c)) ∧ w = w' := by
  go_enter Tryz.func53, Tryz.ntmps53
  go_wp2
  all_goals go_ret
  all_goals go_light
  all_goals exact ⟨ret_bool (by unfold LX.digit; rw [Bool.eq_iff_iff]; simp; try omega), rfl⟩
/-- What ended gives. -/
def EndedOut (W : World) : Except WP.Flt Bool → Ending → World → Prop
  | .ok b, e, W' => e = .returned (.bool b) ∧ Below W.heap.size W W'
  | .error f, e, W' => e = .panicked (faultP f) ∧ Below W.heap.size W W'
set_option maxRecDepth 100000 in
set_option maxHeartbeats 4000000 in
theorem ended_any {W : World} {g : Nat} {c : WP.Ctx} {st : WP.St} (h : ScP W g c st) (ha : st.a ≤ c.s.length) (hl : c.s.length ≤ 100000) (hd : st.dep ≤ 100000) :
    Calls Tryz.prog 46 #[.pointer (some ⟨g, 0, none⟩)] W (EndedOut W (WP.ended c st)) := by
  obtain ⟨lc, ⟨tx, ls, h, -, -⟩, -⟩ := h
  obtain ⟨s, pl, op, lv, opn⟩ := c
  obtain ⟨a, dep, tb, lp⟩ := st
  dsimp only at h ha hl hd ⊢
  obtain ⟨c0, c1, c2, c3, c4, c5, c6, c7, c8⟩ := h.cells
  clear h
  have HF := Lib.hid (fun (x y : Int) (V : World) => fail_any x y V)
  have a0 : (0 : Int) ≤ (a : Int) := by omega
  by_cases hend : a = s.length
  · subst hend
    by_cases ho : 0 ≤ opn
    · rw [show WP.ended ⟨s, pl, op, lv, opn⟩ ⟨s.length, dep, tb, lp⟩ = .error (opn, 7) from by unfold WP.ended; rw [if_pos rfl, if_pos ho]]
      have o1 : (0 ≤ opn) = True := eq_true ho
      clear ho
      go_enter Tryz.func46, Tryz.ntmps46
      go_wp2_with fail
      go_quiet (fail)
      go_wp2_with fail
      refine (HF.out _ _ _).mono ?_
      rintro e w' ⟨rfl, rfl⟩
      exact ⟨rfl, rfl, (by repeat (first | exact Below.refl _ _ | apply bdN))⟩
    · rw [show WP.ended ⟨s, pl, op, lv, opn⟩ ⟨s.length, dep, tb, lp⟩ = .ok true from by unfold WP.ended; rw [if_pos rfl, if_neg ho]]
      have o1 : (0 ≤ opn) = False := eq_false ho
      clear ho
      go_enter Tryz.func46, Tryz.ntmps46
      go_wp2_with fail
      go_quiet (fail)
      go_wp2
      go_ret
      exact ⟨rfl, (by repeat (first | exact Below.refl _ _ | apply bdN))⟩
  have hlt : a < s.length := by omega
  have a1 : ((a : Int) < (s.length : Int)) = True := eq_true (by omega)
  have a2 : ¬ (a : Int) = (s.length : Int) := by omega
  have a3 := hend
  clear hend
  cases op with
  | true =>
    rw [show WP.ended ⟨s, pl, true, lv, opn⟩ ⟨a, dep, tb, lp⟩ = .ok (decide (bt s a = 125)) from by unfold WP.ended; rw [if_neg a3, if_pos rfl]]
    go_enter Tryz.func46, Tryz.ntmps46
    go_wp2_with fail
    go_quiet (fail)
    go_wp2_with fail
    go_quiet (fail)
    go_wp2
    go_ret
    exact ⟨ret_bool (by rw [Bool.eq_iff_iff]; simp), (by repeat (first | exact Below.refl _ _ | apply bdN))⟩
  | false =>
    by_cases hp1 : pl = 1
    · subst hp1
      rw [show WP.ended ⟨s, 1, false, lv, opn⟩ ⟨a, dep, tb, lp⟩ = .ok (decide (bt s a = 34)) from by unfold WP.ended; rw [if_neg a3, if_neg (by simp), if_pos rfl]]
      go_enter Tryz.func46, Tryz.ntmps46
      go_wp2_with fail
      go_quiet (fail)
      go_wp2_with fail
      go_quiet (fail)
      go_wp2
      go_ret
      exact ⟨ret_bool (by rw [Bool.eq_iff_iff]; simp), (by repeat (first | exact Below.refl _ _ | apply bdN))⟩
    have p1 : ((pl : Int) == 1) = false := by rw [beq_eq_false_iff_ne]; omega
    by_cases hp2 : pl = 2 ∧ bt s a = 41 ∧ dep = 0
    · obtain ⟨rfl, hb, rfl⟩ := hp2
      by_cases he : a + 1 = s.length
      · rw [show WP.ended ⟨s, 2, false, lv, opn⟩ ⟨a, 0, tb, lp⟩ = .error (opn, 7) from by unfold WP.ended; rw [if_neg a3, if_neg (by simp), if_neg (by simp), if_pos ⟨rfl, hb, rfl⟩, if_pos he]]
        have e1 : ((a : Int) + 1 == (s.length : Int)) = true := by rw [beq_iff_eq]; omega
        have e2 : IntKind.i64.wrap ((a : Int) + 1) = (a : Int) + 1 := IntWalk.i64_in _ (by omega)
        clear hp1
        go_enter Tryz.func46, Tryz.ntmps46
        go_wp2_with fail
        go_quiet (fail)
        go_wp2_with fail
        go_quiet (fail)
        go_wp2_with fail
        go_quiet (fail)
        go_wp2_with fail
        refine (HF.out _ _ _).mono ?_
        rintro e w' ⟨rfl, rfl⟩
        exact ⟨rfl, rfl, (by repeat (first | exact Below.refl _ _ | apply bdN))⟩
      · have he' : a + 1 < s.length := by omega
        have e1 : ((a : Int) + 1 == (s.length : Int)) = false := by rw [beq_eq_false_iff_ne]; omega
        have e2 : IntKind.i64.wrap ((a : Int) + 1) = (a : Int) + 1 := IntWalk.i64_in _ (by omega)
        have e3 : ((a : Int) + 1 < (s.length : Int)) = True := eq_true (by omega)
        have e4 : ((a : Int) + 1).toNat = a + 1 := by omega
        have e5 : (0 : Int) ≤ (a : Int) + 1 := by omega
        by_cases h41 : bt s (a + 1) = 41
        · rw [show WP.ended ⟨s, 2, false, lv, opn⟩ ⟨a, 0, tb, lp⟩ = .ok true from by unfold WP.ended; rw [if_neg a3, if_neg (by simp), if_neg (by simp), if_pos ⟨rfl, hb, rfl⟩, if_neg he, if_pos h41]]
          clear hp1
          go_enter Tryz.func46, Tryz.ntmps46
          go_wp2_with fail
          go_quiet (fail)
          go_wp2_with fail
          go_quiet (fail)
          go_wp2_with fail
          go_quiet (fail)
          go_wp2_with fail
          go_quiet (fail)
          go_wp2
          go_ret
          exact ⟨rfl, (by repeat (first | exact Below.refl _ _ | apply bdN))⟩
        · rw [show WP.ended ⟨s, 2, false, lv, opn⟩ ⟨a, 0, tb, lp⟩ = .error (a, 6) from by unfold WP.ended; rw [if_neg a3, if_neg (by simp), if_neg (by simp), if_pos ⟨rfl, hb, rfl⟩, if_neg he, if_neg h41]]
          have b41 : (bt s (a + 1) != 41) = true := by simpa using h41
          clear hp1
          go_enter Tryz.func46, Tryz.ntmps46
          go_wp2_with fail
          go_quiet (fail)
          go_wp2_with fail
          go_quiet (fail)
          go_wp2_with fail
          go_quiet (fail)
          go_wp2_with fail
          go_quiet (fail)
          go_wp2_with fail
          refine (HF.out _ _ _).mono ?_
          rintro e w' ⟨rfl, rfl⟩
          exact ⟨rfl, rfl, (by repeat (first | exact Below.refl _ _ | apply bdN))⟩
    · rw [show WP.ended ⟨s, pl, false, lv, opn⟩ ⟨a, dep, tb, lp⟩ = .ok false from by unfold WP.ended; rw [if_neg a3, if_neg (by simp), if_neg hp1, if_neg hp2]]
      by_cases h2 : pl = 2
      · subst h2
        by_cases hb : bt s a = 41
        · have hd0 : ¬ dep = 0 := fun e => hp2 ⟨rfl, hb, e⟩
          have d1 : ((dep : Int) == 0) = false := by rw [beq_eq_false_iff_ne]; omega
          clear hp1 hp2 hd0
          go_enter Tryz.func46, Tryz.ntmps46
          go_wp2_with fail
          go_quiet (fail)
          go_wp2_with fail
          go_quiet (fail)
          go_wp2
          go_ret
          exact ⟨rfl, (by repeat (first | exact Below.refl _ _ | apply bdN))⟩
        · have b1 := beq_f hb
          clear hp1 hp2
          go_enter Tryz.func46, Tryz.ntmps46
          go_wp2_with fail
          go_quiet (fail)
          go_wp2_with fail
          go_quiet (fail)
          go_wp2
          go_ret
          exact ⟨rfl, (by repeat (first | exact Below.refl _ _ | apply bdN))⟩
      · have p2 : ((pl : Int) == 2) = false := by rw [beq_eq_false_iff_ne]; omega
        clear hp2
        go_enter Tryz.func46, Tryz.ntmps46
        go_wp2_with fail
        go_quiet (fail)
        go_wp2_with fail
        go_quiet (fail)
        go_wp2
        go_ret
        exact ⟨rfl, (by repeat (first | exact Below.refl _ _ | apply bdN))⟩
end W
end Go.Proofs.YtmgomklpjjkehaaGreat
