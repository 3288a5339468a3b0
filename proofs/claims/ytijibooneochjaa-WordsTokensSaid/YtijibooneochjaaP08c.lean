/- Chapter 8 in plain Lean: an error of the parser has a number. -/
import Derived.Test.YtijibooneochjaaP08b
namespace Go.Proofs.Ytijibooneochjaa
open K
namespace WP
/-- The errors of a reader of a construct's parts have a number. -/
def CodeN (s : Str) (lo : Nat) (N : Nest) : Prop := ∀ (c : Ctx) (k : Nat) (x : Flt), c.s = s → lo ≤ k → k ≤ s.length → N c k = .error x → ¬ x.2 = 0
theorem err_code {α : Type} {a : Int} {n : Int} {x : Flt} (h : (Except.error (a, n) : Except Flt α) = .error x) (hn : ¬ n = 0) : ¬ x.2 = 0 := by
  injection h with h
  rw [← h]
  exact hn
theorem cls_code {s : Str} {a : Nat} {x : Flt} (h : cls s a = .error x) : ¬ x.2 = 0 := by
  unfold cls at h
  split at h
  · cases h
  · rename_i hn
    exact err_code h hn
theorem ended_code {c : Ctx} {st : St} {x : Flt} (h : ended c st = .error x) : ¬ x.2 = 0 := by
  unfold ended at h
  split at h
  · split at h
    · exact err_code h (by decide)
    · cases h
  split at h
  · cases h
  split at h
  · cases h
  split at h
  · split at h
    · exact err_code h (by decide)
    · split at h
      · cases h
      · exact err_code h (by decide)
  · cases h
theorem reject_code (c : Ctx) (st : St) (i : Nat) : ¬ (reject c st i).2 = 0 := by
  unfold reject
  split
  · exact (by decide : ¬ (7 : Int) = 0)
  · exact (by decide : ¬ (6 : Int) = 0)
theorem operator_le' (t : Str) (colon : Bool) : (operator t colon).2 ≤ t.length := by
  unfold operator
  have h22 : ∀ {a b : UInt8}, Lib.hasPrefix t [a, b] = true → 2 ≤ t.length := by
    intro a b hx
    obtain ⟨r, hr⟩ := LX.has2 hx
    rw [hr]
    simp
  by_cases h0 : t = []
  · rw [if_pos h0]; exact Nat.zero_le _
  · have := List.length_pos_iff.2 h0
    rw [if_neg h0]
    repeat' split
    all_goals first | omega | (dsimp only; omega) | exact h22 (by assumption)
theorem braced3_code {N : Nest} {c : Ctx} {st : St} {e k o z : Nat} {colon : Bool} {x : Flt} (hN : CodeN c.s (st.a + 1) N) (hk : st.a < k) (hz : k + z ≤ c.s.length) (h : braced3 N c st e k o z colon = .error x) : ¬ x.2 = 0 := by
  unfold braced3 at h
  split at h
  · injection h with h; rw [← h]; exact reject_code _ _ _
  split at h
  · exact err_code h (by decide)
  split at h
  · exact err_code h (by decide)
  split at h
  · rename_i y hy
    injection h with h
    rw [← h]
    exact hN ⟨c.s, c.pl, true, c.lv + 1, st.a⟩ (k + z) _ rfl (by omega) hz hy
  · cases h
theorem braced_code {N : Nest} {c : Ctx} {st : St} {x : Flt} (hN : CodeN c.s (st.a + 1) N) (ha : st.a + 2 ≤ c.s.length) (h : braced N c st = .error x) : ¬ x.2 = 0 := by
  unfold braced at h
  split at h
  · rename_i y hy
    injection h with h
    rw [← h]
    unfold braced1 at hy
    split at hy
    · split at hy
      · exact err_code hy (by decide)
      split at hy
      · exact err_code hy (by decide)
      split at hy
      · cases hy
      split at hy
      · exact err_code hy (by decide)
      · cases hy
    · cases hy
  · cases h
  · have hp := parameter_le' ha
    unfold braced2 at h
    split at h
    · injection h with h; rw [← h]; exact reject_code _ _ _
    split at h
    · exact err_code h (by decide)
    split at h
    · cases h
    split at h
    · rename_i h58
      obtain ⟨r, hr⟩ := LX.has1 h58
      have h7 := (LX.drop_head hr).1
      have h8 := operator_le' (c.s.drop (parameter c.s (st.a + 2) + 1)) true
      rw [List.length_drop] at h8
      exact braced3_code hN (by omega) (by omega) h
    · have h8 := operator_le' (c.s.drop (parameter c.s (st.a + 2))) false
      rw [List.length_drop] at h8
      exact braced3_code hN (by omega) (by omega) h
theorem dollar_code {N : Nest} {c : Ctx} {st : St} {x : Flt} (hN : CodeN c.s (st.a + 1) N) (h : dollar N c st = .error x) : ¬ x.2 = 0 := by
  unfold dollar at h
  split at h
  · rename_i h40
    split at h
    · exact err_code h (by decide)
    split at h
    · rename_i y hy
      injection h with h
      rw [← h]
      obtain ⟨r, hr⟩ := LX.has2 h40
      have d1 := LX.drop_head hr
      have d2 := LX.drop_head d1.2.2
      exact hN ⟨c.s, 2, false, c.lv + 1, st.a⟩ (st.a + 3) _ rfl (by omega) (by omega) hy
    · cases h
  split at h
  · split at h
    · rename_i y hy
      injection h with h
      rw [← h]
      exact cls_code hy
    · cases h
  split at h
  · rename_i h123
    split at h
    · rename_i y hy
      injection h with h
      rw [← h]
      obtain ⟨r, hr⟩ := LX.has1 h123
      have d1 := LX.drop_head hr
      exact braced_code hN (by omega) hy
    · cases h
  split at h
  · cases h
  split at h
  · split at h
    · exact err_code h (by decide)
    · cases h
  split at h
  · exact err_code h (by decide)
  · cases h
theorem next_code {N : Nest} {c : Ctx} {st : St} {x : Flt} (hN : CodeN c.s (st.a + 1) N) (ha : st.a < c.s.length) (h : next N c st = .error x) : ¬ x.2 = 0 := by
  unfold next at h
  split at h
  · unfold backslash at h
    split at h
    · split at h
      · cases h
      · exact err_code h (by decide)
    split at h
    · cases h
    split at h
    · cases h
    split at h
    · cases h
    split at h
    · exact err_code h (by decide)
    · cases h
  split at h
  · exact dollar_code hN h
  split at h
  · unfold backquoted at h
    split at h
    · rename_i y hy
      injection h with h
      rw [← h]
      exact cls_code hy
    · split at h
      · cases h
      split at h
      · cases h
      · exact err_code h (by decide)
  split at h
  · unfold unquoted at h
    split at h
    · split at h
      · rename_i y hy
        injection h with h
        rw [← h]
        exact cls_code hy
      · cases h
    split at h
    · split at h
      · exact err_code h (by decide)
      split at h
      · rename_i y hy
        injection h with h
        rw [← h]
        exact hN ⟨c.s, 1, false, c.lv + 1, st.a⟩ (st.a + 1) _ rfl (by omega) (by omega) hy
      · cases h
    split at h
    · split at h
      · cases h
      · exact err_code h (by decide)
    split at h
    · cases h
    · cases h
  split at h
  · exact err_code h (by decide)
  · cases h
theorem run_code : ∀ (f : Nat) (c : Ctx) (st : St) (x : Flt), Inv c st → c.s.length - st.a < f → run f c st = .error x → ¬ x.2 = 0 := by
  intro f
  induction f using Nat.strongRecOn with
  | ind f ih =>
    intro c st x hi hf h
    obtain ⟨f, rfl⟩ : ∃ k, f = k + 1 := ⟨f - 1, by omega⟩
    rw [run_succ] at h
    cases he : ended c st with
    | error y =>
      rw [he] at h
      injection h with h
      rw [← h]
      exact ended_code he
    | ok b =>
      rw [he] at h
      cases b with
      | true => cases h
      | false =>
        dsimp only at h
        have hlt : st.a < c.s.length := by
          rcases Nat.lt_or_ge st.a c.s.length with h' | h'
          · exact h'
          · have := hi.le
            unfold ended at he
            rw [if_pos (by omega)] at he
            split at he <;> cases he
        have hN : CodeN c.s (st.a + 1) (nest f) := by
          intro c' k y hc hlo hk hy
          unfold nest at hy
          cases hr : run f c' ⟨k, 0, [], []⟩ with
          | error z =>
            rw [hr] at hy
            injection hy with hy
            rw [← hy]
            exact ih f (Nat.lt_succ_self _) c' ⟨k, 0, [], []⟩ z ⟨by rw [hc]; exact hk, by simp, by simp⟩ (by rw [hc]; show _ - k < _; omega) hr
          | ok z => rw [hr] at hy; cases hy
        cases hn : next (nest f) c st with
        | error y =>
          rw [hn] at h
          injection h with h
          rw [← h]
          exact next_code hN hlt hn
        | ok y =>
          rw [hn] at h
          have hg := next_good (nest_good f c.s) hi hlt hn
          exact ih f (Nat.lt_succ_self _) c y x hg.2 (by omega) h
theorem parse_code {s : Str} {pl : Nat} {x : Flt} (h : parse s pl = .error x) : ¬ x.2 = 0 := by
  unfold parse at h
  split at h
  · exact err_code h (by decide)
  · cases hr : run (s.length + 1) ⟨s, pl, false, 1, -1⟩ ⟨0, 0, [], []⟩ with
    | error y =>
      rw [hr] at h
      injection h with h
      rw [← h]
      exact run_code _ _ _ _ ⟨Nat.zero_le _, by simp, Nat.le_refl _⟩ (by show s.length - 0 < _; omega) hr
    | ok y => rw [hr] at h; cases h
end WP
end Go.Proofs.Ytijibooneochjaa
