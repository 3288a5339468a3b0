/- Chapter 8 in plain Lean: parts are no more, and no longer, than what was read. -/
import Derived.Test.YtijibooneochjaaP08w
namespace Go.Proofs.Ytijibooneochjaa
open K
namespace WP
theorem cutLen (l : Str) (a b : Nat) : (cut l a b).length ≤ b - a := by unfold cut; simp; omega
theorem unqLen : ∀ (n : Nat) (t : Str), t.length ≤ n → (unq t).length ≤ t.length := by
  intro n
  induction n with
  | zero =>
    intro t h
    rw [List.length_eq_zero_iff.1 (by omega : t.length = 0)]
    exact Nat.le_refl _
  | succ n ih =>
    intro t h
    match t, h with
    | [], _ => exact Nat.le_refl _
    | [x], _ => exact Nat.le_refl _
    | x :: y :: r, h =>
      rw [unq]
      simp only [List.length_cons] at h
      split
      · have := ih r (by omega)
        simp only [List.length_cons]
        omega
      · have := ih (y :: r) (by simp only [List.length_cons]; omega)
        simp only [List.length_cons] at this ⊢
        omega
theorem cntL_append : ∀ a b : List GP, cntL (a ++ b) = cntL a + cntL b
  | [], b => by rw [List.nil_append, cntL, Nat.zero_add]
  | p :: r, b => by rw [List.cons_append, cntL, cntL, cntL_append r b, Nat.add_assoc]
theorem sizL_append : ∀ a b : List GP, sizL (a ++ b) = sizL a + sizL b
  | [], b => by rw [List.nil_append, sizL, Nat.zero_add]
  | p :: r, b => by rw [List.cons_append, sizL, sizL, sizL_append r b, Nat.add_assoc]
/-- The parts and the bytes of a state, its text with them. -/
def wc (st : St) : Nat := cntL (gpL st.ls) + st.tx.length
def ws (st : St) : Nat := sizL (gpL st.ls) + st.tx.length
theorem cnt_one (p : Part) : cntL (gpL [p]) = cntP (gp p) := by rw [gpL, gpL, cntL, cntL, Nat.add_zero]
theorem siz_one (p : Part) : sizL (gpL [p]) = sizP (gp p) := by rw [gpL, gpL, sizL, sizL, Nat.add_zero]
theorem flush_w (st : St) : wc (flush st) ≤ wc st ∧ ws (flush st) ≤ ws st ∧ (flush st).tx = [] := by
  unfold flush
  split
  · rename_i h; exact ⟨Nat.le_refl _, Nat.le_refl _, h⟩
  · rename_i h
    have := List.length_pos_iff.2 h
    refine ⟨?_, ?_, rfl⟩
    · unfold wc
      dsimp only
      rw [gpL_append, cntL_append, cnt_one, gp, cntP, gpL, cntL]
      simp
      omega
    · unfold ws
      dsimp only
      rw [gpL_append, sizL_append, siz_one, gp, sizP, gpL, sizL]
      simp
theorem add_w (p : Part) (k : Nat) (st : St) : wc (add p k st) ≤ wc st + cntP (gp p) ∧ ws (add p k st) ≤ ws st + sizP (gp p) := by
  obtain ⟨h1, h2, h3⟩ := flush_w st
  refine ⟨?_, ?_⟩
  · have : wc (add p k st) = wc (flush st) + cntP (gp p) := by
      unfold wc add
      dsimp only
      rw [gpL_append, cntL_append, cnt_one]
      omega
    omega
  · have : ws (add p k st) = ws (flush st) + sizP (gp p) := by
      unfold ws add
      dsimp only
      rw [gpL_append, sizL_append, siz_one]
      omega
    omega
theorem lit_w (c : UInt8) (m : Nat) (st : St) : wc (lit c m st) = wc st + 1 ∧ ws (lit c m st) = ws st + 1 := by
  unfold wc ws lit
  simp
  omega
/-- What a reader gives is no more than it read. -/
def WtN (s : Str) (lo : Nat) (N : Nest) : Prop := ∀ (c : Ctx) (k : Nat) (ps : List Part) (e : Nat), c.s = s → 0 ≤ c.opn → lo ≤ k → k ≤ s.length → N c k = .ok (ps, e) → cntL (gpL ps) + k ≤ e ∧ sizL (gpL ps) + k ≤ e
def Wt (st st' : St) : Prop := wc st' + st.a ≤ wc st + st'.a ∧ ws st' + st.a ≤ ws st + st'.a
theorem wt_add {st : St} {p : Part} {k : Nat} (h1 : cntP (gp p) + st.a ≤ k) (h2 : sizP (gp p) + st.a ≤ k) : Wt st (add p k st) := by
  obtain ⟨h3, h4⟩ := add_w p k st
  refine ⟨?_, ?_⟩
  · show _ ≤ wc st + k; omega
  · show _ ≤ ws st + k; omega
theorem wt_lit (c : UInt8) {m : Nat} (st : St) (h : 1 ≤ m) : Wt st (lit c m st) := by
  obtain ⟨h3, h4⟩ := lit_w c m st
  refine ⟨?_, ?_⟩
  · show _ ≤ wc st + (st.a + m); omega
  · show _ ≤ ws st + (st.a + m); omega
theorem leaf (k : Nat) (t : Str) (o : Nat) (b : Bool) : cntP (gp (.mk k t o b [])) = 1 ∧ sizP (gp (.mk k t o b [])) = t.length := by
  rw [gp, cntP, sizP, gpL, cntL, sizL]
  omega
theorem node (k : Nat) (t : Str) (o : Nat) (b : Bool) (ps : List Part) : cntP (gp (.mk k t o b ps)) = 1 + cntL (gpL ps) ∧ sizP (gp (.mk k t o b ps)) = t.length + sizL (gpL ps) := by
  rw [gp, cntP, sizP]
  omega
theorem wt_leaf {st : St} {k : Nat} {t : Str} {o : Nat} {b : Bool} {e : Nat} (h : t.length + st.a ≤ e) (h1 : st.a < e) : Wt st (add (.mk k t o b []) e st) := by
  obtain ⟨h2, h3⟩ := leaf k t o b
  exact wt_add (by omega) (by omega)
theorem braced3_wt {N : Nest} {c : Ctx} {st : St} (hN : WtN c.s (st.a + 1) N) {e k o z : Nat} {colon : Bool} {p : Part} {j : Nat} (hk : st.a + 2 ≤ e) (hk2 : e ≤ k) (hz : k + z ≤ c.s.length) (h : braced3 N c st e k o z colon = .ok (p, j)) : cntP (gp p) + st.a ≤ j ∧ sizP (gp p) + st.a ≤ j := by
  unfold braced3 at h
  split at h
  · cases h
  split at h
  · cases h
  split at h
  · cases h
  split at h
  · cases h
  · rename_i ps x hn
    injection h with h
    injection h with h1 h2
    obtain ⟨h5, h6⟩ := hN ⟨c.s, c.pl, true, c.lv + 1, st.a⟩ (k + z) ps x rfl (show (0 : Int) ≤ (st.a : Int) by omega) (by omega) hz hn
    obtain ⟨h7, h8⟩ := node 4 (cut c.s (st.a + 2) e) o colon ps
    have := cutLen c.s (st.a + 2) e
    rw [← h1, ← h2]
    omega
theorem braced_wt {N : Nest} {c : Ctx} {st : St} (hN : WtN c.s (st.a + 1) N) (ha : st.a + 2 ≤ c.s.length) {p : Part} {j : Nat} (h : braced N c st = .ok (p, j)) : cntP (gp p) + st.a ≤ j ∧ sizP (gp p) + st.a ≤ j := by
  have hp := parameter_le' ha
  have hop : ∀ (t : Str) (colon : Bool), (operator t colon).2 ≤ t.length := by
    intro t colon
    unfold operator
    have h22 : ∀ {a b : UInt8}, Lib.hasPrefix t [a, b] = true → 2 ≤ t.length := by
      intro a b hx
      obtain ⟨r, hr⟩ := LX.has2 hx
      rw [hr]
      simp
    by_cases h0 : t = []
    · rw [if_pos h0]; exact Nat.zero_le _
    · have := List.length_pos_iff.2 h0
      rw [if_neg h0]
      repeat' split
      all_goals first | omega | (dsimp only; omega) | exact h22 (by assumption)
  unfold braced at h
  split at h
  · cases h
  · rename_i r hr
    injection h with h
    unfold braced1 at hr
    split at hr
    · rename_i hc
      split at hr
      · cases hr
      split at hr
      · cases hr
      split at hr
      · injection hr with hr
        injection hr with hr
        rw [h] at hr
        injection hr with h1 h2
        obtain ⟨h7, h8⟩ := leaf 4 (cut c.s (st.a + 3) (parameter c.s (st.a + 3))) 5 false
        have := cutLen c.s (st.a + 3) (parameter c.s (st.a + 3))
        rw [← h1, ← h2]
        omega
      split at hr
      · cases hr
      · injection hr with hr; cases hr
    · injection hr with hr; cases hr
  · unfold braced2 at h
    split at h
    · cases h
    split at h
    · cases h
    split at h
    · injection h with h
      injection h with h1 h2
      obtain ⟨h7, h8⟩ := leaf 4 (cut c.s (st.a + 2) (parameter c.s (st.a + 2))) 0 false
      have := cutLen c.s (st.a + 2) (parameter c.s (st.a + 2))
      rw [← h1, ← h2]
      omega
    split at h
    · rename_i h58
      obtain ⟨r, hr⟩ := LX.has1 h58
      have h7 := (LX.drop_head hr).1
      have h8 := hop (c.s.drop (parameter c.s (st.a + 2) + 1)) true
      rw [List.length_drop] at h8
      exact braced3_wt hN (by omega) (by omega) (by omega) h
    · have h8 := hop (c.s.drop (parameter c.s (st.a + 2))) false
      rw [List.length_drop] at h8
      exact braced3_wt hN (by omega) (by omega) (by omega) h
theorem dollar_wt {N : Nest} {c : Ctx} {st st' : St} (hN : WtN c.s (st.a + 1) N) (hb : bt c.s st.a = 36) (h : dollar N c st = .ok st') : Wt st st' := by
  unfold dollar at h
  split at h
  · rename_i h40
    split at h
    · cases h
    split at h
    · cases h
    · rename_i ps e hn
      injection h with h
      subst h
      obtain ⟨r, hr⟩ := LX.has2 h40
      have d1 := LX.drop_head hr
      have d2 := LX.drop_head d1.2.2
      obtain ⟨h5, h6⟩ := hN ⟨c.s, 2, false, c.lv + 1, st.a⟩ (st.a + 3) _ _ rfl (show (0 : Int) ≤ (st.a : Int) by omega) (by omega) (by omega) hn
      obtain ⟨h7, h8⟩ := node 6 [] 0 false ps
      exact wt_add (by omega) (by rw [h8, List.length_nil]; omega)
  split at h
  · rename_i hn40 h40
    split at h
    · cases h
    · rename_i e he
      injection h with h
      subst h
      obtain ⟨he1, he2⟩ := cls_le he
      obtain ⟨r, hr⟩ := LX.has1 h40
      have d1 := LX.drop_head hr
      have := LX.close_cmd hb d1.2.1 (LX.has_not3 (by simpa using hn40)) he1
      have := cutLen c.s (st.a + 2) (e - 1)
      exact wt_leaf (by omega) (by omega)
  split at h
  · rename_i h123
    split at h
    · cases h
    · rename_i p e hbr
      injection h with h
      subst h
      obtain ⟨r, hr⟩ := LX.has1 h123
      have d1 := LX.drop_head hr
      obtain ⟨h5, h6⟩ := braced_wt hN (by omega) hbr
      exact wt_add h5 h6
  split at h
  · injection h with h
    subst h
    have := cutLen c.s (st.a + 1) (st.a + 2)
    exact wt_leaf (by omega) (by omega)
  split at h
  · rename_i hp
    split at h
    · cases h
    · injection h with h
      subst h
      have := cutLen c.s (st.a + 1) (parameter c.s (st.a + 1))
      exact wt_leaf (by omega) (by omega)
  split at h
  · cases h
  · injection h with h
    subst h
    exact wt_lit _ _ (Nat.le_refl _)
theorem next_wt {N : Nest} {c : Ctx} {st st' : St} (hN : WtN c.s (st.a + 1) N) (ha : st.a < c.s.length) (h : next N c st = .ok st') : Wt st st' := by
  unfold next at h
  split at h
  · unfold backslash at h
    split at h
    · split at h
      · injection h with h; subst h; exact wt_lit _ _ (Nat.le_refl _)
      · cases h
    split at h
    · injection h with h
      subst h
      refine ⟨?_, ?_⟩
      · show wc st + st.a ≤ wc st + (st.a + 2); omega
      · show ws st + st.a ≤ ws st + (st.a + 2); omega
    split at h
    · injection h with h
      subst h
      have := cutLen c.s (st.a + 1) (st.a + 2)
      exact wt_leaf (by omega) (by omega)
    split at h
    · injection h with h; subst h; exact wt_lit _ _ (by decide)
    split at h
    · cases h
    · injection h with h
      subst h
      obtain ⟨h1, h2⟩ := wt_lit 92 (m := 1) st (Nat.le_refl _)
      obtain ⟨h3, h4⟩ := wt_lit (by8 (bt c.s (st.a + 1))) (m := 1) (lit 92 1 st) (Nat.le_refl _)
      exact ⟨by omega, by omega⟩
  split at h
  · rename_i hb; exact dollar_wt hN hb h
  split at h
  · rename_i hb
    unfold backquoted at h
    split at h
    · cases h
    · rename_i e he
      obtain ⟨he1, he2⟩ := cls_le he
      have := LX.close_back hb he1
      have h5 := cutLen c.s (st.a + 1) (e - 1)
      have h6 := unqLen _ (cut c.s (st.a + 1) (e - 1)) (Nat.le_refl _)
      have h7 : (bqText (unq (cut c.s (st.a + 1) (e - 1)))).length ≤ (unq (cut c.s (st.a + 1) (e - 1))).length + 1 := by unfold bqText; split <;> simp
      split at h
      · injection h with h; subst h; exact wt_leaf (by omega) (by omega)
      split at h
      · injection h with h; subst h; exact wt_leaf (by rw [List.length_append, List.length_singleton]; omega) (by omega)
      · cases h
  split at h
  · unfold unquoted at h
    split at h
    · rename_i hb
      split at h
      · cases h
      · rename_i e he
        obtain ⟨he1, he2⟩ := cls_le he
        have := LX.close_single hb he1
        have := cutLen c.s (st.a + 1) (e - 1)
        injection h with h; subst h; exact wt_leaf (by omega) (by omega)
    split at h
    · split at h
      · cases h
      split at h
      · cases h
      · rename_i ps e hn
        obtain ⟨h5, h6⟩ := hN ⟨c.s, 1, false, c.lv + 1, st.a⟩ (st.a + 1) _ _ rfl (show (0 : Int) ≤ (st.a : Int) by omega) (by omega) (by omega) hn
        obtain ⟨h7, h8⟩ := node 3 [] 0 false ps
        injection h with h; subst h; exact wt_add (by omega) (by rw [h8, List.length_nil]; omega)
    split at h
    · split at h
      · injection h with h; subst h; exact wt_lit _ _ (Nat.le_refl _)
      · cases h
    split at h
    · injection h with h; subst h; exact wt_leaf (by rw [List.length_nil]; omega) (by omega)
    · injection h with h; subst h; exact wt_lit _ _ (Nat.le_refl _)
  split at h
  · cases h
  · injection h with h
    subst h
    exact wt_lit (by8 (bt c.s st.a)) (m := 1) { st with dep := depth c st } (Nat.le_refl _)
theorem run_wt : ∀ (f : Nat) (c : Ctx) (st st' : St), Inv c st → run f c st = .ok st' → Wt st st' ∧ st'.a ≤ c.s.length := by
  intro f
  induction f using Nat.strongRecOn with
  | ind f ih =>
    intro c st st' hi h
    cases f with
    | zero => rw [run] at h; cases h
    | succ f =>
      rw [run_succ] at h
      cases he : ended c st with
      | error y => rw [he] at h; cases h
      | ok b =>
        rw [he] at h
        cases b with
        | true =>
          injection h with h
          subst h
          obtain ⟨h1, h2, -⟩ := flush_w st
          have := flush_a' st
          have := hi.le
          exact ⟨⟨by omega, by omega⟩, by omega⟩
        | false =>
          dsimp only at h
          have hlt : st.a < c.s.length := by
            rcases Nat.lt_or_ge st.a c.s.length with h' | h'
            · exact h'
            · have := hi.le
              unfold ended at he
              rw [if_pos (by omega)] at he
              split at he <;> cases he
          have hN : WtN c.s (st.a + 1) (nest f) := by
            intro c' k ps e hc _ _ hk hn
            unfold nest at hn
            cases hr : run f c' ⟨k, 0, [], []⟩ with
            | error z => rw [hr] at hn; cases hn
            | ok z =>
              rw [hr] at hn
              injection hn with hn
              injection hn with h1 h2
              obtain ⟨⟨h3, h4⟩, -⟩ := ih f (Nat.lt_succ_self _) c' ⟨k, 0, [], []⟩ z ⟨by rw [hc]; exact hk, by simp, by simp⟩ hr
              rw [← h1, ← h2]
              have e1 : wc ⟨k, 0, [], []⟩ = 0 := rfl
              have e2 : ws ⟨k, 0, [], []⟩ = 0 := rfl
              rw [e1] at h3
              rw [e2] at h4
              unfold wc at h3
              unfold ws at h4
              dsimp only at h3 h4
              exact ⟨by omega, by omega⟩
          cases hn : next (nest f) c st with
          | error y => rw [hn] at h; cases h
          | ok y =>
            rw [hn] at h
            have hg := next_good (nest_good f c.s) hi hlt hn
            obtain ⟨h1, h2⟩ := next_wt hN hlt hn
            obtain ⟨⟨h3, h4⟩, h5⟩ := ih f (Nat.lt_succ_self _) c y st' hg.2 h
            exact ⟨⟨by omega, by omega⟩, h5⟩
/-- What Parse gives is no more, and no longer, than its source. -/
theorem parse_wt {s : Str} {pl : Nat} {ps : List Part} (h : parse s pl = .ok ps) : cntL (gpL ps) ≤ s.length ∧ sizL (gpL ps) ≤ s.length := by
  unfold parse at h
  split at h
  · cases h
  · cases hr : run (s.length + 1) ⟨s, pl, false, 1, -1⟩ ⟨0, 0, [], []⟩ with
    | error y => rw [hr] at h; cases h
    | ok y =>
      rw [hr] at h
      injection h with h
      subst h
      obtain ⟨⟨h1, h2⟩, hle⟩ := run_wt _ _ _ _ ⟨Nat.zero_le _, by simp, Nat.le_refl _⟩ hr
      replace hle : y.a ≤ s.length := hle
      have e1 : wc ⟨0, 0, [], []⟩ = 0 := rfl
      have e2 : ws ⟨0, 0, [], []⟩ = 0 := rfl
      rw [e1] at h1
      rw [e2] at h2
      unfold wc at h1
      unfold ws at h2
      dsimp only at h1 h2
      exact ⟨by omega, by omega⟩
end WP
end Go.Proofs.Ytijibooneochjaa
