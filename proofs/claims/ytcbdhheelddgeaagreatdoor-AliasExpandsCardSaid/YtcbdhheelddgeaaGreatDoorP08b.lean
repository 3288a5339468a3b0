/- Chapter 8 in plain Lean: how far the parser goes. -/
import Derived.Test.YtcbdhheelddgeaaGreatDoorP08
namespace Go.Proofs.YtcbdhheelddgeaaGreatDoor
open K
namespace LX
theorem bkq_far : ∀ (f : Nat) (s : Str) (a i e : Nat), bkq f s a i = (e, 0) → i < e
  | 0, s, a, i, e, h => by rw [bkq] at h; simp at h
  | f + 1, s, a, i, e, h => by
    rw [bkq] at h
    by_cases hi : i < s.length
    · rw [if_pos hi] at h
      by_cases h1 : bt s i = 96
      · rw [if_pos h1] at h; have := congrArg Prod.fst h; dsimp only at this; omega
      · rw [if_neg h1] at h
        by_cases h2 : bt s i = 92
        · rw [if_pos h2] at h
          by_cases h3 : i + 1 = s.length
          · rw [if_pos h3] at h; simp at h
          · rw [if_neg h3] at h; have := bkq_far f s a _ e h; omega
        · rw [if_neg h2] at h; have := bkq_far f s a _ e h; omega
    · rw [if_neg hi] at h; simp at h
theorem thn_ok {r : Nat × Int} {k : Nat → Nat × Int} {e : Nat} (h : thn r k = (e, 0)) : r.2 = 0 ∧ k r.1 = (e, 0) := by
  unfold thn at h
  by_cases h0 : r.2 = 0
  · rw [if_pos h0] at h; exact ⟨h0, h⟩
  · rw [if_neg h0] at h; exact absurd (congrArg Prod.snd h) h0
theorem cmd_far : ∀ (f : Nat) (s : Str) (a i n : Nat) (b : Bool) (e : Nat), cmd f s a i n b = (e, 0) → i < e
  | 0, s, a, i, n, b, e, h => by rw [cmd] at h; simp at h
  | f + 1, s, a, i, n, b, e, h => by
    rw [cmd] at h
    by_cases hi : i < s.length
    · rw [if_pos hi] at h
      by_cases h1 : joins s i = true
      · rw [if_pos h1] at h; have := cmd_far f s a _ _ _ e h; omega
      rw [if_neg h1] at h
      by_cases h2 : bt s i = 35 ∧ b = true
      · rw [if_pos h2] at h; have := cmd_far f s a _ _ _ e h; have := comment_lt hi (by rw [h2.1]; decide); omega
      rw [if_neg h2] at h
      by_cases h3 : begins s i = true
      · rw [if_pos h3] at h
        obtain ⟨h4, h5⟩ := thn_ok h
        have := cmd_far f s a _ _ _ e h5
        have := ((good_all f).con s i false false hi h3).2.1 h4
        omega
      rw [if_neg h3] at h
      by_cases h4 : bt s i = 40
      · rw [if_pos h4] at h; have := cmd_far f s a _ _ _ e h; omega
      rw [if_neg h4] at h
      by_cases h5 : bt s i = 41 ∧ n = 0
      · rw [if_pos h5] at h; have := congrArg Prod.fst h; dsimp only at this; omega
      rw [if_neg h5] at h
      by_cases h6 : bt s i = 41
      · rw [if_pos h6] at h; have := cmd_far f s a _ _ _ e h; omega
      · rw [if_neg h6] at h; have := cmd_far f s a _ _ _ e h; omega
    · rw [if_neg hi] at h; simp at h
theorem close_ok {s : Str} {a e : Nat} (h : close s a = (e, 0)) : a < s.length ∧ begins s a = true ∧ construct s a false false = (e, 0) ∧ e ≤ s.length := by
  unfold close at h
  by_cases h1 : 16384 < s.length
  · rw [if_pos h1] at h; simp at h
  rw [if_neg h1] at h
  by_cases h2 : a < s.length ∧ begins s a = true
  · rw [if_pos h2] at h
    have := (construct_good (q := false) (d := false) h2.1 h2.2).1
    rw [h] at this
    exact ⟨h2.1, h2.2, h, this⟩
  · rw [if_neg h2] at h; simp at h
theorem construct_eq (s : Str) (a : Nat) (q d : Bool) : construct s a q d = con (3 * s.length + 2 + 1) s a q d := rfl
theorem close_single {s : Str} {a e : Nat} (hb : bt s a = 39) (h : close s a = (e, 0)) : a + 2 ≤ e := by
  obtain ⟨h1, h2, h3, -⟩ := close_ok h
  rw [construct_eq, con, if_neg (by rw [hb]; decide), if_pos hb] at h3
  split at h3
  · simp at h3
  · have := congrArg Prod.fst h3; dsimp only at this; omega
theorem close_back {s : Str} {a e : Nat} (hb : bt s a = 96) (h : close s a = (e, 0)) : a + 2 ≤ e := by
  obtain ⟨h1, h2, h3, -⟩ := close_ok h
  rw [construct_eq, con, if_neg (by rw [hb]; decide), if_neg (by rw [hb]; decide), if_neg (by rw [hb]; decide), if_pos hb] at h3
  have := bkq_far _ s a _ e h3
  omega
theorem close_cmd {s : Str} {a e : Nat} (hb : bt s a = 36) (h40 : bt s (a + 1) = 40) (hp : Lib.hasPrefix (s.drop a) [36, 40, 40] = false) (h : close s a = (e, 0)) : a + 3 ≤ e := by
  obtain ⟨h1, h2, h3, -⟩ := close_ok h
  rw [construct_eq, con, if_neg (by rw [hb]; decide), if_neg (by rw [hb]; decide), if_neg (by rw [hb]; decide), if_neg (by rw [hb]; decide), if_neg (by rw [hp]; simp), if_pos h40] at h3
  have := cmd_far _ s a _ _ _ e h3
  omega
theorem has1 {l : Str} {c : UInt8} (h : Lib.hasPrefix l [c] = true) : ∃ r, l = c :: r := by
  cases l with
  | nil => simp [Lib.hasPrefix] at h
  | cons x r => simp [Lib.hasPrefix] at h; exact ⟨r, by rw [h]⟩
theorem has2 {l : Str} {c d : UInt8} (h : Lib.hasPrefix l [c, d] = true) : ∃ r, l = c :: d :: r := by
  match l, h with
  | [], h => simp [Lib.hasPrefix] at h
  | [x], h => simp [Lib.hasPrefix] at h
  | x :: y :: r, h => simp [Lib.hasPrefix] at h; exact ⟨r, by rw [h.1, h.2]⟩
theorem drop_head {s : Str} {a : Nat} {c : UInt8} {r : Str} (h : s.drop a = c :: r) : a < s.length ∧ bt s a = (c.toNat : Int) ∧ s.drop (a + 1) = r := by
  have hl : a < s.length := by
    rcases Nat.lt_or_ge a s.length with h' | h'
    · exact h'
    · rw [List.drop_eq_nil_of_le h'] at h; cases h
  obtain ⟨x, hx, hb, _⟩ := drop_cons s a hl
  rw [hx] at h
  injection h with h1 h2
  exact ⟨hl, by rw [hb, h1], h2⟩
theorem has_not3 {s : Str} {a : Nat} (h : Lib.hasPrefix (s.drop (a + 1)) [40, 40] = false) : Lib.hasPrefix (s.drop a) [36, 40, 40] = false := by
  cases hp : Lib.hasPrefix (s.drop a) [36, 40, 40] with
  | false => rfl
  | true =>
    obtain ⟨h1, h2, h3, h4⟩ := has3 hp
    obtain ⟨x, hx, hbx, _⟩ := drop_cons s (a + 1) (by omega)
    obtain ⟨y, hy, hby, _⟩ := drop_cons s (a + 2) (by omega)
    obtain rfl : x = 40 := UInt8.toNat_inj.1 (by have e : ((x.toNat : Nat) : Int) = 40 := by rw [← hbx, h3]
                                                 show x.toNat = 40; omega)
    obtain rfl : y = 40 := UInt8.toNat_inj.1 (by have e : ((y.toNat : Nat) : Int) = 40 := by rw [← hby, h4]
                                                 show y.toNat = 40; omega)
    rw [hx, hy] at h
    simp [Lib.hasPrefix] at h
end LX
namespace WP
/-- What a reader of a construct's parts is good for. -/
def GoodN (s : Str) (N : Nest) : Prop := ∀ (c : Ctx) (k : Nat) (ps : List Part) (e : Nat), c.s = s → 0 ≤ c.opn → k ≤ s.length → N c k = .ok (ps, e) → k ≤ e ∧ e < s.length ∧ (c.pl = 2 → c.op = false → e + 1 < s.length)
structure Inv (c : Ctx) (st : St) : Prop where
  le : st.a ≤ c.s.length
  sum : st.ls.length + st.tx.length ≤ st.a
  dep : st.dep ≤ st.a
theorem flush_sum (st : St) : (flush st).ls.length ≤ st.ls.length + st.tx.length := by
  unfold flush
  split
  · omega
  · rename_i h
    have := List.length_pos_iff.2 h
    simp
    omega
theorem inv_add {c : Ctx} {st : St} (h : Inv c st) {p : Part} {k : Nat} (h1 : st.a < k) (h2 : k ≤ c.s.length) : st.a < (add p k st).a ∧ Inv c (add p k st) := by
  have hs := flush_sum st
  have h3 := h.sum
  have h4 := h.dep
  refine ⟨h1, h2, ?_, ?_⟩
  · show ((flush st).ls ++ [p]).length + (flush st).tx.length ≤ k
    have : (flush st).tx = [] := by unfold flush; split <;> first | assumption | rfl
    rw [this]
    simp
    omega
  · show (flush st).dep ≤ k
    have : (flush st).dep = st.dep := by unfold flush; split <;> rfl
    omega
theorem inv_lit {c : Ctx} {st : St} (h : Inv c st) {b : UInt8} {m : Nat} (h1 : 0 < m) (h2 : st.a + m ≤ c.s.length) : st.a < (lit b m st).a ∧ Inv c (lit b m st) := by
  have h3 := h.sum
  have h4 := h.dep
  refine ⟨show st.a < st.a + m by omega, h2, ?_, show st.dep ≤ st.a + m by omega⟩
  show st.ls.length + (st.tx ++ [b]).length ≤ st.a + m
  simp
  omega
theorem cls_le {s : Str} {a e : Nat} (h : cls s a = .ok e) : LX.close s a = (e, 0) ∧ e ≤ s.length := by
  unfold cls at h
  split at h
  · rename_i h0
    injection h with h
    have h2 : LX.close s a = (e, 0) := by rw [← h, ← h0]
    exact ⟨h2, (LX.close_ok h2).2.2.2⟩
  · cases h
theorem parameter_le' {s : Str} {i : Nat} (hi : i ≤ s.length) : i ≤ parameter s i ∧ parameter s i ≤ s.length := by
  have numLen_le' : ∀ (l : Str) (n : Int), numLen l n ≤ l.length := by
    intro l
    induction l with
    | nil => intro n; exact Nat.le_refl _
    | cons c r ih =>
      intro n
      rw [numLen]
      split
      · have := ih (10 * n + ((c.toNat : Int) - 48)); rw [List.length_cons]; omega
      · omega
  unfold parameter
  have h1 := LX.nameEnd_le s hi
  have h2 := numLen_le' (s.drop i) 0
  have h3 := LX.nameEnd_ge s i
  rw [List.length_drop] at h2
  repeat' split
  all_goals omega
theorem braced_good {N : Nest} {c : Ctx} {st : St} (hN : GoodN c.s N) (ha : st.a + 2 ≤ c.s.length) {p : Part} {e : Nat} (h : braced N c st = .ok (p, e)) : st.a < e ∧ e ≤ c.s.length := by
  unfold braced at h
  have hp := parameter_le' ha
  cases h1 : braced1 c st with
  | error x => rw [h1] at h; cases h
  | ok r =>
    rw [h1] at h
    cases r with
    | some r =>
      injection h with h
      unfold braced1 at h1
      split at h1
      · rename_i hc
        have hq := parameter_le' (s := c.s) (i := st.a + 3) (by omega)
        split at h1
        · cases h1
        · split at h1
          · cases h1
          · split at h1
            · injection h1 with h1
              injection h1 with h1
              rw [h] at h1
              have h5 := congrArg Prod.snd h1
              dsimp only at h5
              rename_i h6 _
              have : ¬ parameter c.s (st.a + 3) = c.s.length := h6
              omega
            · split at h1
              · cases h1
              · injection h1 with h1; cases h1
      · injection h1 with h1; cases h1
    | none =>
      dsimp only at h
      unfold braced2 at h
      have b3 : ∀ (k o z : Nat) (colon : Bool) (e' : Nat), braced3 N c st e' k o z colon = .ok (p, e) → st.a + 2 ≤ k → k + z ≤ c.s.length → st.a < e ∧ e ≤ c.s.length := by
        intro k o z colon e' hb hk hz
        unfold braced3 at hb
        split at hb
        · cases hb
        · split at hb
          · cases hb
          · split at hb
            · cases hb
            · split at hb
              · cases hb
              · rename_i ps j hn
                injection hb with hb
                have h5 := congrArg Prod.snd hb
                dsimp only at h5
                have h6 := hN ⟨c.s, c.pl, true, c.lv + 1, st.a⟩ _ _ _ rfl (show (0 : Int) ≤ (st.a : Int) by omega) hz hn
                omega
      have hop : ∀ (t : Str) (colon : Bool), (operator t colon).2 ≤ t.length := by
        intro t colon
        unfold operator
        have h22 : ∀ {a b : UInt8}, Lib.hasPrefix t [a, b] = true → 2 ≤ t.length := by
          intro a b hx
          obtain ⟨r, hr⟩ := LX.has2 hx
          rw [hr]
          simp
        by_cases h0 : t = []
        · rw [if_pos h0]; exact Nat.zero_le _
        · have := List.length_pos_iff.2 h0
          rw [if_neg h0]
          repeat' split
          all_goals first | omega | (dsimp only; omega) | exact h22 (by assumption)
      split at h
      · cases h
      · rename_i hne
        split at h
        · cases h
        · split at h
          · rename_i h125
            injection h with h
            have h5 := congrArg Prod.snd h
            dsimp only at h5
            obtain ⟨r, hr⟩ := LX.has1 h125
            have := (LX.drop_head hr).1
            omega
          · split at h
            · rename_i h58
              obtain ⟨r, hr⟩ := LX.has1 h58
              have h7 := (LX.drop_head hr).1
              have h8 := hop (c.s.drop (parameter c.s (st.a + 2) + 1)) true
              rw [List.length_drop] at h8
              exact b3 _ _ _ _ _ h (by omega) (by omega)
            · have h8 := hop (c.s.drop (parameter c.s (st.a + 2))) false
              rw [List.length_drop] at h8
              exact b3 _ _ _ _ _ h (by omega) (by omega)
theorem dollar_good {N : Nest} {c : Ctx} {st st' : St} (hN : GoodN c.s N) (hi : Inv c st) (ha : st.a < c.s.length) (hb : bt c.s st.a = 36) (h : dollar N c st = .ok st') : st.a < st'.a ∧ Inv c st' := by
  unfold dollar at h
  split at h
  · rename_i h40
    split at h
    · cases h
    · split at h
      · cases h
      · rename_i ps e hn
        injection h with h
        subst h
        obtain ⟨r, hr⟩ := LX.has2 h40
        have d1 := LX.drop_head hr
        have d2 := LX.drop_head d1.2.2
        have h6 := hN ⟨c.s, 2, false, c.lv + 1, st.a⟩ (st.a + 3) _ _ rfl (show (0 : Int) ≤ (st.a : Int) by omega) (by omega) hn
        have h7 := h6.2.2 rfl rfl
        exact inv_add hi (by omega) (by omega)
  · split at h
    · rename_i hn40 h40
      split at h
      · cases h
      · rename_i e he
        injection h with h
        subst h
        obtain ⟨he1, he2⟩ := cls_le he
        obtain ⟨r, hr⟩ := LX.has1 h40
        have d1 := LX.drop_head hr
        have := LX.close_cmd hb d1.2.1 (LX.has_not3 (by simpa using hn40)) he1
        exact inv_add hi (by omega) he2
    · split at h
      · rename_i h123
        split at h
        · cases h
        · rename_i p e hbr
          injection h with h
          subst h
          obtain ⟨r, hr⟩ := LX.has1 h123
          have d1 := LX.drop_head hr
          have h6 := braced_good hN (by omega) hbr
          exact inv_add hi h6.1 h6.2
      · split at h
        · rename_i hd
          injection h with h
          subst h
          exact inv_add hi (by omega) (by omega)
        · split at h
          · rename_i hp
            have hq := parameter_le' (s := c.s) (i := st.a + 1) (by omega)
            split at h
            · cases h
            · injection h with h
              subst h
              exact inv_add hi (by omega) hq.2
          · split at h
            · cases h
            · injection h with h
              subst h
              exact inv_lit hi (by decide) (by omega)
theorem next_good {N : Nest} {c : Ctx} {st st' : St} (hN : GoodN c.s N) (hi : Inv c st) (ha : st.a < c.s.length) (h : next N c st = .ok st') : st.a < st'.a ∧ Inv c st' := by
  unfold next at h
  split at h
  · unfold backslash at h
    split at h
    · split at h
      · injection h with h; subst h; exact inv_lit hi (by decide) (by omega)
      · cases h
    · have ha2 : st.a + 2 ≤ c.s.length := by omega
      split at h
      · injection h with h
        subst h
        have h3 := hi.sum
        have h4 := hi.dep
        exact ⟨show st.a < st.a + 2 by omega, ha2, show st.ls.length + st.tx.length ≤ st.a + 2 by omega, show st.dep ≤ st.a + 2 by omega⟩
      · split at h
        · injection h with h; subst h; exact inv_add hi (by omega) ha2
        · split at h
          · injection h with h; subst h; exact inv_lit hi (by decide) ha2
          · split at h
            · cases h
            · injection h with h
              subst h
              have h1 := inv_lit hi (b := 92) (m := 1) (by decide) (by omega)
              have h2 := inv_lit h1.2 (b := by8 (bt c.s (st.a + 1))) (m := 1) (by decide) (show st.a + 1 + 1 ≤ _ by omega)
              exact ⟨Nat.lt_trans h1.1 h2.1, h2.2⟩
  · split at h
    · rename_i hb; exact dollar_good hN hi ha hb h
    · split at h
      · rename_i hb
        unfold backquoted at h
        split at h
        · cases h
        · rename_i e he
          obtain ⟨he1, he2⟩ := cls_le he
          have := LX.close_back hb he1
          split at h
          · injection h with h; subst h; exact inv_add hi (by omega) he2
          · split at h
            · injection h with h; subst h; exact inv_add hi (by omega) he2
            · cases h
      · split at h
        · unfold unquoted at h
          split at h
          · rename_i hb
            split at h
            · cases h
            · rename_i e he
              obtain ⟨he1, he2⟩ := cls_le he
              have := LX.close_single hb he1
              injection h with h; subst h; exact inv_add hi (by omega) he2
          · split at h
            · split at h
              · cases h
              · split at h
                · cases h
                · rename_i ps e hn
                  have h6 := hN ⟨c.s, 1, false, c.lv + 1, st.a⟩ (st.a + 1) _ _ rfl (show (0 : Int) ≤ (st.a : Int) by omega) (by omega) hn
                  injection h with h; subst h; exact inv_add hi (by omega) (by omega)
            · split at h
              · split at h
                · injection h with h; subst h; exact inv_lit hi (by decide) (by omega)
                · cases h
              · split at h
                · injection h with h; subst h; exact inv_add hi (by omega) (by omega)
                · injection h with h; subst h; exact inv_lit hi (by decide) (by omega)
        · split at h
          · cases h
          · injection h with h
            subst h
            have h3 := hi.sum
            have h4 := hi.dep
            have hd : depth c st ≤ st.a + 1 := by unfold depth; repeat' split
                                                  all_goals omega
            refine ⟨show st.a < st.a + 1 by omega, show st.a + 1 ≤ _ by omega, ?_, show depth c st ≤ st.a + 1 from hd⟩
            show st.ls.length + (st.tx ++ [_]).length ≤ st.a + 1
            simp
            omega
theorem ended_true {c : Ctx} {st : St} (h : ended c st = .ok true) (ho : 0 ≤ c.opn) (hle : st.a ≤ c.s.length) : st.a < c.s.length ∧ (c.pl = 2 → c.op = false → st.a + 1 < c.s.length) := by
  unfold ended at h
  split at h
  · first | cases h | (rw [if_pos ho] at h; cases h)
  · rename_i hne
    refine ⟨by omega, fun h2 hop => ?_⟩
    rw [hop, if_neg (by simp), h2, if_neg (by decide)] at h
    split at h
    · split at h
      · cases h
      · rename_i h5; omega
    · cases h
theorem flush_a' (st : St) : (flush st).a = st.a := by unfold flush; split <;> rfl
theorem run_good : ∀ (f : Nat) (c : Ctx) (st st' : St), Inv c st → 0 ≤ c.opn → run f c st = .ok st' → st.a ≤ st'.a ∧ st'.a < c.s.length ∧ (c.pl = 2 → c.op = false → st'.a + 1 < c.s.length)
  | 0, c, st, st', _, _, h => by rw [run] at h; cases h
  | f + 1, c, st, st', hi, ho, h => by
    rw [run_succ] at h
    split at h
    · cases h
    · rename_i he
      injection h with h
      subst h
      rw [flush_a']
      have := ended_true he ho hi.le
      exact ⟨Nat.le_refl _, this⟩
    · rename_i he
      split at h
      · cases h
      · rename_i y hy
        have hN : GoodN c.s (nest f) := by
          intro c' k ps e hc hop hk hn
          unfold nest at hn
          split at hn
          · cases hn
          · rename_i z hz
            injection hn with hn
            injection hn with hn1 hn2
            have := run_good f c' ⟨k, 0, [], []⟩ z ⟨by rw [hc]; exact hk, by simp, by simp⟩ hop hz
            rw [hc, hn2] at this
            exact this
        have hlt : st.a < c.s.length := by
          rcases Nat.lt_or_ge st.a c.s.length with h' | h'
          · exact h'
          · have := hi.le
            unfold ended at he
            rw [if_pos (by omega), if_pos ho] at he
            cases he
        have h1 := next_good hN hi hlt hy
        have h2 := run_good f c y st' h1.2 ho h
        exact ⟨by omega, h2.2⟩
theorem nest_good (f : Nat) (s : Str) : GoodN s (nest f) := by
  intro c' k ps e hc hop hk hn
  unfold nest at hn
  split at hn
  · cases hn
  · rename_i z hz
    injection hn with hn
    injection hn with hn1 hn2
    have := run_good f c' ⟨k, 0, [], []⟩ z ⟨by rw [hc]; exact hk, by simp, by simp⟩ hop hz
    rw [hc, hn2] at this
    exact this
end WP
end Go.Proofs.YtcbdhheelddgeaaGreatDoor
