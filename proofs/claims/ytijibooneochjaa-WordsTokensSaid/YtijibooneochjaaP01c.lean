/- Chapter 1 in plain Lean: quoting and unquoting invert each other; escapes likewise. -/
import Derived.Test.YtijibooneochjaaP01b
namespace Go.Proofs.Ytijibooneochjaa
open K
namespace P

/-! ### Unquote without fuel -/
theorem sq_lt {r : List UInt8} : ∀ {acc a s : List UInt8}, sq acc r = some (a, s) → s.length < r.length := by
  induction r with
  | nil => intro acc a s h; simp [sq] at h
  | cons x r ih =>
    intro acc a s h
    by_cases hx : iv x = 39
    · rw [sq_hit hx] at h; simp at h; simp [h.2]
    · rw [sq_miss hx] at h; have := ih h; simp; omega
theorem dq_lt_aux : ∀ (n : Nat) (r : List UInt8), r.length ≤ n → ∀ acc a s, dq acc r = .ok (a, s) → s.length < r.length := by
  intro n
  induction n with
  | zero =>
    intro r h acc a s hz
    have : r = [] := List.eq_nil_of_length_eq_zero (by omega)
    subst this
    simp [dq] at hz
  | succ n ih =>
    intro r h acc a s hz
    match r, h with
    | [], _ => simp [dq] at hz
    | x :: r, h =>
      by_cases h1 : iv x = 34
      · rw [dq_close h1] at hz; simp at hz; simp [hz.2]
      by_cases h2 : iv x = 36 ∨ iv x = 96
      · rw [dq_bad h2] at hz; simp at hz
      by_cases h4 : iv x = 92
      · match r, h with
        | [], _ => rw [dq_lone h4] at hz; simp at hz
        | y :: r, h => rw [dq_esc h4] at hz; have := ih r (by simp at h; omega) _ _ _ hz; simp; omega
      · rw [dq_other h1 (by omega) (by omega) h4] at hz; have := ih r (by simp at h; omega) _ _ _ hz; simp; omega
theorem piece_lt {l acc a s : List UInt8} (hl : l ≠ []) (h : piece acc l = .ok (a, s)) : s.length < l.length := by
  match l, hl with
  | x :: r, _ =>
    by_cases h1 : iv x = 39
    · rw [piece_sq h1] at h
      cases hs : sq acc r with
      | none => rw [hs] at h; simp [ofSq] at h
      | some p =>
        rw [hs] at h; simp [ofSq] at h
        have := sq_lt (a := a) (s := s) (by rw [hs, h])
        simp; omega
    by_cases h2 : iv x = 34
    · rw [piece_dq h2] at h; have := dq_lt_aux r.length r (Nat.le_refl _) _ _ _ h; simp; omega
    by_cases h3 : iv x = 92
    · cases r with
      | nil => rw [piece_lone h3] at h; simp at h
      | cons y r => rw [piece_esc h3] at h; simp at h; simp [← h.2]; omega
    cases h4 : stop (iv x)
    · rw [piece_one h4 h1 h2 h3] at h; simp at h; simp [← h.2]
    · rw [piece_stop h4 h1 h2 h3] at h; simp at h
theorem unq_more : ∀ (n : Nat) (l acc : List UInt8), l.length ≤ n → unq (n + 1) acc l = unq n acc l := by
  intro n
  induction n with
  | zero =>
    intro l acc h
    have : l = [] := List.eq_nil_of_length_eq_zero (by omega)
    subst this; rfl
  | succ n ih =>
    intro l acc h
    by_cases hl : l = []
    · subst hl; rw [unq_nil, unq_nil]
    · cases hp : piece acc l with
      | ok p =>
        obtain ⟨a, r⟩ := p
        have := piece_lt hl hp
        rw [unq_ok hl hp, unq_ok hl hp, ih r a (by omega)]
      | error z => rw [unq_error hl hp, unq_error hl hp]
theorem unq_fuel (l acc : List UInt8) : ∀ k, unq (l.length + k) acc l = unq l.length acc l
  | 0 => rfl
  | k + 1 => by rw [← unq_fuel l acc k, ← unq_more (l.length + k) l acc (by omega)]; rfl
def U (acc l : List UInt8) : Except Int (List UInt8) := unq l.length acc l
theorem U_nil (acc : List UInt8) : U acc [] = .ok acc := rfl
theorem U_ok {acc l a r : List UInt8} (hl : l ≠ []) (h : piece acc l = .ok (a, r)) : U acc l = U a r := by
  have hlt := piece_lt hl h
  obtain ⟨k, hk⟩ : ∃ k, l.length = (r.length + k) + 1 := ⟨l.length - r.length - 1, by omega⟩
  unfold U
  rw [hk, unq_ok hl h, unq_fuel]
theorem unquote_U (l : List UInt8) : unquote l = U [] l := rfl

/-! ### Quote and Unquote -/
theorem pl_small : ∀ n : Nat, n < 256 → pl n = true → (stop n = false ∧ n ≠ 39 ∧ n ≠ 34 ∧ n ≠ 92) := by decide +kernel
theorem pl_free {x : UInt8} (h : pl (iv x) = true) : stop (iv x) = false ∧ iv x ≠ 39 ∧ iv x ≠ 34 ∧ iv x ≠ 92 := by
  have := pl_small x.toNat x.toNat_lt h
  unfold iv
  refine ⟨this.1, ?_, ?_, ?_⟩ <;> omega
theorem U_plain (s : List UInt8) : ∀ acc r, s.all (fun x => pl (iv x)) = true → U acc (s ++ r) = U (acc ++ s) r := by
  induction s with
  | nil => intro acc r _; simp
  | cons x s ih =>
    intro acc r h
    rw [List.all_cons, Bool.and_eq_true] at h
    obtain ⟨h1, h2, h3, h4⟩ := pl_free h.1
    rw [List.cons_append, U_ok (by simp) (piece_one h1 h2 h3 h4), ih _ _ h.2]
    simp
theorem U_single (s : List UInt8) : ∀ acc r, U acc (39 :: (quoteBody s ++ 39 :: r)) = U (acc ++ s) r := by
  have open39 : ∀ (acc l a r : List UInt8), sq acc l = some (a, r) → U acc (39 :: l) = U a r := by
    intro acc l a r h
    exact U_ok (by simp) (by rw [piece_sq (by rfl), h]; rfl)
  induction s with
  | nil =>
    intro acc r
    rw [show quoteBody [] ++ 39 :: r = 39 :: r from rfl, open39 acc (39 :: r) acc r (sq_hit (x := 39) rfl)]; simp
  | cons x s ih =>
    intro acc r
    by_cases hx : iv x = 39
    · have hx' : x = 39 := iv_eq (n := 39) (by omega) hx
      subst hx'
      rw [show quoteBody (39 :: s) = [39, 92, 39, 39] ++ quoteBody s from rfl]
      simp only [List.cons_append, List.nil_append]
      rw [open39 acc _ acc (92 :: 39 :: 39 :: (quoteBody s ++ 39 :: r)) (sq_hit rfl)]
      rw [U_ok (a := acc ++ [39]) (r := 39 :: (quoteBody s ++ 39 :: r)) (by simp) (by rw [piece_esc (by rfl)]; rfl)]
      rw [ih]; simp
    · have e : quoteBody (x :: s) = x :: quoteBody s := by
        rw [quoteBody, if_neg (by simpa using hx)]; rfl
      rw [e, List.cons_append]
      have := ih (acc ++ [x]) r
      rw [List.append_assoc, List.singleton_append] at this
      rw [← this]
      have hs : sq acc (x :: (quoteBody s ++ 39 :: r)) = sq (acc ++ [x]) (quoteBody s ++ 39 :: r) := sq_miss hx
      cases hq : sq (acc ++ [x]) (quoteBody s ++ 39 :: r) with
      | none => exact absurd hq (sq_found s _ r)
      | some p => rw [open39 acc _ p.1 p.2 (by rw [hs, hq]), open39 (acc ++ [x]) _ p.1 p.2 hq]
where
  sq_found (s : List UInt8) (acc r : List UInt8) : sq acc (quoteBody s ++ 39 :: r) ≠ none := by
    induction s generalizing acc with
    | nil => rw [show quoteBody [] ++ 39 :: r = 39 :: r from rfl, sq_hit rfl]; simp
    | cons x s ih =>
      by_cases hx : iv x = 39
      · rw [quoteBody, if_pos (by simpa using hx)]
        simp only [List.cons_append]
        rw [sq_hit rfl]; simp
      · rw [quoteBody, if_neg (by simpa using hx)]
        simp only [List.cons_append, List.nil_append]
        rw [sq_miss hx]
        exact ih _
theorem U_quote (s acc r : List UInt8) : U acc (quote s ++ r) = U (acc ++ s) r := by
  unfold quote
  by_cases h : plainB s = true
  · rw [if_pos h]
    unfold plainB at h
    rw [Bool.and_eq_true] at h
    exact U_plain s acc r h.1
  · rw [if_neg h, List.cons_append, List.append_assoc]
    exact U_single s acc r
theorem back (s t : List UInt8) : unquote (quote s ++ quote t) = .ok (s ++ t) := by
  rw [unquote_U, U_quote]
  have := U_quote t ([] ++ s) []
  rw [List.append_nil] at this
  rw [this, U_nil]; simp
theorem quoteBody_ge (l : List UInt8) : l.length ≤ (quoteBody l).length := by
  induction l with
  | nil => simp [quoteBody]
  | cons x r ih => rw [quoteBody, List.length_append, List.length_cons]; split <;> simp <;> omega
theorem quote_iff (l : List UInt8) : (quote l == l) = plainB l := by
  unfold quote
  cases h : plainB l
  · simp only [Bool.false_eq_true, if_false]
    rw [beq_eq_false_iff_ne]
    intro e
    have := congrArg List.length e
    have h2 := quoteBody_ge l
    simp at this
    omega
  · simp

/-! ### Double quotes -/
def dqBody : List UInt8 → List UInt8
  | [] => []
  | x :: r => (if iv x == 36 || iv x == 96 || iv x == 34 || iv x == 92 then [92, x] else [x]) ++ dqBody r
theorem dqBody_le (l : List UInt8) : (dqBody l).length ≤ 2 * l.length := by
  induction l with
  | nil => simp [dqBody]
  | cons x r ih => rw [dqBody, List.length_append, List.length_cons]; split <;> simp <;> omega
theorem dq_body (s : List UInt8) : ∀ acc, dq acc (dqBody s ++ [34]) = .ok (acc ++ s, []) := by
  induction s with
  | nil => intro acc; rw [show dqBody [] ++ [34] = [34] from rfl, dq_close rfl]; simp
  | cons x s ih =>
    intro acc
    by_cases h : (iv x == 36 || iv x == 96 || iv x == 34 || iv x == 92) = true
    · rw [dqBody, if_pos h]
      simp only [List.cons_append, List.nil_append]
      rw [dq_esc (by rfl), ih, show dqEsc x = [x] by unfold dqEsc; rw [if_pos h]]
      simp
    · rw [dqBody, if_neg h]
      simp only [List.cons_append, List.nil_append]
      simp at h
      rw [dq_other (by omega) (by omega) (by omega) (by omega), ih]
      simp
theorem doubles (s : List UInt8) : unquote (34 :: (dqBody s ++ [34])) = .ok s := by
  rw [unquote_U, U_ok (a := s) (r := []) (by simp) (by rw [piece_dq (by rfl), dq_body]; rfl), U_nil]
end P
end Go.Proofs.Ytijibooneochjaa
