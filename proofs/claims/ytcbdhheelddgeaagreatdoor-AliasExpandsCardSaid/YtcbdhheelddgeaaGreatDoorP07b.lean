/- Chapter 7 in plain Lean: tokens. -/
import Derived.Test.YtcbdhheelddgeaaGreatDoorP07
namespace Go.Proofs.YtcbdhheelddgeaaGreatDoor
open K
namespace LX
def skip : Nat → Str → Nat → Nat
  | 0, _, i => i
  | f + 1, s, i =>
    if i < s.length then
      if blank (bt s i) = true then skip f s (i + 1)
      else if joins s i = true then skip f s (i + 2)
      else if bt s i = 35 then skip f s (comment s i)
      else i
    else i
theorem skip_ge : ∀ (f : Nat) (s : Str) (i : Nat), i ≤ skip f s i
  | 0, _, _ => Nat.le_refl _
  | f + 1, s, i => by
    rw [skip]
    split
    · rename_i hi
      split
      · exact Nat.le_trans (Nat.le_succ _) (skip_ge f s _)
      · split
        · exact Nat.le_trans (by omega) (skip_ge f s _)
        · split
          · rename_i h; exact Nat.le_trans (Nat.le_of_lt (comment_lt hi (by rw [h]; decide))) (skip_ge f s _)
          · exact Nat.le_refl _
    · exact Nat.le_refl _
theorem skip_le : ∀ (f : Nat) (s : Str) (i : Nat), i ≤ s.length → skip f s i ≤ s.length
  | 0, _, _, h => h
  | f + 1, s, i, h => by
    rw [skip]
    split
    · split
      · exact skip_le f s _ (by omega)
      · split
        · rename_i hj; exact skip_le f s _ (joins_iff.1 hj).2.2
        · split
          · exact skip_le f s _ (comment_le s i)
          · exact h
    · exact h
/-- Behind the blanks, comments and joined lines. -/
def skipTo (s : Str) (i : Nat) : Nat := skip (s.length + 1) s i
theorem skipTo_le {s : Str} {i : Nat} (h : i ≤ s.length) : skipTo s i ≤ s.length := skip_le _ s i h
theorem skipTo_ge (s : Str) (i : Nat) : i ≤ skipTo s i := skip_ge _ s i
theorem skip_more : ∀ (f g : Nat) (s : Str) (i : Nat), s.length - i + 1 ≤ f → s.length - i + 1 ≤ g → i ≤ s.length → skip f s i = skip g s i
  | 0, g, s, i, h, _, _ => absurd h (by omega)
  | f + 1, 0, s, i, _, h, _ => absurd h (by omega)
  | f + 1, g + 1, s, i, h1, h2, hi => by
    rw [skip, skip]
    by_cases hlt : i < s.length
    · rw [if_pos hlt, if_pos hlt]
      by_cases hb : blank (bt s i) = true
      · rw [if_pos hb, if_pos hb]; exact skip_more f g s _ (by omega) (by omega) (by omega)
      · rw [if_neg hb, if_neg hb]
        by_cases hj : joins s i = true
        · rw [if_pos hj, if_pos hj]; have := (joins_iff.1 hj).2.2; exact skip_more f g s _ (by omega) (by omega) this
        · rw [if_neg hj, if_neg hj]
          by_cases hc : bt s i = 35
          · rw [if_pos hc, if_pos hc]; have h3 := comment_lt hlt (by rw [hc]; decide); have h4 := comment_le s i; exact skip_more f g s _ (by omega) (by omega) h4
          · rw [if_neg hc, if_neg hc]
    · rw [if_neg hlt, if_neg hlt]
/-- What stands at the offset that skip gives. -/
theorem skip_at : ∀ (f : Nat) (s : Str) (i : Nat), s.length - i + 1 ≤ f → i ≤ s.length → skip f s i < s.length → blank (bt s (skip f s i)) = false ∧ joins s (skip f s i) = false ∧ ¬ bt s (skip f s i) = 35
  | 0, s, i, h, _, _ => absurd h (by omega)
  | f + 1, s, i, h1, hi, h => by
    rw [skip] at h ⊢
    by_cases hlt : i < s.length
    · rw [if_pos hlt] at h ⊢
      by_cases hb : blank (bt s i) = true
      · rw [if_pos hb] at h ⊢; exact skip_at f s _ (by omega) (by omega) h
      · rw [if_neg hb] at h ⊢
        by_cases hj : joins s i = true
        · rw [if_pos hj] at h ⊢; have := (joins_iff.1 hj).2.2; exact skip_at f s _ (by omega) this h
        · rw [if_neg hj] at h ⊢
          by_cases hc : bt s i = 35
          · rw [if_pos hc] at h ⊢; have h3 := comment_lt hlt (by rw [hc]; decide); exact skip_at f s _ (by omega) (comment_le s i) h
          · rw [if_neg hc] at h ⊢
            exact ⟨by simpa using hb, by simpa using hj, hc⟩
    · rw [if_neg hlt] at h
      exact absurd h hlt
theorem skipTo_at {s : Str} {i : Nat} (hi : i ≤ s.length) (h : skipTo s i < s.length) : blank (bt s (skipTo s i)) = false ∧ joins s (skipTo s i) = false ∧ ¬ bt s (skipTo s i) = 35 := skip_at _ s i (by omega) hi h
theorem skipTo_stop {s : Str} {i : Nat} (hi : i < s.length) (h1 : blank (bt s i) = false) (h2 : joins s i = false) (h3 : ¬ bt s i = 35) : skipTo s i = i := by
  unfold skipTo
  rw [skip, if_pos hi, if_neg (by rw [h1]; simp), if_neg (by rw [h2]; simp), if_neg h3]
theorem skipTo_end (s : Str) : skipTo s s.length = s.length := by unfold skipTo; rw [skip, if_neg (by omega)]
theorem skipTo_twice {s : Str} {i : Nat} (hi : i ≤ s.length) : skipTo s (skipTo s i) = skipTo s i := by
  rcases Nat.lt_or_ge (skipTo s i) s.length with h | h
  · obtain ⟨h1, h2, h3⟩ := skipTo_at hi h
    exact skipTo_stop h h1 h2 h3
  · have := skipTo_le hi
    rw [show skipTo s i = s.length by omega, skipTo_end]
def ops : List Str := [[38, 38], [124, 124], [59], [59, 59], [38], [124], [40], [41], [60], [62], [60, 60], [60, 60, 45], [62, 62], [60, 38], [62, 38], [60, 62], [62, 124], [10]]
def isOp (t : Str) : Bool := decide (t ∈ ops)
def opFrom (s : Str) (a : Nat) : Nat → Nat
  | 0 => 0
  | n + 1 => if isOp (cut s a (a + (n + 1))) = true then n + 1 else opFrom s a n
def opLen (s : Str) (a : Nat) : Nat := opFrom s a (min 3 (s.length - a))
theorem opFrom_pos {s : Str} {a n : Nat} (h : 0 < n) : opFrom s a n = if isOp (cut s a (a + n)) = true then n else opFrom s a (n - 1) := by
  obtain ⟨k, rfl⟩ : ∃ k, n = k + 1 := ⟨n - 1, by omega⟩
  rw [opFrom]; rfl
theorem opFrom_le (s : Str) (a : Nat) : ∀ n, opFrom s a n ≤ n
  | 0 => Nat.le_refl _
  | n + 1 => by
    rw [opFrom]
    split
    · exact Nat.le_refl _
    · exact Nat.le_trans (opFrom_le s a n) (by omega)
def word : Nat → Str → Nat → Nat × Int
  | 0, _, i => (i, 0)
  | f + 1, s, i =>
    if i < s.length ∧ divides (bt s i) = false then
      if begins s i = true then thn (construct s i false false) fun k => word f s k
      else word f s (i + 1)
    else (i, 0)
/-- A word's end lies behind its beginning or is it. -/
theorem word_good : ∀ (f : Nat) (s : Str) (i : Nat), i ≤ s.length → (word f s i).1 ≤ s.length ∧ ((word f s i).2 = 0 → i ≤ (word f s i).1) ∧ ((word f s i).2 = 0 ∨ (word f s i).2 = 6 ∨ (word f s i).2 = 7)
  | 0, s, i, h => ⟨h, fun _ => Nat.le_refl _, .inl rfl⟩
  | f + 1, s, i, h => by
    rw [word]
    by_cases hc : i < s.length ∧ divides (bt s i) = false
    · rw [if_pos hc]
      by_cases hb : begins s i = true
      · rw [if_pos hb]
        have hg := construct_good (q := false) (d := false) hc.1 hb
        unfold thn
        by_cases he : (construct s i false false).2 = 0
        · rw [if_pos he]
          have ih := word_good f s (construct s i false false).1 hg.1
          exact ⟨ih.1, fun e => by have h1 := ih.2.1 e; have h2 := hg.2.1 he; show i ≤ (word f s _).1; omega, ih.2.2⟩
        · rw [if_neg he]
          exact ⟨hg.1, fun e => absurd e he, hg.2.2⟩
      · rw [if_neg hb]
        have ih := word_good f s (i + 1) (by omega)
        exact ⟨ih.1, fun e => by have := ih.2.1 e; omega, ih.2.2⟩
    · rw [if_neg hc]
      exact ⟨h, fun _ => Nat.le_refl _, .inl rfl⟩
def wordEnd (s : Str) (i : Nat) : Nat × Int := word (s.length + 1) s i
def number (t : Str) : Bool := t.all fun c => digit (c.toNat : Int)
/-- A token: its kind, its offsets, its text. -/
structure Tok where
  kind : Nat
  pos : Nat
  stop : Nat
  text : Str
def tok (s : Str) (k p e : Nat) : Tok := ⟨k, p, e, cut s p e⟩
def nextW (s : Str) (p : Nat) : Tok × Int :=
  if (wordEnd s p).2 = 0 then
    (tok s (if (wordEnd s p).1 < s.length ∧ (bt s (wordEnd s p).1 = 60 ∨ bt s (wordEnd s p).1 = 62) ∧ number (cut s p (wordEnd s p).1) = true then 4 else 1) p (wordEnd s p).1, 0)
  else (⟨0, (wordEnd s p).1, 0, []⟩, (wordEnd s p).2)
def nextAt (s : Str) (p : Nat) : Tok × Int :=
  if p = s.length then (⟨5, p, p, []⟩, 0)
  else if bt s p = 10 then (tok s 3 p (p + 1), 0)
  else if 0 < opLen s p then (tok s 2 p (p + opLen s p), 0)
  else nextW s p
/-- An offset, limited to the string. -/
def clamp (s : Str) (x : Int) : Nat := (max 0 (min x (s.length : Int))).toNat
theorem clamp_le (s : Str) (x : Int) : clamp s x ≤ s.length := by unfold clamp; omega
theorem clamp_nat {s : Str} {a : Nat} (h : a ≤ s.length) : clamp s (a : Int) = a := by unfold clamp; omega
theorem clamp_eq (s : Str) (x : Int) : max 0 (min x (s.length : Int)) = (clamp s x : Int) := by unfold clamp; omega
def next (s : Str) (a : Nat) : Tok × Int := if 16384 < s.length then (⟨0, 0, 0, []⟩, 3) else nextAt s (skipTo s a)
end LX
end Go.Proofs.YtcbdhheelddgeaaGreatDoor
