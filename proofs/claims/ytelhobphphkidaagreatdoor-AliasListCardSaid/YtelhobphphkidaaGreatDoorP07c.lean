/- Chapter 7 in plain Lean: every token but the last ends behind its beginning. -/
import Derived.Test.YtelhobphphkidaaGreatDoorP07b
namespace Go.Proofs.YtelhobphphkidaaGreatDoor
open K
namespace LX
theorem cut_one {s : Str} {p : Nat} {x : UInt8} (h : s.drop p = x :: s.drop (p + 1)) : cut s p (p + 1) = [x] := by
  unfold cut
  rw [List.drop_take, h, show p + 1 - p = 1 by omega]
  rfl
theorem opFrom_one {s : Str} {a : Nat} (h : isOp (cut s a (a + 1)) = true) : ∀ n, 1 ≤ n → 0 < opFrom s a n
  | 0, h0 => absurd h0 (by omega)
  | 1, _ => by rw [opFrom, if_pos (by exact h)]; omega
  | n + 2, _ => by
    rw [opFrom]
    split
    · omega
    · exact opFrom_one h (n + 1) (by omega)
theorem op_small : ∀ n : Nat, n < 256 → divides (n : Int) = true → blank (n : Int) = false → isOp [n.toUInt8] = true := by decide +kernel
theorem opLen_pos {s : Str} {p : Nat} (hp : p < s.length) (h1 : divides (bt s p) = true) (h2 : blank (bt s p) = false) : 0 < opLen s p := by
  obtain ⟨x, hx, hb, -⟩ := drop_cons s p hp
  rw [hb] at h1 h2
  have h3 := op_small x.toNat (UInt8.toNat_lt x) h1 h2
  rw [show x.toNat.toUInt8 = x from UInt8.ofNat_toNat] at h3
  refine opFrom_one ?_ _ (by omega)
  rw [cut_one hx]
  exact h3
/-- A word that begins at a byte that divides none ends behind it. -/
theorem word_lt {s : Str} {p : Nat} (hp : p < s.length) (hd : divides (bt s p) = false) (h : (wordEnd s p).2 = 0) : p < (wordEnd s p).1 := by
  unfold wordEnd at h ⊢
  rw [word, if_pos ⟨hp, hd⟩] at h ⊢
  by_cases hb : begins s p = true
  · rw [if_pos hb] at h ⊢
    have hg := construct_good (q := false) (d := false) hp hb
    unfold thn at h ⊢
    by_cases he : (construct s p false false).2 = 0
    · rw [if_pos he] at h ⊢
      have h1 := (word_good s.length s _ hg.1).2.1 h
      have h2 := hg.2.1 he
      show p < (word s.length s (construct s p false false).1).1
      omega
    · rw [if_neg he] at h
      exact absurd h he
  · rw [if_neg hb] at h ⊢
    have h1 := (word_good s.length s (p + 1) (by omega)).2.1 h
    omega
/-- A token that is not the end takes more than nothing. -/
theorem next_far {s : Str} {a : Nat} {t : Tok} (ha : a ≤ s.length) (h : next s a = (t, 0)) : t.kind = 5 ∨ (a < t.stop ∧ t.stop ≤ s.length) := by
  unfold next at h
  split at h
  · simp at h
  have hle := skipTo_le ha
  have hge := skipTo_ge s a
  have hat := skipTo_at ha
  generalize skipTo s a = p at h hle hge hat
  unfold nextAt at h
  split at h
  · left
    have := congrArg Prod.fst h
    dsimp only at this
    rw [← this]
  rename_i hne
  have hlt : p < s.length := by omega
  obtain ⟨hbl, -, -⟩ := hat hlt
  right
  split at h
  · have := congrArg Prod.fst h
    dsimp only at this
    rw [← this]
    show a < p + 1 ∧ p + 1 ≤ s.length
    omega
  split at h
  · rename_i ho
    have := congrArg Prod.fst h
    dsimp only at this
    rw [← this]
    show a < p + opLen s p ∧ p + opLen s p ≤ s.length
    have := opFrom_le s p (min 3 (s.length - p))
    unfold opLen at ho ⊢
    omega
  · rename_i ho
    unfold nextW at h
    split at h
    · rename_i he
      have := congrArg Prod.fst h
      dsimp only at this
      rw [← this]
      show a < (wordEnd s p).1 ∧ (wordEnd s p).1 ≤ s.length
      have h1 := word_lt hlt (by
        cases hd : divides (bt s p) with
        | false => rfl
        | true => exact absurd (opLen_pos hlt hd hbl) ho) he
      have h2 := (word_good (s.length + 1) s p hle).1
      exact ⟨by omega, h2⟩
    · rename_i he
      exact absurd (congrArg Prod.snd h) he
end LX
end Go.Proofs.YtelhobphphkidaaGreatDoor
