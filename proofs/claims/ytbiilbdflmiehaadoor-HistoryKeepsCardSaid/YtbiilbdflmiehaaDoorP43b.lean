/- Chapter 43 in plain Lean: prefixes and substrings, the library's words and the reference's. -/
import Derived.Test.YtbiilbdflmiehaaDoorP43
import Derived.Lib.Strings
import Derived.Lib.IndexMore
import Derived.Lib.ItoaNum
namespace Go.Proofs.YtbiilbdflmiehaaDoor
open K
namespace P

theorem begins_eq (s t : List UInt8) : Lib.hasPrefix s t = begins s t := by
  unfold Lib.hasPrefix begins
  rw [Bool.eq_iff_iff]
  simp only [List.isPrefixOf_iff_prefix, Bool.and_eq_true, decide_eq_true_eq, beq_iff_eq]
  constructor
  · intro h
    exact ⟨h.length_le, (List.prefix_iff_eq_take.1 h).symm⟩
  · rintro ⟨_, h⟩
    rw [List.prefix_iff_eq_take]
    exact h.symm
theorem cut_drop (s : List UInt8) (i n : Nat) : cut s i (i + n) = (s.drop i).take n := by
  unfold cut; rw [List.drop_take]; simp
theorem containsAt_eq (s t : List UInt8) : ∀ (d i f : Nat), i + d = s.length → d + 1 ≤ f → containsAt s t f i = decide (0 ≤ Lib.index (s.drop i) t)
  | 0, i, f, hi, hf => by
    obtain ⟨f, rfl⟩ : ∃ g, f = g + 1 := ⟨f - 1, by omega⟩
    rw [List.drop_eq_nil_of_le (by omega), containsAt]
    cases t with
    | nil => rw [if_pos (by simp; omega)]; simp [cut, Lib.index]
    | cons y t => rw [if_neg (by simp; omega)]; simp [Lib.index]
  | d + 1, i, f, hi, hf => by
    obtain ⟨f, rfl⟩ : ∃ g, f = g + 1 := ⟨f - 1, by omega⟩
    have ih := containsAt_eq s t d (i + 1) f (by omega) (by omega)
    have hlt : i < s.length := by omega
    have hdr : s.drop i = s[i] :: s.drop (i + 1) := List.drop_eq_getElem_cons hlt
    have hix : decide (0 ≤ Lib.index (s.drop i) t) = (t.isPrefixOf (s.drop i) || decide (0 ≤ Lib.index (s.drop (i + 1)) t)) := by
      rw [hdr, Lib.index]
      cases hp : t.isPrefixOf (s[i] :: s.drop (i + 1))
      · simp only [Bool.false_eq_true, if_false, Bool.false_or]
        have hge := Lib.index_ge (s.drop (i + 1)) t
        by_cases hm : Lib.index (s.drop (i + 1)) t = -1
        · simp [hm]
        · have e1 : (Lib.index (s.drop (i + 1)) t == -1) = false := by simpa using hm
          rw [e1]; simp; omega
      · simp
    have hpre : t.isPrefixOf (s.drop i) = begins (s.drop i) t := begins_eq _ _
    rw [hix, ← ih, containsAt, hpre]
    by_cases hg : i + t.length ≤ s.length
    · rw [if_pos hg, cut_drop]
      unfold begins
      have : decide (t.length ≤ (s.drop i).length) = true := by simp; omega
      rw [this, Bool.true_and]
    · rw [if_neg hg]
      have h1 : begins (s.drop i) t = false := by unfold begins; simp; omega
      have h2 : containsAt s t f (i + 1) = false := by
        cases f with
        | zero => rfl
        | succ g => rw [containsAt, if_neg (by omega)]
      rw [h1, h2]; rfl
theorem contains_eq (s t : List UInt8) : Lib.contains s t = contains s t := by
  unfold Lib.contains contains
  exact (containsAt_eq s t s.length 0 (s.length + 1) (by omega) (by omega)).symm
theorem findH_shift (p : List UInt8 → Bool) (first : Int) (ls : List (List UInt8)) : ∀ k, findH p first ls k = (findH p 1 ls k).map fun q => first + (q - 1)
  | 0 => rfl
  | k + 1 => by
    rw [findH, findH, findH_shift p first ls k]
    split
    · simp; omega
    · rfl
theorem findH_range (p : List UInt8 → Bool) (ls : List (List UInt8)) : ∀ k, ∀ q, findH p 1 ls k = some q → 1 ≤ q ∧ q ≤ k
  | 0, q, h => by simp [findH] at h
  | k + 1, q, h => by
    rw [findH] at h
    split at h
    · simp at h; omega
    · have := findH_range p ls k q h; omega
def saveLines : List (List UInt8) → List UInt8
  | [] => []
  | s :: r => s ++ 10 :: saveLines r
def saveH (first : Int) (ls : List (List UInt8)) : List UInt8 := Lib.itoa first ++ 10 :: saveLines ls
def total : List (List UInt8) → Nat
  | [] => 0
  | s :: r => s.length + 1 + total r
theorem total_take (ls : List (List UInt8)) (k : Nat) (h : k < ls.length) : total (ls.take (k + 1)) = total (ls.take k) + (ls.getD k []).length + 1 := by
  induction ls generalizing k with
  | nil => simp at h
  | cons s r ih =>
    cases k with
    | zero => simp [total]
    | succ k => simp at h; have := ih k h; simp [total] at this ⊢; omega
theorem total_le (ls : List (List UInt8)) (k : Nat) : total (ls.take k) ≤ total ls := by
  induction ls generalizing k with
  | nil => simp [total]
  | cons s r ih => cases k with
    | zero => simp [total]
    | succ k => have := ih k; simp [total]; omega
theorem itoa_len (n : Int) (h1 : 0 ≤ n) (h2 : n ≤ 2147483647) : (Lib.itoa n).length ≤ 10 := by
  unfold Lib.itoa
  rw [if_neg (by omega), Lib.decDigits_length]
  have : n.toNat ≤ 2147483647 := by omega
  exact nDigits_le 9 _ (by omega)
where
  nDigits_le : ∀ (k u : Nat), u < 10 ^ (k + 1) → Lib.nDigits u ≤ k + 1
    | 0, u, h => by rw [Lib.nDigits_small (by simpa using h)]; omega
    | k + 1, u, h => by
      by_cases hu : u < 10
      · rw [Lib.nDigits_small hu]; omega
      · rw [Lib.nDigits_big hu]
        have := nDigits_le k (u / 10) (by rw [Nat.div_lt_iff_lt_mul (by omega), ← Nat.pow_succ]; exact h)
        omega
end P
end Go.Proofs.YtbiilbdflmiehaaDoor
