/- Chapter 34 in plain Lean: the names of signals. -/
import Derived.Test.YtfigidknocpdaaaDoorK
import Derived.Lib.ItoaNum
namespace Go.Proofs.YtfigidknocpdaaaDoor
open K
namespace P

def names : List (List UInt8) := [[], [72, 85, 80], [73, 78, 84], [81, 85, 73, 84], [84, 84, 73, 78], [84, 84, 79, 85], [], [], [], [75, 73, 76, 76], [85, 83, 82, 49], [], [85, 83, 82, 50], [80, 73, 80, 69], [65, 76, 82, 77], [84, 69, 82, 77], [], [67, 72, 76, 68], [67, 79, 78, 84], [83, 84, 79, 80], [84, 83, 84, 80]]
theorem names_len : names.length = 21 := rfl
def nameL (n : Int) : List UInt8 := if 0 ≤ n ∧ n < 21 then names.getD n.toNat [] else []
theorem nameL_at (k : Nat) (h : k < 21) : nameL (k : Int) = names.getD k [] := by unfold nameL; rw [if_pos (by omega)]; rfl
theorem nameL_le (n : Int) : (nameL n).length ≤ 4 := by
  unfold nameL
  split
  · rename_i h
    obtain ⟨k, rfl⟩ := Int.eq_ofNat_of_zero_le h.1
    have hk : k < 21 := by omega
    have : ∀ k, k < 21 → (names.getD k []).length ≤ 4 := by decide
    exact this k hk
  · simp
/-- The signal that s names or numbers, from n on. -/
def numAt (s : List UInt8) : Nat → Nat → Option Int
  | 0, _ => none
  | f + 1, n => if names.getD n [] ≠ [] ∧ (s = names.getD n [] ∨ s = Lib.itoa n) then some (n : Int) else numAt s f (n + 1)
def number (s : List UInt8) : Option Int := numAt s 21 0
theorem number_one (s : List UInt8) : number s = numAt s 20 1 := by
  unfold number
  rw [numAt, if_neg (by simp [names])]
def sig3 : List UInt8 := [83, 73, 71]
def sigAt (s : List UInt8) : Nat → Nat → Option Int
  | 0, _ => none
  | f + 1, n => if names.getD n [] ≠ [] ∧ s = sig3 ++ names.getD n [] then some (n : Int) else sigAt s f (n + 1)
def isZero (s : List UInt8) : Bool := s == [48] || s == [69, 88, 73, 84]
def signal (s : List UInt8) : Option Int :=
  if isZero s then some 0 else match number s with
    | some n => some n
    | none => if sig3.isPrefixOf s then match number (s.drop 3) with
        | some n => if nameL n = s.drop 3 then some n else none
        | none => none
      else none
def signalR (s : List UInt8) : Option Int :=
  if isZero s then some 0 else match sigAt s 20 1 with
    | some n => some n
    | none => number s
theorem itoa_short (k : Nat) (h : k < 100) : (Lib.itoa (k : Int)).length ≤ 2 := by
  unfold Lib.itoa
  rw [if_neg (by omega)]
  simp only [Int.toNat_natCast]
  by_cases h1 : k < 10
  · rw [Lib.decDigits_one h1]; simp
  · rw [Lib.decDigits_two h1 h]; simp
theorem numAt_some {s : List UInt8} : ∀ (f n : Nat) (z : Int), numAt s f n = some z → ∃ k : Nat, z = k ∧ n ≤ k ∧ k < n + f ∧ names.getD k [] ≠ [] ∧ (s = names.getD k [] ∨ s = Lib.itoa k)
  | 0, _, _, h => by cases h
  | f + 1, n, z, h => by
    rw [numAt] at h
    split at h
    · rename_i hc
      injection h with h
      exact ⟨n, h.symm, Nat.le_refl _, by omega, hc⟩
    · obtain ⟨k, a, b, c, d⟩ := numAt_some f (n + 1) z h
      exact ⟨k, a, by omega, by omega, d⟩
theorem numAt_none {s : List UInt8} : ∀ (f n : Nat), (∀ k, n ≤ k → k < n + f → names.getD k [] ≠ [] → s ≠ names.getD k [] ∧ s ≠ Lib.itoa k) → numAt s f n = none
  | 0, _, _ => rfl
  | f + 1, n, h => by
    rw [numAt, if_neg, numAt_none f (n + 1) (fun k h1 h2 => h k (by omega) (by omega))]
    rintro ⟨h1, h2 | h2⟩
    · exact (h n (Nat.le_refl _) (by omega) h1).1 h2
    · exact (h n (Nat.le_refl _) (by omega) h1).2 h2
theorem sigAt_some {s : List UInt8} : ∀ (f n : Nat) (z : Int), sigAt s f n = some z → ∃ k : Nat, z = k ∧ n ≤ k ∧ k < n + f ∧ names.getD k [] ≠ [] ∧ s = sig3 ++ names.getD k []
  | 0, _, _, h => by cases h
  | f + 1, n, z, h => by
    rw [sigAt] at h
    split at h
    · rename_i hc
      injection h with h
      exact ⟨n, h.symm, Nat.le_refl _, by omega, hc⟩
    · obtain ⟨k, a, b, c, d⟩ := sigAt_some f (n + 1) z h
      exact ⟨k, a, by omega, by omega, d⟩
theorem sigAt_none {s : List UInt8} : ∀ (f n : Nat), sigAt s f n = none → ∀ k, n ≤ k → k < n + f → names.getD k [] ≠ [] → s ≠ sig3 ++ names.getD k []
  | 0, _, _, k, h1, h2 => by omega
  | f + 1, n, h, k, h1, h2 => by
    rw [sigAt] at h
    split at h
    · cases h
    · rename_i hc
      by_cases e : k = n
      · subst e; intro h3 h4; exact hc ⟨h3, h4⟩
      · exact sigAt_none f (n + 1) h k (by omega) (by omega)
theorem names_apart : ∀ k, k < 21 → ∀ j, j < 21 → names.getD j [] ≠ [] → sig3 ++ names.getD k [] ≠ names.getD j [] := by decide
theorem names_inj : ∀ k, k < 21 → ∀ j, j < 21 → names.getD k [] ≠ [] → names.getD k [] = names.getD j [] → k = j := by decide
theorem names_long : ∀ k, k < 21 → names.getD k [] ≠ [] → 3 ≤ (names.getD k []).length := by decide
theorem number_name (k : Nat) (h : k < 21) (hne : names.getD k [] ≠ []) : number (names.getD k []) = some (k : Int) := by
  unfold number
  have key : ∀ (f n : Nat), n ≤ k → k < n + f → n + f ≤ 21 → numAt (names.getD k []) f n = some (k : Int) := by
    intro f
    induction f with
    | zero => intro n h1 h2; omega
    | succ f ih =>
      intro n h1 h2 h3
      rw [numAt]
      by_cases e : n = k
      · subst e; rw [if_pos ⟨hne, .inl rfl⟩]
      · rw [if_neg, ih (n + 1) (by omega) (by omega) (by omega)]
        rintro ⟨_, h4 | h4⟩
        · exact e (names_inj k h n (by omega) hne h4).symm
        · have := congrArg List.length h4
          have h5 := itoa_short n (by omega)
          have h6 := names_long k h hne
          omega
  exact key 21 0 (by omega) (by omega) (by omega)
theorem number_sig (k : Nat) (h : k < 21) : number (sig3 ++ names.getD k []) = none := by
  refine numAt_none _ _ fun j _ h2 h3 => ⟨names_apart k h j (by omega) h3, fun h4 => ?_⟩
  have := congrArg List.length h4
  have h5 := itoa_short j (by omega)
  simp [sig3] at this
  omega
theorem signal_eq (s : List UInt8) : signalR s = signal s := by
  unfold signalR signal
  split
  · rfl
  · cases hs : sigAt s 20 1 with
    | some z =>
      obtain ⟨k, rfl, h1, h2, h3, rfl⟩ := sigAt_some _ _ _ hs
      rw [number_sig k (by omega)]
      have hp : sig3.isPrefixOf (sig3 ++ names.getD k []) = true := by rw [List.isPrefixOf_iff_prefix]; exact List.prefix_append _ _
      have hd : (sig3 ++ names.getD k []).drop 3 = names.getD k [] := by simp [sig3]
      simp only [hp, hd, if_true]
      rw [number_name k (by omega) h3]
      simp only [nameL_at k (by omega), if_true]
    | none =>
      cases hn : number s with
      | some z => rfl
      | none =>
        simp only
        split
        · rename_i hp
          rw [List.isPrefixOf_iff_prefix] at hp
          obtain ⟨t, rfl⟩ := hp
          have hd : (sig3 ++ t).drop 3 = t := by simp [sig3]
          rw [hd]
          cases hm : number t with
          | none => rfl
          | some z =>
            simp only
            split
            · rename_i hl
              rw [number_one] at hm
              obtain ⟨k, rfl, h1, h2, h3, _⟩ := numAt_some _ _ _ hm
              rw [nameL_at k (by omega)] at hl
              exact absurd (by rw [hl]) (sigAt_none _ _ hs k (by omega) (by omega) h3)
            · rfl
        · rfl
end P
end Go.Proofs.YtfigidknocpdaaaDoor
