/- Chapter 10 in plain Lean: the first delimiter that is no line. -/
import Derived.Test.YtggjhkmokgliaaaDoorP10b
import Derived.Lib.ItoaNum
namespace Go.Proofs.YtggjhkmokgliaaaDoor
open K
namespace P
/-- The candidates. -/
def eofT (k : Nat) : Str := if k = 0 then [69, 79, 70] else [69, 79, 70] ++ Lib.decDigits k
def valD (l : Str) : Nat := l.foldl (fun a c => a * 10 + (c.toNat - 48)) 0
theorem valD_app (a b : Str) : valD (a ++ b) = b.foldl (fun a c => a * 10 + (c.toNat - 48)) (valD a) := by unfold valD; rw [List.foldl_append]
theorem ofNat_dig (u : Nat) (h : u < 10) : (UInt8.ofNat (48 + u)).toNat = 48 + u := by rw [UInt8.toNat_ofNat']; omega
theorem valD_dec : ∀ n u : Nat, u ≤ n → valD (Lib.decDigits u) = u
  | 0, u, h => by
    obtain rfl : u = 0 := by omega
    rw [Lib.decDigits_one (by omega)]; rfl
  | n + 1, u, h => by
    by_cases hu : u < 10
    · rw [Lib.decDigits_one hu]
      unfold valD
      simp only [List.foldl_cons, List.foldl_nil]
      rw [ofNat_dig u hu]
      omega
    · rw [Lib.decDigits, dif_neg hu, valD_app, valD_dec n (u / 10) (by omega)]
      simp only [List.foldl_cons, List.foldl_nil]
      rw [ofNat_dig (u % 10) (by omega)]
      omega
theorem dec_inj {a b : Nat} (h : Lib.decDigits a = Lib.decDigits b) : a = b := by
  have h1 := valD_dec a a (Nat.le_refl _)
  rw [h, valD_dec b b (Nat.le_refl _)] at h1
  exact h1.symm
theorem dec_ne (u : Nat) : Lib.decDigits u ≠ [] := by rw [Lib.decDigits]; split <;> simp
theorem eofT_inj {a b : Nat} (h : eofT a = eofT b) : a = b := by
  unfold eofT at h
  by_cases ha : a = 0 <;> by_cases hb : b = 0
  · omega
  · rw [if_pos ha, if_neg hb] at h
    have : Lib.decDigits b = [] := by simpa using h
    exact absurd this (dec_ne b)
  · rw [if_neg ha, if_pos hb] at h
    have : Lib.decDigits a = [] := by simpa using h
    exact absurd this (dec_ne a)
  · rw [if_neg ha, if_neg hb] at h
    exact dec_inj (by simpa using h)
/-- Candidates that are all in a list are no more than the list is long. -/
theorem pigeon : ∀ (k : Nat) (L : List Str), (∀ j, j < k → eofT j ∈ L) → k ≤ L.length
  | 0, _, _ => by omega
  | k + 1, L, h => by
    have hk := h k (by omega)
    have := pigeon k (L.erase (eofT k)) (fun j hj => (List.mem_erase_of_ne (fun e => by have := eofT_inj e; omega)).2 (h j (by omega)))
    rw [List.length_erase_of_mem hk] at this
    have := List.length_pos_of_mem hk
    omega
/-- The first candidate from k on that is not in the list. -/
def out (L : List Str) : Nat → Nat → Nat
  | 0, k => k
  | f + 1, k => if eofT k ∈ L then out L f (k + 1) else k
theorem out_eq {L : List Str} : ∀ {f k0 k : Nat}, k0 ≤ k → (∀ j, k0 ≤ j → j < k → eofT j ∈ L) → eofT k ∉ L → k - k0 ≤ f → out L f k0 = k
  | 0, k0, k, h1, _, _, h => by
    rw [out]; omega
  | f + 1, k0, k, h1, h2, h3, h => by
    rw [out]
    by_cases e : k0 = k
    · subst e; rw [if_neg h3]
    · rw [if_pos (h2 k0 (Nat.le_refl _) (by omega))]
      exact out_eq (by omega) (fun j hj hj2 => h2 j (by omega) hj2) h3 (by omega)
def delK (L : List Str) : Nat := out L (L.length + 1) 0
theorem delK_eq {L : List Str} {k : Nat} (h : ∀ j, j < k → eofT j ∈ L) (hk : eofT k ∉ L) : delK L = k :=
  out_eq (by omega) (fun j _ hj => h j hj) hk (by have := pigeon k L h; omega)
theorem delK_ex (L : List Str) : ∃ k, k ≤ L.length ∧ (∀ j, j < k → eofT j ∈ L) ∧ eofT k ∉ L := by
  have key : ∀ n k : Nat, L.length - k ≤ n → (∀ j, j < k → eofT j ∈ L) → ∃ k, k ≤ L.length ∧ (∀ j, j < k → eofT j ∈ L) ∧ eofT k ∉ L := by
    intro n
    induction n with
    | zero =>
      intro k hk h
      by_cases hm : eofT k ∈ L
      · have := pigeon (k + 1) L (fun j hj => by
          rcases Nat.lt_succ_iff_lt_or_eq.1 hj with h' | rfl
          · exact h j h'
          · exact hm)
        omega
      · exact ⟨k, pigeon k L h, h, hm⟩
    | succ n ih =>
      intro k hk h
      by_cases hm : eofT k ∈ L
      · exact ih (k + 1) (by omega) (fun j hj => by
          rcases Nat.lt_succ_iff_lt_or_eq.1 hj with h' | rfl
          · exact h j h'
          · exact hm)
      · exact ⟨k, pigeon k L h, h, hm⟩
  exact key L.length 0 (by omega) (fun j hj => by omega)
/-- The lines without their newlines. -/
def bare (s : Str) : List Str := (lns s).map chomp
def delP (s : Str) : Str := eofT (delK (bare s))
theorem delP_not (s : Str) : delP s ∉ bare s := by
  obtain ⟨k, _, h2, h3⟩ := delK_ex (bare s)
  unfold delP
  rw [delK_eq h2 h3]
  exact h3
theorem nDig_le : ∀ n u : Nat, u ≤ n → Lib.nDigits u ≤ u + 1
  | 0, u, h => by rw [Lib.nDigits_small (by omega)]; omega
  | n + 1, u, h => by
    by_cases hu : u < 10
    · rw [Lib.nDigits_small hu]; omega
    · rw [Lib.nDigits, dif_neg hu]
      have := nDig_le n (u / 10) (by omega)
      omega
theorem eofT_len (k : Nat) : (eofT k).length ≤ k + 4 := by
  unfold eofT
  split
  · simp
  · rw [List.length_append, Lib.decDigits_length]
    have := nDig_le k k (Nat.le_refl _)
    simp
    omega
theorem bare_len (s : Str) : (bare s).length ≤ s.length := by unfold bare; rw [List.length_map]; exact lns_length s
theorem delP_len (s : Str) : (delP s).length ≤ s.length + 4 := by
  obtain ⟨k, h1, h2, h3⟩ := delK_ex (bare s)
  unfold delP
  rw [delK_eq h2 h3]
  have := eofT_len k
  have := bare_len s
  omega
theorem dec_digit : ∀ n u : Nat, u ≤ n → ∀ c ∈ Lib.decDigits u, 48 ≤ c.toNat ∧ c.toNat ≤ 57
  | 0, u, h, c, hc => by
    rw [Lib.decDigits_one (by omega)] at hc
    rw [List.mem_singleton] at hc
    subst hc
    rw [ofNat_dig u (by omega)]
    omega
  | n + 1, u, h, c, hc => by
    by_cases hu : u < 10
    · rw [Lib.decDigits_one hu] at hc
      rw [List.mem_singleton] at hc
      subst hc
      rw [ofNat_dig u hu]
      omega
    · rw [Lib.decDigits, dif_neg hu] at hc
      rcases List.mem_append.1 hc with hc | hc
      · exact dec_digit n (u / 10) (by omega) c hc
      · rw [List.mem_singleton] at hc
        subst hc
        rw [ofNat_dig (u % 10) (by omega)]
        omega
/-- A candidate has no newline and no tab ahead. -/
theorem eofT_no (k : Nat) : (10 : UInt8) ∉ eofT k := by
  unfold eofT
  split
  · decide
  · intro h
    rcases List.mem_append.1 h with h | h
    · revert h; decide
    · have := dec_digit k k (Nat.le_refl _) _ h
      revert this; decide
theorem eofT_head (k : Nat) : ∃ r, eofT k = 69 :: r := by
  unfold eofT
  split
  · exact ⟨_, rfl⟩
  · exact ⟨_, rfl⟩
end P
end Go.Proofs.YtggjhkmokgliaaaDoor
