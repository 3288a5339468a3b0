/- The library's split at newlines is splitNL. -/
import Derived.Test.YtbiilbdflmiehaaDoorP43c
import Derived.Lib.CountLaws
namespace Go.Proofs.YtbiilbdflmiehaaDoor
open K
namespace P
theorem index_nl (s : List UInt8) : (feeds s = false ∧ Lib.index s [10] = -1) ∨ ∃ a b, s = a ++ 10 :: b ∧ feeds a = false ∧ Lib.index s [10] = (a.length : Int) := by
  induction s with
  | nil => exact .inl ⟨rfl, rfl⟩
  | cons c r ih =>
    by_cases hc : c = 10
    · subst hc
      exact .inr ⟨[], r, rfl, rfl, by simp [Lib.index]⟩
    · have hc2 : ¬ (c.toNat : Int) = 10 := fun h => hc (UInt8.toNat_inj.1 (by have : (10 : UInt8).toNat = 10 := rfl; omega))
      have hp : ([10] : List UInt8).isPrefixOf (c :: r) = false := by
        simp only [List.isPrefixOf, Bool.and_true]
        exact beq_false_of_ne (Ne.symm hc)
      rcases ih with ⟨h1, h2⟩ | ⟨a, b, rfl, h1, h2⟩
      · left
        refine ⟨?_, by rw [Lib.index, hp, h2]; rfl⟩
        simp [feeds] at h1 ⊢
        exact ⟨hc2, h1⟩
      · right
        refine ⟨c :: a, b, rfl, ?_, ?_⟩
        · simp [feeds] at h1 ⊢
          exact ⟨hc2, h1⟩
        · rw [Lib.index, hp, h2]
          have e : ((a.length : Int) == -1) = false := by simp
          simp [e]
theorem splitK_nl (n : Nat) : ∀ s : List UInt8, s.length ≤ n → Lib.splitK [10] 0 (Lib.count s [10]) s = splitNL s := by
  induction n with
  | zero => intro s h; obtain rfl : s = [] := List.eq_nil_of_length_eq_zero (by omega); rfl
  | succ n ih =>
    intro s hs
    rcases index_nl s with ⟨h1, h2⟩ | ⟨a, b, rfl, h1, h2⟩
    · rw [Lib.count_miss h2, splitNL_free h1]; rfl
    · have hd : (a ++ 10 :: b).drop (a.length + 1) = b := by rw [show a ++ 10 :: b = (a ++ [10]) ++ b by simp, show a.length + 1 = (a ++ [10]).length by simp, List.drop_left]
      rw [Lib.count_hit (by simp) h2, splitNL_at h1]
      simp only [List.length_singleton]
      rw [hd, Nat.add_comm, Lib.splitK, if_neg (by rw [h2]; simp), h2]
      simp only [Int.toNat_natCast, Nat.add_zero, List.length_singleton]
      rw [hd, ih b (by simp at hs; omega)]
      simp
theorem count_nl (s : List UInt8) : Lib.count s [10] + 1 = (splitNL s).length := by
  have key : ∀ n, ∀ s : List UInt8, s.length ≤ n → Lib.count s [10] + 1 = (splitNL s).length := by
    intro n
    induction n with
    | zero => intro s h; obtain rfl : s = [] := List.eq_nil_of_length_eq_zero (by omega); rfl
    | succ n ih =>
      intro s hs
      rcases index_nl s with ⟨h1, h2⟩ | ⟨a, b, rfl, h1, h2⟩
      · rw [Lib.count_miss h2, splitNL_free h1]; rfl
      · have hd : (a ++ 10 :: b).drop (a.length + 1) = b := by rw [show a ++ 10 :: b = (a ++ [10]) ++ b by simp, show a.length + 1 = (a ++ [10]).length by simp, List.drop_left]
        rw [Lib.count_hit (by simp) h2, splitNL_at h1]
        simp only [List.length_singleton]
        rw [hd, List.length_cons, ← ih b (by simp at hs; omega)]
        omega
  exact key _ s (Nat.le_refl _)
theorem splitB_nl (s : List UInt8) : Lib.splitB ⟨#[10]⟩ 0 (Lib.countB ⟨s.toArray⟩ ⟨#[10]⟩) ⟨s.toArray⟩ = (splitNL s).map fun l => ⟨l.toArray⟩ := by
  have h := Lib.splitB_data ⟨#[10]⟩ 0 (Lib.countB ⟨s.toArray⟩ ⟨#[10]⟩) ⟨s.toArray⟩
  have h2 := splitK_nl s.length s (Nat.le_refl _)
  have h3 : (Lib.splitB ⟨#[10]⟩ 0 (Lib.countB ⟨s.toArray⟩ ⟨#[10]⟩) ⟨s.toArray⟩).map (·.data.toList) = splitNL s := by rw [h, ← h2]
  rw [← h3, List.map_map]
  conv => lhs; rw [← List.map_id (Lib.splitB ⟨#[10]⟩ 0 (Lib.countB ⟨s.toArray⟩ ⟨#[10]⟩) ⟨s.toArray⟩)]
  congr 1
theorem countB_nl (s : List UInt8) : Lib.countB ⟨s.toArray⟩ ⟨#[10]⟩ + 1 = (splitNL s).length := count_nl s
/-- Lines are no longer than the text. -/
theorem splitNL_le (l : List UInt8) : ∀ s ∈ splitNL l, s.length ≤ l.length := by
  induction l with
  | nil => intro s h; simp [splitNL] at h; subst h; simp
  | cons c r ih =>
    intro s h
    rw [splitNL] at h
    split at h
    · rcases List.mem_cons.1 h with rfl | h
      · simp
      · have := ih s h; simp; omega
    · cases hr : splitNL r with
      | nil => exact absurd hr (splitNL_ne r)
      | cons x t =>
        rw [hr] at h ih
        rcases List.mem_cons.1 h with rfl | h
        · have := ih x (by simp); simp; omega
        · have := ih s (by simp [h]); simp; omega
theorem splitNL_len (l : List UInt8) : (splitNL l).length ≤ l.length + 1 := by
  induction l with
  | nil => simp [splitNL]
  | cons c r ih =>
    rw [splitNL]
    split
    · simp; omega
    · cases hr : splitNL r with
      | nil => simp
      | cons x t => rw [hr] at ih; simp at ih ⊢; omega
end P
end Go.Proofs.YtbiilbdflmiehaaDoor
