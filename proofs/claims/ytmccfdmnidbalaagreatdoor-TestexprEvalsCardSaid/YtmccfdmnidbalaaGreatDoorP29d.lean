/- Chapter 29 in plain Lean: paths. -/
import Derived.Test.YtmccfdmnidbalaaGreatDoorK
import Derived.Lib.Split
import Derived.Lib.CountLaws
import Derived.Lib.Join
namespace Go.Proofs.YtmccfdmnidbalaaGreatDoor
open K
namespace P
def slash (l : List UInt8) : Bool := l.any fun x => (x.toNat : Int) == 47
/-- The pieces between slashes. -/
def split47 : List UInt8 → List (List UInt8)
  | [] => [[]]
  | c :: r => if (c.toNat : Int) = 47 then [] :: split47 r else match split47 r with
    | [] => [[c]]
    | h :: t => (c :: h) :: t
theorem split47_ne (l : List UInt8) : split47 l ≠ [] := by
  cases l with
  | nil => simp [split47]
  | cons c r => rw [split47]; split; simp; split <;> simp
theorem split47_free {s : List UInt8} (h : slash s = false) : split47 s = [s] := by
  induction s with
  | nil => rfl
  | cons c r ih =>
    simp [slash] at h
    have h2 : slash r = false := by simpa [slash] using h.2
    rw [split47, if_neg (by omega), ih h2]
theorem split47_at {a b : List UInt8} (h : slash a = false) : split47 (a ++ 47 :: b) = a :: split47 b := by
  induction a with
  | nil => rw [List.nil_append, split47, if_pos (by decide)]
  | cons c r ih =>
    simp [slash] at h
    have h2 : slash r = false := by simpa [slash] using h.2
    rw [List.cons_append, split47, if_neg (by omega), ih h2]
theorem index_sl (s : List UInt8) : (slash s = false ∧ Lib.index s [47] = -1) ∨ ∃ a b, s = a ++ 47 :: b ∧ slash a = false ∧ Lib.index s [47] = (a.length : Int) := by
  induction s with
  | nil => exact .inl ⟨rfl, rfl⟩
  | cons c r ih =>
    by_cases hc : c = 47
    · subst hc
      exact .inr ⟨[], r, rfl, rfl, by simp [Lib.index]⟩
    · have hc2 : ¬ (c.toNat : Int) = 47 := fun h => hc (UInt8.toNat_inj.1 (by have : (47 : UInt8).toNat = 47 := rfl; omega))
      have hp : ([47] : List UInt8).isPrefixOf (c :: r) = false := by
        simp only [List.isPrefixOf, Bool.and_true]
        exact beq_false_of_ne (Ne.symm hc)
      rcases ih with ⟨h1, h2⟩ | ⟨a, b, rfl, h1, h2⟩
      · left
        refine ⟨?_, by rw [Lib.index, hp, h2]; rfl⟩
        simp [slash] at h1 ⊢
        exact ⟨hc2, h1⟩
      · right
        refine ⟨c :: a, b, rfl, ?_, ?_⟩
        · simp [slash] at h1 ⊢
          exact ⟨hc2, h1⟩
        · rw [Lib.index, hp, h2]
          have e : ((a.length : Int) == -1) = false := by simp
          simp [e]
theorem splitK_sl (n : Nat) : ∀ s : List UInt8, s.length ≤ n → Lib.splitK [47] 0 (Lib.count s [47]) s = split47 s := by
  induction n with
  | zero => intro s h; obtain rfl : s = [] := List.eq_nil_of_length_eq_zero (by omega); rfl
  | succ n ih =>
    intro s hs
    rcases index_sl s with ⟨h1, h2⟩ | ⟨a, b, rfl, h1, h2⟩
    · rw [Lib.count_miss h2, split47_free h1]; rfl
    · have hd : (a ++ 47 :: b).drop (a.length + 1) = b := by rw [show a ++ 47 :: b = (a ++ [47]) ++ b by simp, show a.length + 1 = (a ++ [47]).length by simp, List.drop_left]
      rw [Lib.count_hit (by simp) h2, split47_at h1]
      simp only [List.length_singleton]
      rw [hd, Nat.add_comm, Lib.splitK, if_neg (by rw [h2]; simp), h2]
      simp only [Int.toNat_natCast, Nat.add_zero, List.length_singleton]
      rw [hd, ih b (by simp at hs; omega)]
      simp
theorem count_sl (s : List UInt8) : Lib.count s [47] + 1 = (split47 s).length := by
  have key : ∀ n, ∀ s : List UInt8, s.length ≤ n → Lib.count s [47] + 1 = (split47 s).length := by
    intro n
    induction n with
    | zero => intro s h; obtain rfl : s = [] := List.eq_nil_of_length_eq_zero (by omega); rfl
    | succ n ih =>
      intro s hs
      rcases index_sl s with ⟨h1, h2⟩ | ⟨a, b, rfl, h1, h2⟩
      · rw [Lib.count_miss h2, split47_free h1]; rfl
      · have hd : (a ++ 47 :: b).drop (a.length + 1) = b := by rw [show a ++ 47 :: b = (a ++ [47]) ++ b by simp, show a.length + 1 = (a ++ [47]).length by simp, List.drop_left]
        rw [Lib.count_hit (by simp) h2, split47_at h1]
        simp only [List.length_singleton]
        rw [hd, List.length_cons, ← ih b (by simp at hs; omega)]
        omega
  exact key _ s (Nat.le_refl _)
theorem splitB_sl (s : List UInt8) : Lib.splitB ⟨#[47]⟩ 0 (Lib.countB ⟨s.toArray⟩ ⟨#[47]⟩) ⟨s.toArray⟩ = (split47 s).map fun l => ⟨l.toArray⟩ := by
  have h := Lib.splitB_data ⟨#[47]⟩ 0 (Lib.countB ⟨s.toArray⟩ ⟨#[47]⟩) ⟨s.toArray⟩
  have h2 := splitK_sl s.length s (Nat.le_refl _)
  have h3 : (Lib.splitB ⟨#[47]⟩ 0 (Lib.countB ⟨s.toArray⟩ ⟨#[47]⟩) ⟨s.toArray⟩).map (·.data.toList) = split47 s := by rw [h, ← h2]
  rw [← h3, List.map_map]
  conv => lhs; rw [← List.map_id (Lib.splitB ⟨#[47]⟩ 0 (Lib.countB ⟨s.toArray⟩ ⟨#[47]⟩) ⟨s.toArray⟩)]
  congr 1
theorem countB_sl (s : List UInt8) : Lib.countB ⟨s.toArray⟩ ⟨#[47]⟩ + 1 = (split47 s).length := count_sl s
/-- Lines are no longer than the text. -/
theorem split47_le (l : List UInt8) : ∀ s ∈ split47 l, s.length ≤ l.length := by
  induction l with
  | nil => intro s h; simp [split47] at h; subst h; simp
  | cons c r ih =>
    intro s h
    rw [split47] at h
    split at h
    · rcases List.mem_cons.1 h with rfl | h
      · simp
      · have := ih s h; simp; omega
    · cases hr : split47 r with
      | nil => exact absurd hr (split47_ne r)
      | cons x t =>
        rw [hr] at h ih
        rcases List.mem_cons.1 h with rfl | h
        · have := ih x (by simp); simp; omega
        · have := ih s (by simp [h]); simp; omega
theorem split47_len (l : List UInt8) : (split47 l).length ≤ l.length + 1 := by
  induction l with
  | nil => simp [split47]
  | cons c r ih =>
    rw [split47]
    split
    · simp; omega
    · cases hr : split47 r with
      | nil => simp
      | cons x t => rw [hr] at ih; simp at ih ⊢; omega
def nameB (s : List UInt8) : Bool := decide (1 ≤ s.length) && decide (s.length ≤ 32) && s != [46] && s != [46, 46] && !(s.any fun c => (c.toNat : Int) == 47 || (c.toNat : Int) == 0)
theorem nameB_slash {s : List UInt8} (h : nameB s = true) : slash s = false := by
  unfold nameB at h
  simp only [Bool.and_eq_true, Bool.not_eq_true'] at h
  have h2 := h.2
  unfold slash
  rw [List.any_eq_false] at h2 ⊢
  intro x hx hc
  exact h2 x hx (by rw [hc]; rfl)
theorem nameB_ne {s : List UInt8} (h : nameB s = true) : s ≠ [] := by
  rintro rfl
  simp [nameB] at h
def pathB (s : List UInt8) : Bool := s == [47] || (decide (s.length ≤ 128) && s.head? == some 47 && (split47 (s.drop 1)).all nameB)
def stepN (names : List (List UInt8)) (s : List UInt8) : Option (List (List UInt8)) :=
  if s = [] ∨ s = [46] then some names else if s = [46, 46] then some names.dropLast else if nameB s = true then some (names ++ [s]) else none
def cleanN (names : List (List UInt8)) : List (List UInt8) → Option (List (List UInt8))
  | [] => some names
  | s :: r => match stepN names s with
    | none => none
    | some n => cleanN n r
def showN (names : List (List UInt8)) : List UInt8 := 47 :: Lib.join names [47]
def start (cwd path : List UInt8) : List (List UInt8) := if path.head? = some 47 ∨ cwd = [47] then [] else split47 (cwd.drop 1)
def cleanO (cwd path : List UInt8) : Option (List UInt8) :=
  if pathB cwd = false then none else if path = [] then none else
  match cleanN (start cwd path) (split47 path) with
  | none => none
  | some ns => if 128 < (showN ns).length then none else some (showN ns)
end P
end Go.Proofs.YtmccfdmnidbalaaGreatDoor
