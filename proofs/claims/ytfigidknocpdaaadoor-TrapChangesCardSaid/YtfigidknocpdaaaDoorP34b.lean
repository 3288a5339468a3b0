/- Chapter 34 in plain Lean: lists of traps. -/
import Derived.Test.YtfigidknocpdaaaDoorP34
import Derived.Test.YtfigidknocpdaaaDoorT
namespace Go.Proofs.YtfigidknocpdaaaDoor
open K
namespace P
/-- The place of the first trap for a signal, n being the place of the list's head, or -1. -/
def findL (sig : Int) : Nat → List Tr → Int
  | _, [] => -1
  | n, t :: r => if t.1 = sig then n else findL sig (n + 1) r
def find (ts : List Tr) (sig : Int) : Int := findL sig 0 ts
theorem findL_hit {sig : Int} {n : Nat} {t : Tr} {r : List Tr} (h : t.1 = sig) : findL sig n (t :: r) = n := by rw [findL, if_pos h]
theorem findL_miss {sig : Int} {n : Nat} {t : Tr} {r : List Tr} (h : t.1 ≠ sig) : findL sig n (t :: r) = findL sig (n + 1) r := by rw [findL, if_neg h]
theorem findL_cases (sig : Int) : ∀ (ts : List Tr) (n : Nat), (findL sig n ts = -1 ∧ ∀ t ∈ ts, t.1 ≠ sig) ∨ ∃ k, findL sig n ts = (n + k : Nat) ∧ k < ts.length ∧ (ts.getD k (0, [])).1 = sig
  | [], n => .inl ⟨rfl, by simp⟩
  | t :: r, n => by
    by_cases h : t.1 = sig
    · exact .inr ⟨0, by rw [findL_hit h]; rfl, by simp, h⟩
    · rcases findL_cases sig r (n + 1) with ⟨a, b⟩ | ⟨k, a, b, c⟩
      · refine .inl ⟨by rw [findL_miss h, a], fun u hu => ?_⟩
        rcases List.mem_cons.1 hu with rfl | hu
        · exact h
        · exact b u hu
      · refine .inr ⟨k + 1, by rw [findL_miss h, a]; congr 1; omega, by simp; omega, ?_⟩
        simpa using c
/-- The first trap for a signal. -/
def look (ts : List Tr) (sig : Int) : Option (List UInt8) := (ts.find? fun t => t.1 == sig).map (·.2)
theorem look_find (ts : List Tr) (sig : Int) : (find ts sig = -1 ∧ look ts sig = none) ∨ ∃ k, find ts sig = (k : Nat) ∧ k < ts.length ∧ (ts.getD k (0, [])).1 = sig ∧ look ts sig = some (ts.getD k (0, [])).2 := by
  have key : ∀ (ts : List Tr) (n : Nat), (findL sig n ts = -1 ∧ look ts sig = none) ∨ ∃ k, findL sig n ts = (n + k : Nat) ∧ k < ts.length ∧ (ts.getD k (0, [])).1 = sig ∧ look ts sig = some (ts.getD k (0, [])).2 := by
    intro ts
    induction ts with
    | nil => intro n; exact .inl ⟨rfl, rfl⟩
    | cons t r ih =>
      intro n
      by_cases h : t.1 = sig
      · exact .inr ⟨0, by rw [findL_hit h]; rfl, by simp, h, by simp [look, h]⟩
      · have e : look (t :: r) sig = look r sig := by simp [look, h]
        rcases ih (n + 1) with ⟨a, b⟩ | ⟨k, a, b, c, d⟩
        · exact .inl ⟨by rw [findL_miss h, a], by rw [e, b]⟩
        · exact .inr ⟨k + 1, by rw [findL_miss h, a]; congr 1; omega, by simp; omega, by simpa using c, by rw [e, d]; simp⟩
  rcases key ts 0 with h | ⟨k, a, b, c, d⟩
  · exact .inl h
  · exact .inr ⟨k, by unfold find; rw [a]; simp, b, c, d⟩
/-- Ascending numbers of signals. -/
def rightL (p : Int) : List Tr → Bool
  | [] => true
  | t :: r => decide (p < t.1) && decide (t.1 ≤ 20) && rightL t.1 r
def right (ts : List Tr) : Bool := rightL (-1) ts
def prevAt (ts : List Tr) (k : Nat) : Int := if k = 0 then -1 else (ts.getD (k - 1) (0, [])).1
def rightAt (ts : List Tr) (k : Nat) : Bool := rightL (prevAt ts k) (ts.drop k)
theorem rightAt_no {ts : List Tr} {k : Nat} {z : Int} {s : List UInt8} (h : k < ts.length) (ht : ts.getD k (0, []) = (z, s)) (hz : z ≤ prevAt ts k ∨ 20 < z) : rightAt ts k = false := by
  unfold rightAt
  rw [drop_getT h, ht, rightL]
  rcases hz with hz | hz
  · have : decide (prevAt ts k < z) = false := by simp; omega
    simp [this]
  · have : decide (z ≤ 20) = false := by simp; omega
    simp [this]
theorem rightAt_next {ts : List Tr} {k : Nat} {z : Int} {s : List UInt8} (h : k < ts.length) (ht : ts.getD k (0, []) = (z, s)) (h1 : prevAt ts k < z) (h2 : z ≤ 20) : rightAt ts k = rightAt ts (k + 1) := by
  unfold rightAt
  rw [drop_getT h, ht, rightL]
  have e : prevAt ts (k + 1) = z := by
    unfold prevAt
    rw [if_neg (by omega), Nat.add_sub_cancel, ht]
  rw [e]
  simp [h1, h2]
theorem rightAt_end {ts : List Tr} {k : Nat} (h : ¬ k < ts.length) : rightAt ts k = true := by
  unfold rightAt; rw [List.drop_eq_nil_of_le (by omega)]; rfl
def smallB (ts : List Tr) : Bool := decide (ts.length ≤ 30) && ts.all fun t => decide (t.2.length ≤ 500)
end P
end Go.Proofs.YtfigidknocpdaaaDoor
