/- Chapter 43 in plain Lean: histories over lists of lists of bytes. -/
import Derived.Test.YtbiilbdflmiehaaDoorK
import Derived.Lib.Bytealg
namespace Go.Proofs.YtbiilbdflmiehaaDoor
open K
namespace P

def feeds (l : List UInt8) : Bool := l.any fun x => (x.toNat : Int) == 10
theorem feeds_index (l : List UInt8) : decide (0 ≤ Lib.indexByte l 10) = feeds l := by
  unfold feeds
  induction l with
  | nil => rfl
  | cons x r ih =>
    have hge := Lib.indexByte_ge r 10
    rw [show Lib.indexByte (x :: r) 10 = if (x == 10) = true then 0 else if Lib.indexByte r 10 == -1 then -1 else Lib.indexByte r 10 + 1 from rfl, List.any_cons, ← ih]
    have hx : (((x.toNat : Nat) : Int) == 10) = (x == 10) := by
      rw [Bool.eq_iff_iff]
      simp only [beq_iff_eq]
      constructor
      · intro h; apply UInt8.toNat_inj.1; have : (10 : UInt8).toNat = 10 := rfl; omega
      · intro h; subst h; rfl
    rw [hx]
    cases hx2 : (x == 10)
    · simp only [Bool.false_eq_true, if_false, Bool.false_or]
      by_cases hm : Lib.indexByte r 10 = -1
      · simp [hm]
      · have e1 : (Lib.indexByte r 10 == -1) = false := by simpa using hm
        rw [e1]; simp; omega
    · simp
theorem getD_mem {ls : List (List UInt8)} {k : Nat} (h : k < ls.length) : ls.getD k [] ∈ ls := by
  rw [List.getD_eq_getElem?_getD, List.getElem?_eq_getElem h]; exact List.getElem_mem h
def lim : Nat := 30000
theorem lim_lt (m : Nat) : m < lim ↔ (m : Int) < 30000 := by unfold lim; omega
/-- The reference's bound, from line k on, m bytes before. -/
def smallFrom (ls : List (List UInt8)) (m k : Nat) : Bool :=
  if h : k < ls.length ∧ k < 140 ∧ m < lim then smallFrom ls (m + (ls.getD k []).length) (k + 1) else decide (ls.length ≤ 140 ∧ m < lim)
termination_by ls.length - k
decreasing_by omega
def small (ls : List (List UInt8)) : Bool := smallFrom ls 0 0
theorem smallFrom_step {ls : List (List UInt8)} {m k : Nat} (h1 : k < ls.length) (h2 : k < 140) (h3 : m < lim) : smallFrom ls m k = smallFrom ls (m + (ls.getD k []).length) (k + 1) := by
  rw [smallFrom, dif_pos ⟨h1, h2, h3⟩]
theorem smallFrom_stop {ls : List (List UInt8)} {m k : Nat} (h : ¬ (k < ls.length ∧ k < 140 ∧ m < lim)) : smallFrom ls m k = decide (ls.length ≤ 140 ∧ m < lim) := by
  rw [smallFrom, dif_neg h]
/-- The error of the lines, the one before them being prev. -/
def lerr (prev : Option (List UInt8)) : List (List UInt8) → Int
  | [] => 0
  | s :: r => if s = [] ∨ feeds s = true then 1 else if 4096 < s.length then 3 else if prev = some s then 9 else lerr (some s) r
def valid (first : Int) (ls : List (List UInt8)) : Int :=
  if 128 < ls.length then 4 else if first < 1 ∨ 2147483519 < first then 2 else lerr none ls
/-- The line before place k. -/
def prevAt (ls : List (List UInt8)) (k : Nat) : Option (List UInt8) := if k = 0 then none else ls[k - 1]?
def lerrAt (ls : List (List UInt8)) (k : Nat) : Int := lerr (prevAt ls k) (ls.drop k)
theorem drop_getD {ls : List (List UInt8)} {k : Nat} (h : k < ls.length) : ls.drop k = ls.getD k [] :: ls.drop (k + 1) := by
  rw [List.getD_eq_getElem?_getD, List.getElem?_eq_getElem h, List.drop_eq_getElem_cons h]; rfl
theorem lerrAt_1 {ls : List (List UInt8)} {k : Nat} (h : k < ls.length) (h1 : ls.getD k [] = [] ∨ feeds (ls.getD k []) = true) : lerrAt ls k = 1 := by
  unfold lerrAt; rw [drop_getD h, lerr, if_pos h1]
theorem lerrAt_3 {ls : List (List UInt8)} {k : Nat} (h : k < ls.length) (h1 : ¬ (ls.getD k [] = [] ∨ feeds (ls.getD k []) = true)) (h2 : 4096 < (ls.getD k []).length) : lerrAt ls k = 3 := by
  unfold lerrAt; rw [drop_getD h, lerr, if_neg h1, if_pos h2]
theorem prevAt_succ {ls : List (List UInt8)} {k : Nat} (h : k < ls.length) : prevAt ls (k + 1) = some (ls.getD k []) := by
  unfold prevAt; rw [if_neg (by omega)]; simp [List.getD_eq_getElem?_getD, List.getElem?_eq_getElem h]
theorem lerrAt_9 {ls : List (List UInt8)} {k : Nat} (h : k + 1 < ls.length) (h1 : ¬ (ls.getD (k + 1) [] = [] ∨ feeds (ls.getD (k + 1) []) = true)) (h2 : ¬ 4096 < (ls.getD (k + 1) []).length) (h3 : ls.getD (k + 1) [] = ls.getD k []) : lerrAt ls (k + 1) = 9 := by
  unfold lerrAt; rw [drop_getD h, lerr, if_neg h1, if_neg h2, prevAt_succ (by omega), if_pos (by rw [h3])]
theorem lerrAt_next {ls : List (List UInt8)} {k : Nat} (h : k < ls.length) (h1 : ¬ (ls.getD k [] = [] ∨ feeds (ls.getD k []) = true)) (h2 : ¬ 4096 < (ls.getD k []).length) (h3 : ∀ j, k = j + 1 → ls.getD k [] ≠ ls.getD j []) : lerrAt ls k = lerrAt ls (k + 1) := by
  unfold lerrAt
  rw [drop_getD h, lerr, if_neg h1, if_neg h2, if_neg, prevAt_succ h]
  cases k with
  | zero => simp [prevAt]
  | succ j => rw [prevAt_succ (by omega)]; intro e; exact h3 j rfl (Option.some.inj e).symm
theorem lerrAt_end {ls : List (List UInt8)} {k : Nat} (h : ¬ k < ls.length) : lerrAt ls k = 0 := by
  unfold lerrAt; rw [List.drop_eq_nil_of_le (by omega)]; rfl
/-- The history with a line, and the error. -/
def addH (first : Int) (ls : List (List UInt8)) (line : List UInt8) : Int × List (List UInt8) × Int :=
  if feeds line = true then (first, ls, 1) else if 4096 < line.length then (first, ls, 3)
  else if line = [] ∨ (ls ≠ [] ∧ ls.getD (ls.length - 1) [] = line) then (first, ls, 0)
  else if ls.length < 128 then (first, ls ++ [line], 0) else if 2147483519 ≤ first then (first, ls, 4) else (first + 1, (ls ++ [line]).drop 1, 0)
def getH (first : Int) (ls : List (List UInt8)) (n : Int) : List UInt8 × Int :=
  if first ≤ n ∧ n < first + ls.length then (ls.getD (n - first).toNat [], 0) else ([], 8)
/-- The number of the last line that p wants. -/
def findH (p : List UInt8 → Bool) (first : Int) (ls : List (List UInt8)) : Nat → Option Int
  | 0 => none
  | k + 1 => if p (ls.getD k []) then some (first + k) else findH p first ls k
def begins (s t : List UInt8) : Bool := decide (t.length ≤ s.length) && (s.take t.length == t)
/-- From place i on. -/
def containsAt (s t : List UInt8) : Nat → Nat → Bool
  | 0, _ => false
  | f + 1, i => if i + t.length ≤ s.length then (cut s i (i + t.length) == t) || containsAt s t f (i + 1) else false
def contains (s t : List UInt8) : Bool := containsAt s t (s.length + 1) 0
end P
end Go.Proofs.YtbiilbdflmiehaaDoor
