/- Chapter 43 in plain Lean: numbers, lines, loading. -/
import Derived.Test.YtbiilbdflmiehaaDoorP43
import Derived.Lib.Split
import Derived.Lib.Bytealg
namespace Go.Proofs.YtbiilbdflmiehaaDoor
open K
namespace P

def digs (acc : Int) : List UInt8 → Option Int
  | [] => some acc
  | c :: r => if (c.toNat : Int) < 48 ∨ 57 < (c.toNat : Int) then none else digs (acc * 10 + ((c.toNat : Int) - 48)) r
theorem digs_bad {acc c : Int} {x : UInt8} {r : List UInt8} (hx : c = (x.toNat : Int)) (h : c < 48 ∨ 57 < c) : digs acc (x :: r) = none := by
  rw [digs, if_pos (by omega)]
theorem digs_go {acc c : Int} {x : UInt8} {r : List UInt8} (hx : c = (x.toNat : Int)) (h : ¬ (c < 48 ∨ 57 < c)) : digs acc (x :: r) = digs (acc * 10 + (c - 48)) r := by
  rw [digs, if_neg (by omega), hx]
def numCap (o : Option Int) : Option Int := o.bind fun n => if n ≤ 2147483647 then some n else none
theorem numCap_ok {z : Int} (h : z ≤ 2147483647) : numCap (some z) = some z := by simp [numCap, h]
theorem numCap_no {z : Int} (h : ¬ z ≤ 2147483647) : numCap (some z) = none := by simp [numCap]; omega
def numH (l : List UInt8) : Option Int := if l = [] ∨ 10 < l.length ∨ bt l 0 = 48 then none else numCap (digs 0 l)
theorem digs_ge (l : List UInt8) : ∀ a n : Int, 0 ≤ a → digs a l = some n → a ≤ n := by
  induction l with
  | nil => intro a n _ h; simp [digs] at h; omega
  | cons c r ih =>
    intro a n ha h
    rw [digs] at h
    split at h
    · cases h
    · have := ih _ _ (by omega) h; omega
theorem numH_pos {l : List UInt8} {n : Int} (h : numH l = some n) : 1 ≤ n ∧ n ≤ 2147483647 := by
  unfold numH at h
  split at h
  · cases h
  · rename_i hc
    unfold numCap at h
    cases hd : digs 0 l with
    | none => rw [hd] at h; cases h
    | some m =>
      rw [hd] at h
      simp only [Option.bind_some] at h
      split at h
      · injection h with h
        subst h
        refine ⟨?_, by assumption⟩
        cases l with
        | nil => simp at hc
        | cons c r =>
          rw [digs] at hd
          split at hd
          · cases hd
          · have := digs_ge r _ _ (by omega) hd
            have h0 : bt (c :: r) 0 ≠ 48 := fun e => hc (.inr (.inr e))
            have h1 : bt (c :: r) 0 = (c.toNat : Int) := by simp [bt]
            omega
      · cases h

/-- The lines of a text: one more than its newlines. -/
def splitNL : List UInt8 → List (List UInt8)
  | [] => [[]]
  | c :: r => if (c.toNat : Int) = 10 then [] :: splitNL r else match splitNL r with
    | [] => [[c]]
    | h :: t => (c :: h) :: t
theorem splitNL_ne (l : List UInt8) : splitNL l ≠ [] := by
  cases l with
  | nil => simp [splitNL]
  | cons c r => rw [splitNL]; split; simp; split <;> simp
/-- What lies before newlines, cur being open. -/
def linesR (cur : List UInt8) : List UInt8 → List (List UInt8)
  | [] => []
  | c :: r => if (c.toNat : Int) = 10 then cur :: linesR [] r else linesR (cur ++ [c]) r
theorem linesR_nl {cur r : List UInt8} {c : Int} {x : UInt8} (hx : c = (x.toNat : Int)) (h : c = 10) : linesR cur (x :: r) = cur :: linesR [] r := by
  rw [linesR, if_pos (by omega)]
theorem linesR_go {cur r : List UInt8} {c : Int} {x : UInt8} (hx : c = (x.toNat : Int)) (h : ¬ c = 10) : linesR cur (x :: r) = linesR (cur ++ [x]) r := by
  rw [linesR, if_neg (by omega)]
theorem linesR_eq (t : List UInt8) : ∀ cur, ∃ h r, splitNL t = h :: r ∧ linesR cur (t ++ [10]) = (cur ++ h) :: r := by
  induction t with
  | nil => intro cur; exact ⟨[], [], rfl, by simp [linesR]⟩
  | cons c t ih =>
    intro cur
    by_cases hc : (c.toNat : Int) = 10
    · obtain ⟨h, r, e1, e2⟩ := ih []
      refine ⟨[], h :: r, by rw [splitNL, if_pos hc, e1], ?_⟩
      rw [List.cons_append, linesR, if_pos hc, e2]; simp
    · obtain ⟨h, r, e1, e2⟩ := ih (cur ++ [c])
      refine ⟨c :: h, r, by rw [splitNL, if_neg hc, e1], ?_⟩
      rw [List.cons_append, linesR, if_neg hc, e2]; simp
theorem linesR_split (t : List UInt8) : linesR [] (t ++ [10]) = splitNL t := by
  obtain ⟨h, r, e1, e2⟩ := linesR_eq t []
  rw [e2, e1]; rfl
def loadH (s : List UInt8) : Int × List (List UInt8) × Int :=
  if s = [] ∨ bt s (s.length - 1) ≠ 10 then (0, [], 28) else
  match numH ((splitNL (s.take (s.length - 1))).headD []) with
  | none => (0, [], 6)
  | some n => if valid n (splitNL (s.take (s.length - 1))).tail = 0 then (n, (splitNL (s.take (s.length - 1))).tail, 0) else (0, [], valid n (splitNL (s.take (s.length - 1))).tail)

theorem splitNL_free {s : List UInt8} (h : feeds s = false) : splitNL s = [s] := by
  induction s with
  | nil => rfl
  | cons c r ih =>
    simp [feeds] at h
    have h2 : feeds r = false := by simpa [feeds] using h.2
    rw [splitNL, if_neg (by omega), ih h2]
theorem splitNL_at {a b : List UInt8} (h : feeds a = false) : splitNL (a ++ 10 :: b) = a :: splitNL b := by
  induction a with
  | nil => rw [List.nil_append, splitNL, if_pos (by decide)]
  | cons c r ih =>
    simp [feeds] at h
    have h2 : feeds r = false := by simpa [feeds] using h.2
    rw [List.cons_append, splitNL, if_neg (by omega), ih h2]
end P
end Go.Proofs.YtbiilbdflmiehaaDoor
