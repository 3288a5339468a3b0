/- Variables in plain Lean. -/
import Derived.Test.YtcbebkeakkahgaaGreatDoorK
namespace Go.Proofs.YtcbebkeakkahgaaGreatDoor
open K
namespace VR
abbrev Str := List UInt8
structure Var where
  name : Str
  value : Str
  set : Bool
  exp : Bool
  ro : Bool
def cells (v : Var) : List Value := [.string ⟨v.name.toArray⟩, .string ⟨v.value.toArray⟩, .bool v.set, .bool v.exp, .bool v.ro]
theorem cells_len (v : Var) : (cells v).length = 5 := rfl
/-- The place of the first element that is wanted, counted from k on; -1 if there is none. -/
def ix {α : Type} (p : α → Bool) : List α → Nat → Int
  | [], _ => -1
  | x :: l, k => if p x = true then (k : Int) else ix p l (k + 1)
theorem ix_drop {α : Type} (p : α → Bool) {l : List α} {k : Nat} {x : α} (h : l[k]? = some x) : ix p (l.drop k) k = if p x = true then (k : Int) else ix p (l.drop (k + 1)) (k + 1) := by
  obtain ⟨hk, rfl⟩ := List.getElem?_eq_some_iff.1 h
  rw [List.drop_eq_getElem_cons hk, ix]
theorem ix_end {α : Type} (p : α → Bool) {l : List α} {k : Nat} (h : ¬ k < l.length) : ix p (l.drop k) k = -1 := by rw [List.drop_eq_nil_of_le (by omega)]; rfl
theorem ix_le {α : Type} (p : α → Bool) : ∀ (l : List α) (k : Nat), -1 ≤ ix p l k ∧ ix p l k < k + l.length
  | [], k => by rw [ix]; simp; omega
  | x :: l, k => by
    rw [ix]
    have := ix_le p l (k + 1)
    split <;> simp <;> omega
/-- What splice makes. -/
def splice {α : Type} (l : List α) (i n : Nat) (vs : List α) : List α := l.take i ++ vs ++ l.drop (i + n)
end VR
end Go.Proofs.YtcbebkeakkahgaaGreatDoor
