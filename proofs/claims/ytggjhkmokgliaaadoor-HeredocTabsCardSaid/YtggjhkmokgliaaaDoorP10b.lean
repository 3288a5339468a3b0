/- Chapter 10 in plain Lean: one here-document. -/
import Derived.Test.YtggjhkmokgliaaaDoorP10a
namespace Go.Proofs.YtggjhkmokgliaaaDoor
open K
namespace P
def proc (st : Bool) (l : Str) : Str := if st then notab l else l
theorem proc_len (st : Bool) (l : Str) : (proc st l).length ≤ l.length := by
  unfold proc
  split
  · exact notab_len l
  · exact Nat.le_refl _
/-- The contents of a here-document and the number of bytes that it takes with its delimiter. -/
def docP (st : Bool) (text : Str) : List Str → Option (Str × Nat)
  | [] => none
  | l :: r => if chomp (proc st l) = text then some ([], l.length) else (docP st text r).map fun q => (proc st l ++ q.1, l.length + q.2)
def acc (st : Bool) (ls : List Str) : Str := (ls.map (proc st)).flatten
def tot (ls : List Str) : Nat := ls.flatten.length
theorem acc_snoc (st : Bool) (ls : List Str) (x : Str) : acc st (ls ++ [x]) = acc st ls ++ proc st x := by unfold acc; simp
theorem tot_snoc (ls : List Str) (x : Str) : tot (ls ++ [x]) = tot ls + x.length := by unfold tot; simp
theorem acc_len (st : Bool) (ls : List Str) : (acc st ls).length ≤ tot ls := by
  unfold acc tot
  induction ls with
  | nil => simp
  | cons l r ih => simp at ih ⊢; have := proc_len st l; omega
theorem docP_hit {st : Bool} {text : Str} : ∀ {q : List Str} {x : Str} {r : List Str}, (∀ l ∈ q, chomp (proc st l) ≠ text) → chomp (proc st x) = text → docP st text (q ++ x :: r) = some (acc st q, tot (q ++ [x]))
  | [], x, r, _, hx => by rw [List.nil_append, docP, if_pos hx]; simp [acc, tot]
  | l :: q, x, r, h, hx => by
    rw [List.cons_append, docP, if_neg (h l (by simp)), docP_hit (fun l' hl' => h l' (List.mem_cons_of_mem _ hl')) hx]
    simp [acc, tot]
theorem docP_none {st : Bool} {text : Str} : ∀ {q : List Str}, (∀ l ∈ q, chomp (proc st l) ≠ text) → docP st text q = none
  | [], _ => rfl
  | l :: q, h => by rw [docP, if_neg (h l (by simp)), docP_none (fun l' hl' => h l' (List.mem_cons_of_mem _ hl'))]; rfl
end P
end Go.Proofs.YtggjhkmokgliaaaDoor
