/- Chapter 10 in plain Lean: contents that are followed by their delimiter are read unchanged. -/
import Derived.Test.YtggjhkmokgliaaaDoorP10c
namespace Go.Proofs.YtggjhkmokgliaaaDoor
open K
namespace P
theorem delP_ex_eof (s : Str) : ∃ k, delP s = eofT k := ⟨_, rfl⟩
theorem delP_no (s : Str) : (10 : UInt8) ∉ delP s := by obtain ⟨k, h⟩ := delP_ex_eof s; rw [h]; exact eofT_no k
theorem delP_head (s : Str) : ∃ r, delP s = 69 :: r := by obtain ⟨k, h⟩ := delP_ex_eof s; rw [h]; exact eofT_head k
theorem delP_ne (s : Str) : delP s ≠ [] := by obtain ⟨r, h⟩ := delP_head s; rw [h]; simp
theorem acc_false (ls : List Str) : acc false ls = ls.flatten := by
  unfold acc
  congr 1
  induction ls with
  | nil => rfl
  | cons l r ih => rw [List.map_cons, ih]; rfl
theorem acc_true (ls : List Str) : acc true ls = (ls.map notab).flatten := by
  unfold acc
  congr 1
theorem tot_lns (s : Str) : tot (lns s) = s.length := by unfold tot; rw [lns_join]
theorem doc_round (s t : Str) (hs : ended s) (ht : t = [] ∨ ∃ r, t = 10 :: r) : docP false (delP s) (lns (s ++ (delP s ++ t))) = some (s, s.length + (delP s).length + (if t = [] then 0 else 1)) := by
  have hq : ∀ l ∈ lns s, chomp (proc false l) ≠ delP s := fun l hl e => delP_not s (by
    unfold bare
    rw [← e]
    exact List.mem_map_of_mem (f := chomp) hl)
  rw [lns_app _ hs]
  rcases ht with rfl | ⟨r, rfl⟩
  · rw [List.append_nil, lns_last (delP_no s) (delP_ne s), docP_hit hq (by show chomp (delP s) = _; exact chomp_no (delP_no s)), acc_false, lns_join, tot_snoc, tot_lns]
    simp
  · rw [lns_at (delP_no s), docP_hit hq (by show chomp (delP s ++ [10]) = _; exact chomp_nl _), acc_false, lns_join, tot_snoc, tot_lns]
    simp [Nat.add_assoc]
theorem lns_flat : ∀ (ls : List Str), (∀ l ∈ ls, ∃ a, l = a ++ [10] ∧ (10 : UInt8) ∉ a) → lns ls.flatten = ls
  | [], _ => rfl
  | l :: r, h => by
    obtain ⟨a, rfl, ha⟩ := h l (by simp)
    rw [List.flatten_cons, List.append_assoc]
    show lns (a ++ 10 :: r.flatten) = _
    rw [lns_at ha, lns_flat r (fun x hx => h x (List.mem_cons_of_mem _ hx))]
theorem lns_strip {s : Str} (hs : ended s) : lns (stripP s) = (lns s).map notab := by
  unfold stripP
  refine lns_flat _ fun l hl => ?_
  obtain ⟨x, hx, rfl⟩ := List.mem_map.1 hl
  obtain ⟨a, rfl, ha⟩ := lns_ended hs x hx
  exact ⟨notab a, notab_nl a, notab_no ha⟩
/-- n tabs ahead of a string. -/
def tabs : Nat → Str → Str
  | 0, d => d
  | n + 1, d => 9 :: tabs n d
theorem tabs_snoc : ∀ (n : Nat) (d : Str), tabs n (9 :: d) = tabs (n + 1) d
  | 0, _ => rfl
  | n + 1, d => by rw [tabs, tabs_snoc n d]; rfl
theorem tabs_len : ∀ (n : Nat) (d : Str), (tabs n d).length = n + d.length
  | 0, _ => by simp [tabs]
  | n + 1, d => by rw [tabs, List.length_cons, tabs_len n d]; omega
theorem tabs_notab : ∀ (n : Nat) (d : Str), notab (tabs n d) = notab d
  | 0, _ => rfl
  | n + 1, d => by rw [tabs, notab, if_pos rfl, tabs_notab n d]
theorem tabs_no : ∀ (n : Nat) (d : Str), (10 : UInt8) ∉ d → (10 : UInt8) ∉ tabs n d
  | 0, _, h => h
  | n + 1, d, h => by rw [tabs]; simp only [List.mem_cons, not_or]; exact ⟨by decide, tabs_no n d h⟩
theorem doc_tabs (s : Str) (n : Nat) (hs : ended s) : docP true (delP (stripP s)) (lns (s ++ tabs n (delP (stripP s)))) = some (stripP s, s.length + (tabs n (delP (stripP s))).length) := by
  have hq : ∀ l ∈ lns s, chomp (proc true l) ≠ delP (stripP s) := fun l hl e => delP_not (stripP s) (by
    unfold bare
    rw [lns_strip hs, ← e]
    exact List.mem_map_of_mem (f := chomp) (List.mem_map_of_mem (f := notab) hl))
  have hne : tabs n (delP (stripP s)) ≠ [] := by
    intro e
    have := congrArg List.length e
    rw [tabs_len] at this
    have h2 := List.length_pos_iff.2 (delP_ne (stripP s))
    rw [List.length_nil] at this
    omega
  have hnt : notab (delP (stripP s)) = delP (stripP s) := by
    obtain ⟨r, hr⟩ := delP_head (stripP s)
    rw [hr, notab, if_neg (by decide)]
  rw [lns_app _ hs, lns_last (tabs_no n _ (delP_no _)) hne, docP_hit hq (by show chomp (notab (tabs n _)) = _; rw [tabs_notab, hnt]; exact chomp_no (delP_no _)), acc_true, tot_snoc, tot_lns]
  rfl
end P
end Go.Proofs.YtggjhkmokgliaaaDoor
