/- Field splitting in plain Lean: bounds. -/
import Derived.Test.YtkceenmlhfkkhaaGreatDoorY18
import Derived.Test.YtkceenmlhfkkhaaGreatDoorY20
namespace Go.Proofs.YtkceenmlhfkkhaaGreatDoor
open K
namespace SP
theorem sum_ge {α : Type} : ∀ L : List (List α), (∀ f ∈ L, f ≠ []) → L.length ≤ (L.map List.length).sum
  | [], _ => Nat.le_refl _
  | f :: L, h => by
    have h1 := sum_ge L fun g hg => h g (List.mem_cons_of_mem _ hg)
    have h2 := List.length_pos_iff.2 (h f List.mem_cons_self)
    rw [List.map_cons, List.sum_cons, List.length_cons]
    omega
theorem le_sum {α : Type} : ∀ (L : List (List α)), ∀ f ∈ L, f.length ≤ (L.map List.length).sum
  | [], f, h => by cases h
  | g :: L, f, h => by
    rw [List.map_cons, List.sum_cons]
    rcases List.mem_cons.1 h with rfl | h
    · omega
    · have := le_sum L f h
      omega
theorem fields_cnt (b : Bool) (l : List Run) : (fields b l).length ≤ (els l).length := by
  unfold fields
  rw [List.length_map]
  have h1 := sum_ge _ (fld_ne b (els l) [])
  have h2 := fld_len b (els l) []
  rw [List.length_nil] at h2
  omega
theorem grp_len : ∀ l : List El, (grp l).length ≤ l.length
  | [] => Nat.le_refl _
  | x :: l => by
    have h := grp_len l
    rw [grp]
    split
    · simp
    · rename_i t c rs he
      rw [he] at h
      split <;> simp at h ⊢ <;> omega
theorem grp_ne : ∀ l : List El, l ≠ [] → grp l ≠ []
  | [], h => absurd rfl h
  | x :: l, _ => by
    rw [grp]
    split
    · simp
    · split <;> simp
theorem join_len : ∀ l : List El, (∀ x ∈ l, x.1.length ≤ 1) → (join l).length ≤ l.length
  | [], _ => Nat.le_refl _
  | x :: l, h => by
    have h1 := join_len l fun y hy => h y (List.mem_cons_of_mem _ hy)
    have h2 := h x List.mem_cons_self
    show (x.1 ++ join l).length ≤ _
    rw [List.length_append, List.length_cons]
    omega
theorem fields_ok (b : Bool) (l : List Run) (N : Nat) (h : (els l).length ≤ N) : ∀ f ∈ fields b l, f ≠ [] ∧ f.length ≤ N ∧ (text f).length ≤ N := by
  intro f hf
  unfold fields at hf
  obtain ⟨e, he, rfl⟩ := List.mem_map.1 hf
  have h1 := le_sum _ e he
  have h2 := fld_len b (els l) []
  rw [List.length_nil] at h2
  have h3 := grp_len e
  have h4 := join_len e fun x hx => (fld_mem b (C := ok) (els l) [] els_ok (by simp) e he x hx).1
  refine ⟨grp_ne e (fld_ne b (els l) [] e he), by omega, ?_⟩
  rw [grp_text]
  omega
theorem els_len : ∀ l : List Run, (els l).length ≤ (l.map fun r => r.1.length + 1).sum
  | [] => Nat.le_refl _
  | r :: l => by
    have h := els_len l
    rw [els_cons, List.length_append, List.map_cons, List.sum_cons]
    have h1 : (elsOf r).length ≤ r.1.length + 1 := by
      unfold elsOf
      split
      · simp
      · rw [List.length_append, List.length_map]
        split <;> simp <;> omega
    omega
theorem fields_okr (b : Bool) (l : List Run) (h : ∀ r ∈ l, lit r) (hc : ∀ r ∈ l, 0 ≤ r.2 ∧ r.2 ≤ 3) : ∀ f ∈ fields b l, okr f :=
  fun f hf r hr => ⟨(fields_class b l hc f hf r hr).1, (fields_class b l hc f hf r hr).2, fields_lit b h f hf r hr⟩
theorem listed_mem : ∀ (ps : List Str), ∀ r ∈ listed ps, (r.2 = 1 ∧ r.1 ∈ ps) ∨ (r.2 = 3 ∧ r.1 = [])
  | [], r, h => by cases h
  | [p], r, h => by
    rw [listed, List.mem_singleton] at h
    subst h
    exact .inl ⟨rfl, List.mem_singleton.2 rfl⟩
  | p :: q :: t, r, h => by
    rw [listed, List.mem_cons, List.mem_cons] at h
    rcases h with rfl | rfl | h
    · exact .inl ⟨rfl, List.mem_cons_self⟩
    · exact .inr ⟨rfl, rfl⟩
    · rcases listed_mem (q :: t) r h with ⟨h1, h2⟩ | h
      · exact .inl ⟨h1, List.mem_cons_of_mem _ h2⟩
      · exact .inr h
theorem listed_sum (N : Nat) : ∀ (ps : List Str), (∀ p ∈ ps, p.length ≤ N) → ((listed ps).map fun r => r.1.length + 1).sum ≤ (N + 2) * ps.length
  | [], _ => Nat.zero_le _
  | [p], h => by
    have := h p List.mem_cons_self
    simp [listed]
    omega
  | p :: q :: t, h => by
    have h1 := h p List.mem_cons_self
    have h2 := listed_sum N (q :: t) fun x hx => h x (List.mem_cons_of_mem _ hx)
    rw [listed, List.map_cons, List.sum_cons, List.map_cons, List.sum_cons, List.length_cons, Nat.mul_add]
    simp only [List.length_nil] at h2 ⊢
    omega
end SP
end Go.Proofs.YtkceenmlhfkkhaaGreatDoor
