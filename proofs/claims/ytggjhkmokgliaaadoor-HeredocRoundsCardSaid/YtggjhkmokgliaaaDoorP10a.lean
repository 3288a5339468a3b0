/- Chapter 10 in plain Lean: lines, tabs, delimiters. -/
import Derived.Test.YtggjhkmokgliaaaDoorK
namespace Go.Proofs.YtggjhkmokgliaaaDoor
open K
namespace P
abbrev Str := List UInt8
/-- The lines of a string, with their newlines. -/
def lns : Str → List Str
  | [] => []
  | c :: r => if c = 10 then [c] :: lns r else match lns r with
    | [] => [[c]]
    | l :: ls => (c :: l) :: ls
theorem lns_ne {s : Str} (h : s ≠ []) : lns s ≠ [] := by
  cases s with
  | nil => exact absurd rfl h
  | cons c r => rw [lns]; split; simp; split <;> simp
theorem lns_join : ∀ s : Str, (lns s).flatten = s
  | [] => rfl
  | c :: r => by
    rw [lns]
    have ih := lns_join r
    split
    · simp [ih]
    · cases hr : lns r with
      | nil => rw [hr] at ih; simp at ih; simp [← ih]
      | cons l ls => rw [hr] at ih; simp at ih ⊢; exact ih
theorem lns_mem_ne : ∀ (s : Str), ∀ l ∈ lns s, l ≠ []
  | [], l, h => by simp [lns] at h
  | c :: r, l, h => by
    rw [lns] at h
    split at h
    · rcases List.mem_cons.1 h with rfl | h
      · simp
      · exact lns_mem_ne r l h
    · cases hr : lns r with
      | nil => rw [hr] at h; simp at h; simp [h]
      | cons l' ls =>
        rw [hr] at h
        simp only at h
        rcases List.mem_cons.1 h with rfl | h
        · simp
        · exact lns_mem_ne r l (by rw [hr]; exact List.mem_cons_of_mem _ h)
theorem lns_length (s : Str) : (lns s).length ≤ s.length := by
  induction s with
  | nil => simp [lns]
  | cons c r ih =>
    rw [lns]
    split
    · simp; omega
    · cases hr : lns r with
      | nil => simp
      | cons l ls => rw [hr] at ih; simp at ih ⊢; omega
theorem flat_mem {ls : List Str} {l : Str} (h : l ∈ ls) : l.length ≤ ls.flatten.length := by
  induction ls with
  | nil => simp at h
  | cons x r ih =>
    rw [List.flatten_cons, List.length_append]
    rcases List.mem_cons.1 h with rfl | h
    · omega
    · have := ih h; omega
theorem lns_mem_len {s : Str} {l : Str} (h : l ∈ lns s) : l.length ≤ s.length := by
  have := flat_mem h
  rw [lns_join] at this
  exact this
/-- The first line, by the index of its newline. -/
theorem lns_at {a b : Str} (h : (10 : UInt8) ∉ a) : lns (a ++ 10 :: b) = (a ++ [10]) :: lns b := by
  induction a with
  | nil => rw [List.nil_append, lns, if_pos rfl]; rfl
  | cons c r ih =>
    simp only [List.mem_cons, not_or] at h
    rw [List.cons_append, lns, if_neg (fun e => h.1 e.symm), ih h.2]
    rfl
theorem lns_last {a : Str} (h : (10 : UInt8) ∉ a) (h0 : a ≠ []) : lns a = [a] := by
  induction a with
  | nil => exact absurd rfl h0
  | cons c r ih =>
    simp only [List.mem_cons, not_or] at h
    rw [lns, if_neg (fun e => h.1 e.symm)]
    cases r with
    | nil => rfl
    | cons d t => rw [ih h.2 (by simp)]
/-- A string that ends with a newline, or nothing, ahead of another. -/
def ended (s : Str) : Prop := s = [] ∨ s.getLast? = some 10
theorem lns_app : ∀ {s : Str} (t : Str), ended s → lns (s ++ t) = lns s ++ lns t
  | [], t, _ => rfl
  | c :: r, t, h => by
    rw [List.cons_append, lns, lns]
    by_cases hc : c = 10
    · rw [if_pos hc, if_pos hc]
      have : ended r := by
        rcases h with h | h
        · cases h
        · cases r with
          | nil => exact .inl rfl
          | cons d u => rw [List.getLast?_cons_cons] at h; exact .inr h
      rw [lns_app t this]
      rfl
    · rw [if_neg hc, if_neg hc]
      have hr : r ≠ [] := by
        rintro rfl
        rcases h with h | h
        · cases h
        · simp at h; exact hc h
      have : ended r := by
        rcases h with h | h
        · cases h
        · cases r with
          | nil => exact absurd rfl hr
          | cons d u => rw [List.getLast?_cons_cons] at h; exact .inr h
      rw [lns_app t this]
      cases hl : lns r with
      | nil => exact absurd hl (lns_ne hr)
      | cons l ls => rfl
theorem lns_ended : ∀ {s : Str}, ended s → ∀ l ∈ lns s, ∃ a, l = a ++ [10] ∧ (10 : UInt8) ∉ a
  | [], _, l, h => by simp [lns] at h
  | c :: r, h, l, hl => by
    rw [lns] at hl
    by_cases hc : c = 10
    · rw [if_pos hc] at hl
      rcases List.mem_cons.1 hl with rfl | hl
      · exact ⟨[], by simp [hc], by simp⟩
      · have : ended r := by
          rcases h with h | h
          · cases h
          · cases r with
            | nil => exact .inl rfl
            | cons d u => rw [List.getLast?_cons_cons] at h; exact .inr h
        exact lns_ended this l hl
    · rw [if_neg hc] at hl
      have hr : r ≠ [] := by
        rintro rfl
        rcases h with h | h
        · cases h
        · simp at h; exact hc h
      have he : ended r := by
        rcases h with h | h
        · cases h
        · cases r with
          | nil => exact absurd rfl hr
          | cons d u => rw [List.getLast?_cons_cons] at h; exact .inr h
      cases hl' : lns r with
      | nil => exact absurd hl' (lns_ne hr)
      | cons l' ls =>
        rw [hl'] at hl
        simp only at hl
        rcases List.mem_cons.1 hl with rfl | hl
        · obtain ⟨a, ha, hn⟩ := lns_ended he l' (by rw [hl']; simp)
          exact ⟨c :: a, by rw [ha]; rfl, by simp only [List.mem_cons, not_or]; exact ⟨fun e => hc e.symm, hn⟩⟩
        · exact lns_ended he l (by rw [hl']; exact List.mem_cons_of_mem _ hl)
/-- Without tabs ahead. -/
def notab : Str → Str
  | [] => []
  | c :: r => if c = 9 then notab r else c :: r
theorem notab_len (s : Str) : (notab s).length ≤ s.length := by
  induction s with
  | nil => simp [notab]
  | cons c r ih => rw [notab]; split <;> simp <;> omega
theorem notab_app {a b : Str} (h : notab a ≠ []) : notab (a ++ b) = notab a ++ b := by
  induction a with
  | nil => simp [notab] at h
  | cons c r ih =>
    rw [List.cons_append, notab, notab]
    rw [notab] at h
    by_cases hc : c = 9
    · rw [if_pos hc] at h
      rw [if_pos hc, if_pos hc, ih h]
    · rw [if_neg hc, if_neg hc]; rfl
theorem notab_nl (a : Str) : notab (a ++ [10]) = notab a ++ [10] := by
  induction a with
  | nil => rfl
  | cons c r ih =>
    rw [List.cons_append, notab, notab]
    split
    · exact ih
    · rfl
theorem notab_idem (s : Str) : notab (notab s) = notab s := by
  induction s with
  | nil => rfl
  | cons c r ih =>
    rw [notab]
    split
    · exact ih
    · rename_i h; rw [notab, if_neg h]
/-- Without its newline. -/
def chomp (l : Str) : Str := if l.getLast? = some 10 then l.dropLast else l
theorem chomp_nl (a : Str) : chomp (a ++ [10]) = a := by unfold chomp; simp
theorem chomp_no {a : Str} (h : (10 : UInt8) ∉ a) : chomp a = a := by
  unfold chomp
  rw [if_neg]
  intro e
  exact h (List.mem_of_getLast? e)
def stripP (s : Str) : Str := ((lns s).map notab).flatten
/-- The reference's Strip. -/
def stripR : Bool → Str → Str
  | _, [] => []
  | b, c :: r => if b = true ∧ c = 9 then stripR true r else c :: stripR (decide (c = 10)) r
theorem stripR_no {a : Str} (h : (10 : UInt8) ∉ a) (b : Str) : stripR false (a ++ 10 :: b) = a ++ 10 :: stripR true b := by
  induction a with
  | nil => rw [List.nil_append, stripR, if_neg (by simp)]; rfl
  | cons c r ih =>
    simp only [List.mem_cons, not_or] at h
    have hc : ¬ c = 10 := fun e => h.1 e.symm
    rw [List.cons_append, stripR, if_neg (by simp), decide_eq_false hc, ih h.2]
    rfl
theorem stripR_last {a : Str} (h : (10 : UInt8) ∉ a) : stripR false a = a := by
  induction a with
  | nil => rfl
  | cons c r ih =>
    simp only [List.mem_cons, not_or] at h
    have hc : ¬ c = 10 := fun e => h.1 e.symm
    rw [stripR, if_neg (by simp), decide_eq_false hc, ih h.2]
theorem stripR_line {a : Str} (h : (10 : UInt8) ∉ a) (b : Str) : stripR true (a ++ 10 :: b) = notab a ++ 10 :: stripR true b := by
  induction a with
  | nil => rw [List.nil_append, stripR, if_neg (by simp)]; rfl
  | cons c r ih =>
    simp only [List.mem_cons, not_or] at h
    have hc : ¬ c = 10 := fun e => h.1 e.symm
    rw [List.cons_append, stripR, notab]
    by_cases h9 : c = 9
    · rw [if_pos ⟨rfl, h9⟩, if_pos h9, ih h.2]
    · rw [if_neg (fun e => h9 e.2), if_neg h9, decide_eq_false hc, stripR_no h.2]
      rfl
theorem stripR_end {a : Str} (h : (10 : UInt8) ∉ a) : stripR true a = notab a := by
  induction a with
  | nil => rfl
  | cons c r ih =>
    simp only [List.mem_cons, not_or] at h
    have hc : ¬ c = 10 := fun e => h.1 e.symm
    rw [stripR, notab]
    by_cases h9 : c = 9
    · rw [if_pos ⟨rfl, h9⟩, if_pos h9, ih h.2]
    · rw [if_neg (fun e => h9 e.2), if_neg h9, decide_eq_false hc, stripR_last h.2]
/-- A string is a line and more, or a last line. -/
theorem parts_of (s : Str) : (∃ a b, s = a ++ 10 :: b ∧ (10 : UInt8) ∉ a) ∨ (10 : UInt8) ∉ s := by
  induction s with
  | nil => right; simp
  | cons c r ih =>
    by_cases hc : c = 10
    · exact .inl ⟨[], r, by simp [hc], by simp⟩
    · rcases ih with ⟨a, b, e, h⟩ | h
      · exact .inl ⟨c :: a, b, by rw [e]; rfl, by simp only [List.mem_cons, not_or]; exact ⟨fun e => hc e.symm, h⟩⟩
      · exact .inr (by simp only [List.mem_cons, not_or]; exact ⟨fun e => hc e.symm, h⟩)
theorem strip_same : ∀ (n : Nat) (s : Str), s.length ≤ n → stripR true s = stripP s
  | 0, s, h => by
    have : s = [] := List.eq_nil_of_length_eq_zero (by omega)
    subst this
    rfl
  | n + 1, s, h => by
    rcases parts_of s with ⟨a, b, rfl, ha⟩ | hs
    · unfold stripP
      rw [stripR_line ha, lns_at ha, List.map_cons, List.flatten_cons, notab_nl]
      have := strip_same n b (by simp at h; omega)
      unfold stripP at this
      rw [this]
      simp
    · rw [stripR_end hs]
      by_cases h0 : s = []
      · subst h0; rfl
      · unfold stripP
        rw [lns_last hs h0]
        simp
theorem stripR_eq (s : Str) : stripR true s = stripP s := strip_same s.length s (Nat.le_refl _)
theorem notab_no {a : Str} (h : (10 : UInt8) ∉ a) : (10 : UInt8) ∉ notab a := by
  induction a with
  | nil => exact h
  | cons c r ih =>
    rw [notab]
    split
    · exact ih (fun e => h (List.mem_cons_of_mem _ e))
    · exact h
theorem strip_idem : ∀ (n : Nat) (s : Str), s.length ≤ n → stripP (stripP s) = stripP s
  | 0, s, h => by
    have : s = [] := List.eq_nil_of_length_eq_zero (by omega)
    subst this
    rfl
  | n + 1, s, h => by
    rcases parts_of s with ⟨a, b, rfl, ha⟩ | hs
    · have e : stripP (a ++ 10 :: b) = notab a ++ 10 :: stripP b := by
        unfold stripP
        rw [lns_at ha, List.map_cons, List.flatten_cons, notab_nl]
        simp
      have ih := strip_idem n b (by simp at h; omega)
      have e2 : stripP (notab a ++ 10 :: stripP b) = notab (notab a) ++ 10 :: stripP (stripP b) := by
        conv => lhs; unfold stripP
        rw [lns_at (notab_no ha), List.map_cons, List.flatten_cons, notab_nl]
        unfold stripP
        simp
      rw [e, e2, notab_idem, ih]
    · have e : ∀ t : Str, (10 : UInt8) ∉ t → stripP t = notab t := by
        intro t ht
        by_cases h0 : t = []
        · subst h0; rfl
        · unfold stripP; rw [lns_last ht h0]; simp
      rw [e s hs, e _ (notab_no hs), notab_idem]
theorem strip_twice (s : Str) : stripP (stripP s) = stripP s := strip_idem s.length s (Nat.le_refl _)
theorem stripP_len (s : Str) : (stripP s).length ≤ s.length := by
  have h := lns_join s
  conv => rhs; rw [← h]
  unfold stripP
  generalize lns s = ls
  induction ls with
  | nil => simp
  | cons l r ih => simp; have := notab_len l; simp at ih; omega
end P
end Go.Proofs.YtggjhkmokgliaaaDoor
