/- Chapter 29 in plain Lean: the reference's Clean is the program's. -/
import Derived.Test.YtmccfdmnidbalaaGreatDoorP29d
namespace Go.Proofs.YtmccfdmnidbalaaGreatDoor
open K
namespace P
theorem join_snoc (x : List UInt8) (r : List (List UInt8)) (h : r ≠ []) : Lib.join (r ++ [x]) [47] = Lib.join r [47] ++ 47 :: x := by
  cases r with
  | nil => exact absurd rfl h
  | cons y r =>
    rw [List.cons_append, Lib.join_cons, Lib.join_cons]
    simp [Lib.joinTail]
theorem join_split : ∀ l : List UInt8, Lib.join (split47 l) [47] = l
  | [] => rfl
  | c :: r => by
    have ih := join_split r
    rw [split47]
    cases hr : split47 r with
    | nil => exact absurd hr (split47_ne r)
    | cons h t =>
      rw [hr, Lib.join_cons] at ih
      split
      · rename_i hc
        have hc' : c = 47 := UInt8.toNat_inj.1 (by have : (47 : UInt8).toNat = 47 := rfl; omega)
        rw [Lib.join_cons, List.nil_append]
        simp only [Lib.joinTail, List.map_cons, List.flatten_cons, List.cons_append, List.nil_append]
        simp only [Lib.joinTail, List.cons_append, List.nil_append] at ih
        rw [ih, hc']
      · simp only
        rw [Lib.join_cons, List.cons_append, ih]
/-- The place of the last slash. -/
def cutF (at' i : Nat) : List UInt8 → Nat
  | [] => at'
  | c :: r => cutF (if (c.toNat : Int) = 47 then i else at') (i + 1) r
def cutL (s : List UInt8) : Nat := cutF 0 0 s
def parentS (s : List UInt8) : List UInt8 := if cutL s = 0 then [47] else s.take (cutL s)
theorem cutF_free : ∀ {b : List UInt8} (at' i : Nat), slash b = false → cutF at' i b = at'
  | [], _, _, _ => rfl
  | c :: r, at', i, h => by
    simp [slash] at h
    have h2 : slash r = false := by simpa [slash] using h.2
    rw [cutF, if_neg (by omega), cutF_free _ _ h2]
theorem cutF_at : ∀ (a : List UInt8) {b : List UInt8} (at' i : Nat), slash b = false → cutF at' i (a ++ 47 :: b) = i + a.length
  | [], b, at', i, h => by
    rw [List.nil_append, cutF, if_pos (by decide), cutF_free _ _ h]
    rfl
  | c :: r, b, at', i, h => by
    rw [List.cons_append, cutF, cutF_at r _ _ h, List.length_cons]
    omega
theorem parent_show {ns : List (List UInt8)} (h : ns.all nameB = true) : parentS (showN ns) = showN ns.dropLast := by
  rcases List.eq_nil_or_concat ns with rfl | ⟨init, x, hx0⟩
  · rfl
  · rw [List.concat_eq_append] at hx0
    subst hx0
    rw [List.dropLast_concat]
    have hx : slash x = false := by
      rw [List.all_append, Bool.and_eq_true] at h
      exact nameB_slash (by simpa using h.2)
    by_cases hi : init = []
    · subst hi
      have e : showN ([] ++ [x]) = [] ++ 47 :: x := by unfold showN; rw [List.nil_append, Lib.join_one]; rfl
      rw [e]
      unfold parentS cutL
      rw [cutF_at [] 0 0 hx]
      rfl
    · have e : showN (init ++ [x]) = showN init ++ 47 :: x := by unfold showN; rw [join_snoc x init hi]; rfl
      rw [e]
      unfold parentS cutL
      rw [cutF_at _ 0 0 hx]
      have hp : (showN init).length ≠ 0 := by unfold showN; simp
      rw [if_neg (by omega), Nat.zero_add, List.take_left]
theorem show_root {ns : List (List UInt8)} (h : ns.all nameB = true) : showN ns = [47] ↔ ns = [] := by
  constructor
  · intro e
    cases ns with
    | nil => rfl
    | cons x r =>
      exfalso
      rw [List.all_cons, Bool.and_eq_true] at h
      have := nameB_ne h.1
      unfold showN at e
      rw [Lib.join_cons] at e
      simp at e
      exact this e.1
  · rintro rfl
    rfl
theorem show_snoc {ns : List (List UInt8)} (h : ns.all nameB = true) (s : List UInt8) : (if showN ns = [47] then [] else showN ns) ++ 47 :: s = showN (ns ++ [s]) := by
  by_cases hn : ns = []
  · subst hn
    rw [if_pos (show showN [] = [47] from rfl), List.nil_append]
    unfold showN
    rw [List.nil_append, Lib.join_one]
  · rw [if_neg (fun e => hn ((show_root h).1 e))]
    unfold showN
    rw [join_snoc s ns hn]
    rfl
def stepR (at' s : List UInt8) : Option (List UInt8) :=
  if s = [] ∨ s = [46] then some at' else if s = [46, 46] then some (parentS at') else if nameB s = true then some ((if at' = [47] then [] else at') ++ 47 :: s) else none
def cleanRL (at' : List UInt8) : List (List UInt8) → Option (List UInt8)
  | [] => some at'
  | s :: r => match stepR at' s with
    | none => none
    | some a => cleanRL a r
theorem stepN_names {ns : List (List UInt8)} (h : ns.all nameB = true) {s : List UInt8} {m : List (List UInt8)} (hm : stepN ns s = some m) : m.all nameB = true := by
  unfold stepN at hm
  split at hm
  · injection hm with hm; subst hm; exact h
  · split at hm
    · injection hm with hm; subst hm
      rw [List.all_eq_true] at h ⊢
      intro x hx
      exact h x (List.dropLast_subset _ hx)
    · split at hm
      · rename_i hs
        injection hm with hm; subst hm
        rw [List.all_append, h]
        simpa using hs
      · cases hm
theorem step_eq {ns : List (List UInt8)} (h : ns.all nameB = true) (s : List UInt8) : stepR (showN ns) s = (stepN ns s).map showN := by
  unfold stepR stepN
  split
  · rfl
  · split
    · rw [parent_show h]; rfl
    · split
      · rw [show_snoc h]; rfl
      · rfl
theorem clean_eq : ∀ (l : List (List UInt8)) {ns : List (List UInt8)}, ns.all nameB = true → cleanRL (showN ns) l = (cleanN ns l).map showN
  | [], ns, _ => rfl
  | s :: r, ns, h => by
    rw [cleanRL, cleanN, step_eq h]
    cases hm : stepN ns s with
    | none => rfl
    | some m => exact clean_eq r (stepN_names h hm)
def cleanRO (cwd path : List UInt8) : Option (List UInt8) :=
  if pathB cwd = false then none else if path = [] then none else
  match cleanRL (if path.head? = some 47 then [47] else cwd) (split47 path) with
  | none => none
  | some a => if 128 < a.length then none else some a
theorem path_names {cwd : List UInt8} (h : pathB cwd = true) (hr : cwd ≠ [47]) : (split47 (cwd.drop 1)).all nameB = true ∧ showN (split47 (cwd.drop 1)) = cwd := by
  unfold pathB at h
  simp only [Bool.or_eq_true, Bool.and_eq_true, beq_iff_eq] at h
  rcases h with h | ⟨⟨_, h1⟩, h2⟩
  · exact absurd h hr
  · refine ⟨h2, ?_⟩
    unfold showN
    rw [join_split]
    cases cwd with
    | nil => simp at h1
    | cons c r => simp at h1; subst h1; rfl
theorem clean_same (cwd path : List UInt8) : cleanRO cwd path = cleanO cwd path := by
  unfold cleanRO cleanO
  split
  · rfl
  · rename_i hp
    have hp' : pathB cwd = true := by simpa using hp
    split
    · rfl
    · have key : cleanRL (if path.head? = some 47 then [47] else cwd) (split47 path) = (cleanN (start cwd path) (split47 path)).map showN := by
        unfold start
        by_cases h1 : path.head? = some 47
        · rw [if_pos h1, if_pos (.inl h1)]
          exact clean_eq _ (ns := []) rfl
        · rw [if_neg h1]
          by_cases h2 : cwd = [47]
          · rw [if_pos (.inr h2), h2]
            exact clean_eq _ (ns := []) rfl
          · rw [if_neg (by rintro (h | h); exact h1 h; exact h2 h)]
            obtain ⟨n1, n2⟩ := path_names hp' h2
            conv => lhs; rw [← n2]
            exact clean_eq _ n1
      rw [key]
      cases cleanN (start cwd path) (split47 path) with
      | none => rfl
      | some ns => rfl
end P
end Go.Proofs.YtmccfdmnidbalaaGreatDoor
