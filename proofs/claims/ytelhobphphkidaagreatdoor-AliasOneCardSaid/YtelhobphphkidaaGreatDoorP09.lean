/- Chapter 9 in plain Lean: lists of aliases. -/
import Derived.Test.YtelhobphphkidaaGreatDoorP01
namespace Go.Proofs.YtelhobphphkidaaGreatDoor
open K
namespace AL
abbrev Str := List UInt8
/-- An alias: its name, its value. -/
abbrev Al := Str × Str
def res : List Str := [[33], [123], [125], [99, 97, 115, 101], [100, 111], [100, 111, 110, 101], [101, 108, 105, 102], [101, 108, 115, 101], [101, 115, 97, 99], [102, 105], [102, 111, 114], [105, 102], [105, 110], [116, 104, 101, 110], [117, 110, 116, 105, 108], [119, 104, 105, 108, 101]]
def resB (t : Str) : Bool := decide (t ∈ res)
def named (s : Str) : Bool := decide (s.length ≤ 32) && (P.plainB s && !resB s)
/-- Whether a name does not lie behind the one ahead of it. -/
def behind : Option Str → Str → Bool
  | none, _ => false
  | some q, s => !decide (q < s)
def vfrom : Option Str → List Al → Int
  | _, [] => 0
  | p, a :: r => if named a.1 = false then 10 else if 4096 < a.2.length then 3 else if behind p a.1 = true then 1 else vfrom (some a.1) r
def valid (l : List Al) : Int := if 64 < l.length then 4 else vfrom none l
def get : List Al → Str → Option Str
  | [], _ => none
  | a :: r, n => if a.1 = n then some a.2 else get r n
def Sorted (l : List Al) : Prop := l.Pairwise fun a b => a.1 < b.1
def Good (a : Al) : Prop := named a.1 = true ∧ a.2.length ≤ 4096
theorem lt_of_not {a b : Str} (h : ¬ a < b) (h2 : a ≠ b) : b < a := by
  rcases Std.lt_trichotomy a b with h3 | h3 | h3
  · exact absurd h3 h
  · exact absurd h3 h2
  · exact h3
theorem vfrom_zero : ∀ (l : List Al) (p : Option Str), vfrom p l = 0 ↔ (∀ a ∈ l, Good a) ∧ Sorted l ∧ ∀ q, p = some q → ∀ a ∈ l, q < a.1
  | [], p => by simp [vfrom, Sorted]
  | a :: r, p => by
    rw [vfrom]
    have ih := vfrom_zero r (some a.1)
    constructor
    · intro h
      split at h
      · exact absurd h (by decide)
      rename_i h1
      split at h
      · exact absurd h (by decide)
      rename_i h2
      split at h
      · exact absurd h (by decide)
      rename_i h3
      obtain ⟨i1, i2, i3⟩ := ih.1 h
      have i4 := i3 a.1 rfl
      refine ⟨fun b hb => ?_, List.Pairwise.cons i4 i2, fun q hq b hb => ?_⟩
      · rcases List.mem_cons.1 hb with rfl | hb
        · exact ⟨by simpa using h1, by omega⟩
        · exact i1 b hb
      · subst hq
        have hqa : q < a.1 := by simpa [behind] using h3
        rcases List.mem_cons.1 hb with rfl | hb
        · exact hqa
        · exact List.lt_trans hqa (i4 b hb)
    · rintro ⟨h1, h2, h3⟩
      obtain ⟨g1, g2⟩ := h1 a (List.mem_cons_self ..)
      rw [if_neg (by rw [g1]; simp), if_neg (by omega), if_neg]
      · unfold Sorted at h2
        rw [List.pairwise_cons] at h2
        exact ih.2 ⟨fun b hb => h1 b (List.mem_cons_of_mem _ hb), h2.2, fun q hq b hb => by injection hq with hq; subst hq; exact h2.1 b hb⟩
      · cases p with
        | none => simp [behind]
        | some q =>
          have := h3 q rfl a (List.mem_cons_self ..)
          simp [behind, this]
theorem valid_zero (l : List Al) : valid l = 0 ↔ l.length ≤ 64 ∧ (∀ a ∈ l, Good a) ∧ Sorted l := by
  unfold valid
  constructor
  · intro h
    split at h
    · exact absurd h (by decide)
    · obtain ⟨h1, h2, -⟩ := (vfrom_zero l none).1 h
      exact ⟨by omega, h1, h2⟩
  · rintro ⟨h1, h2, h3⟩
    rw [if_neg (by omega)]
    exact (vfrom_zero l none).2 ⟨h2, h3, fun q hq => by cases hq⟩
theorem get_high {n : Str} : ∀ {l : List Al}, (∀ a ∈ l, n < a.1) → get l n = none
  | [], _ => rfl
  | a :: r, h => by
    have h1 := h a (List.mem_cons_self ..)
    rw [get, if_neg (by intro e; rw [e] at h1; exact List.lt_irrefl _ h1)]
    exact get_high fun b hb => h b (List.mem_cons_of_mem _ hb)
theorem get_low {n : Str} (m : List Al) : ∀ {l : List Al}, (∀ a ∈ l, a.1 < n) → get (l ++ m) n = get m n
  | [], _ => rfl
  | a :: r, h => by
    have h1 := h a (List.mem_cons_self ..)
    rw [List.cons_append, get, if_neg (by intro e; rw [e] at h1; exact List.lt_irrefl _ h1)]
    exact get_low m fun b hb => h b (List.mem_cons_of_mem _ hb)
/-- A list in order around a name. -/
structure Split (l : List Al) (n : Str) (A B : List Al) (o : Option Str) : Prop where
  eq : l = A ++ ((match o with | none => [] | some v => [(n, v)]) ++ B)
  low : ∀ a ∈ A, a.1 < n
  high : ∀ b ∈ B, n < b.1
  get : AL.get l n = o
theorem split : ∀ {l : List Al} (n : Str), Sorted l → ∃ A B, Split l n A B (get l n)
  | [], n, _ => ⟨[], [], rfl, fun a h => by simp at h, fun b h => by simp at h, rfl⟩
  | a :: r, n, h => by
    have h0 := h
    unfold Sorted at h
    rw [List.pairwise_cons] at h
    by_cases h1 : a.1 = n
    · have hg : get (a :: r) n = some a.2 := by rw [get, if_pos h1]
      rw [hg]
      exact ⟨[], r, by rw [← h1]; rfl, fun a h => by simp at h, fun b hb => by rw [← h1]; exact h.1 b hb, hg⟩
    · by_cases h2 : a.1 < n
      · obtain ⟨A, B, s⟩ := split (l := r) n h.2
        have hg : get (a :: r) n = get r n := by rw [get, if_neg h1]
        rw [hg]
        exact ⟨a :: A, B, by rw [List.cons_append, ← s.eq], fun b hb => by rcases List.mem_cons.1 hb with rfl | hb; exact h2; exact s.low b hb, s.high, hg⟩
      · have h3 := lt_of_not h2 h1
        have hh : ∀ b ∈ a :: r, n < b.1 := fun b hb => by
          rcases List.mem_cons.1 hb with rfl | hb
          · exact h3
          · exact List.lt_trans h3 (h.1 b hb)
        have hg := get_high hh
        rw [hg]
        exact ⟨[], a :: r, rfl, fun a h => by simp at h, hh, hg⟩
def low (l : List Al) (n : Str) : List Al := l.takeWhile fun a => decide (a.1 < n)
theorem take_low {n : Str} (m : List Al) (hm : ∀ b, m.head? = some b → ¬ b.1 < n) : ∀ {A : List Al}, (∀ a ∈ A, a.1 < n) → low (A ++ m) n = A
  | [], _ => by
    unfold low
    cases m with
    | nil => rfl
    | cons b r => rw [List.nil_append, List.takeWhile_cons, if_neg (by simpa using hm b rfl)]
  | a :: r, h => by
    have ih := take_low m hm (A := r) fun b hb => h b (List.mem_cons_of_mem _ hb)
    unfold low at ih ⊢
    rw [List.cons_append, List.takeWhile_cons, if_pos (by simpa using h a (List.mem_cons_self ..)), ih]
theorem Split.low_eq {l : List Al} {n : Str} {A B : List Al} {o : Option Str} (s : Split l n A B o) : AL.low l n = A := by
  rw [s.eq]
  refine take_low _ (fun b hb => ?_) s.low
  cases o with
  | none =>
    cases B with
    | nil => simp at hb
    | cons c r =>
      simp at hb
      subst hb
      intro h
      exact List.lt_irrefl _ (List.lt_trans h (s.high _ (List.mem_cons_self ..)))
  | some v =>
    simp at hb
    subst hb
    exact List.lt_irrefl _
/-- The list with an alias. -/
def ins (l : List Al) (n v : Str) : List Al := low l n ++ (n, v) :: l.drop ((low l n).length + if (get l n).isSome = true then 1 else 0)
/-- The list without one. -/
def del (l : List Al) (n : Str) : List Al := low l n ++ l.drop ((low l n).length + 1)
theorem Split.ins {l : List Al} {n : Str} {A B : List Al} {o : Option Str} (s : Split l n A B o) (v : Str) : AL.ins l n v = A ++ (n, v) :: B := by
  unfold AL.ins
  rw [s.low_eq, s.get, s.eq]
  cases o with
  | none => simp
  | some u => simp
theorem Split.del {l : List Al} {n u : Str} {A B : List Al} (s : Split l n A B (some u)) : AL.del l n = A ++ B := by
  unfold AL.del
  rw [s.low_eq, s.eq]
  simp
def set (l : List Al) (n v : Str) : List Al × Int :=
  if valid l = 0 then (if named n = false then (l, 10) else if 4096 < v.length then (l, 3) else if get l n = none ∧ l.length = 64 then (l, 4) else (ins l n v, 0)) else (l, valid l)
def unset (l : List Al) (n : Str) : List Al × Int :=
  if valid l = 0 then (if get l n = none then (l, 8) else (del l n, 0)) else (l, valid l)
def without (l : List Al) (n : Str) : List Al := l.filter fun a => !decide (a.1 = n)
def setR (l : List Al) (n v : Str) : List Al × Int :=
  if valid l = 0 then (if named n = false then (l, 10) else if 4096 < v.length then (l, 3) else if 64 ≤ (without l n).length then (l, 4) else (low (without l n) n ++ (n, v) :: (without l n).drop (low (without l n) n).length, 0)) else (l, valid l)
def unsetR (l : List Al) (n : Str) : List Al × Int :=
  if valid l = 0 then (if get l n = none then (l, 8) else (without l n, 0)) else (l, valid l)
theorem Split.without {l : List Al} {n : Str} {A B : List Al} {o : Option Str} (s : Split l n A B o) : AL.without l n = A ++ B := by
  unfold AL.without
  have hA : (A.filter fun a => !decide (a.1 = n)) = A := List.filter_eq_self.2 fun a ha => by
    have := s.low a ha
    simp
    intro e
    rw [e] at this
    exact List.lt_irrefl _ this
  have hB : (B.filter fun a => !decide (a.1 = n)) = B := List.filter_eq_self.2 fun b hb => by
    have := s.high b hb
    simp
    intro e
    rw [e] at this
    exact List.lt_irrefl _ this
  rw [s.eq, List.filter_append, List.filter_append, hA, hB]
  cases o with
  | none => rfl
  | some u => simp
theorem Split.len {l : List Al} {n : Str} {A B : List Al} {o : Option Str} (s : Split l n A B o) : l.length = A.length + B.length + (if o.isSome = true then 1 else 0) := by
  rw [s.eq]
  cases o with
  | none => simp
  | some u => simp; omega
/-- The plain law of AliasSets. -/
theorem set_eq (l : List Al) (n v : Str) : set l n v = setR l n v := by
  unfold set setR
  by_cases h0 : valid l = 0
  case neg => rw [if_neg h0, if_neg h0]
  rw [if_pos h0, if_pos h0]
  obtain ⟨hl, -, hs⟩ := (valid_zero l).1 h0
  obtain ⟨A, B, s⟩ := split n hs
  have hw := s.without
  have hlen := s.len
  have hlow : low (A ++ B) n = A := take_low B (fun b hb => by
    cases B with
    | nil => simp at hb
    | cons c r =>
      simp at hb
      subst hb
      intro h
      exact List.lt_irrefl _ (List.lt_trans h (s.high _ (List.mem_cons_self ..)))) s.low
  rw [hw, s.ins, hlow]
  by_cases h1 : named n = false
  · rw [if_pos h1, if_pos h1]
  rw [if_neg h1, if_neg h1]
  by_cases h2 : 4096 < v.length
  · rw [if_pos h2, if_pos h2]
  rw [if_neg h2, if_neg h2]
  have hiff : (get l n = none ∧ l.length = 64) ↔ 64 ≤ (A ++ B).length := by
    rw [List.length_append]
    cases hg : get l n with
    | none => rw [hg] at hlen; simp at hlen ⊢; omega
    | some u => rw [hg] at hlen; simp at hlen ⊢; omega
  by_cases h3 : get l n = none ∧ l.length = 64
  · rw [if_pos h3, if_pos (hiff.1 h3)]
  · rw [if_neg h3, if_neg (fun e => h3 (hiff.2 e))]
    simp
/-- The plain law of AliasUnsets. -/
theorem unset_eq (l : List Al) (n : Str) : unset l n = unsetR l n := by
  unfold unset unsetR
  by_cases h0 : valid l = 0
  case neg => rw [if_neg h0, if_neg h0]
  rw [if_pos h0, if_pos h0]
  obtain ⟨hl, -, hs⟩ := (valid_zero l).1 h0
  obtain ⟨A, B, s⟩ := split n hs
  cases hg : get l n with
  | none => rfl
  | some u =>
    rw [hg] at s
    rw [s.del, s.without]
theorem Split.sorted {l : List Al} {n : Str} {A B : List Al} {o : Option Str} (s : Split l n A B o) (h : Sorted l) : Sorted (A ++ B) ∧ ∀ v, Sorted (A ++ (n, v) :: B) := by
  unfold Sorted at h ⊢
  rw [s.eq, List.pairwise_append, List.pairwise_append] at h
  obtain ⟨h1, ⟨-, h3, -⟩, -⟩ := h
  refine ⟨List.pairwise_append.2 ⟨h1, h3, fun a ha b hb => List.lt_trans (s.low a ha) (s.high b hb)⟩, fun v => List.pairwise_append.2 ⟨h1, List.Pairwise.cons (fun b hb => s.high b hb) h3, fun a ha b hb => ?_⟩⟩
  rcases List.mem_cons.1 hb with rfl | hb
  · exact s.low a ha
  · exact List.lt_trans (s.low a ha) (s.high b hb)
theorem get_mid (A B : List Al) (n v : Str) (k : Str) (h : k ≠ n) : get (A ++ (n, v) :: B) k = get (A ++ B) k := by
  induction A with
  | nil => rw [List.nil_append, List.nil_append, get, if_neg (fun e => h e.symm)]
  | cons a r ih => rw [List.cons_append, List.cons_append, get, get, ih]
/-- The plain law of AliasList. -/
theorem list_law {l m : List Al} {n v : Str} (h : set l n v = (m, 0)) (h2 : valid l = 0) : get m n = some v ∧ valid m = 0 ∧ (∀ k, k ≠ n → get m k = get l k) ∧ ∃ q, unset m n = (q, 0) ∧ get q n = none ∧ q.length + 1 = m.length ∧ valid q = 0 := by
  obtain ⟨hl, hgd, hs⟩ := (valid_zero l).1 h2
  obtain ⟨A, B, s⟩ := split n hs
  have hlen := s.len
  unfold set at h
  rw [if_pos h2] at h
  split at h
  · exact absurd (congrArg Prod.snd h) (show ¬ (10 : Int) = 0 by decide)
  rename_i h3
  split at h
  · exact absurd (congrArg Prod.snd h) (show ¬ (3 : Int) = 0 by decide)
  rename_i h4
  split at h
  · exact absurd (congrArg Prod.snd h) (show ¬ (4 : Int) = 0 by decide)
  rename_i h5
  rw [s.ins] at h
  have hm : m = A ++ (n, v) :: B := (congrArg Prod.fst h).symm
  obtain ⟨s1, s2⟩ := s.sorted hs
  have hAB : ∀ a ∈ A ++ B, Good a := fun a ha => hgd a (by rw [s.eq]; rcases List.mem_append.1 ha with h | h; exact List.mem_append_left _ h; exact List.mem_append_right _ (List.mem_append_right _ h))
  have hgn : Good (n, v) := ⟨by simpa using h3, by show v.length ≤ 4096; omega⟩
  have hmg : ∀ a ∈ m, Good a := fun a ha => by
    rw [hm] at ha
    rcases List.mem_append.1 ha with h | h
    · exact hAB a (List.mem_append_left _ h)
    · rcases List.mem_cons.1 h with rfl | h
      · exact hgn
      · exact hAB a (List.mem_append_right _ h)
  have hml : m.length ≤ 64 := by
    rw [hm]
    simp
    cases hg : get l n with
    | none =>
      have : ¬ l.length = 64 := fun e => h5 ⟨hg, e⟩
      rw [hg] at hlen
      simp at hlen
      omega
    | some u => rw [hg] at hlen; simp at hlen; omega
  have hmv : valid m = 0 := (valid_zero m).2 ⟨hml, hmg, by rw [hm]; exact s2 v⟩
  have hgm : get m n = some v := by rw [hm, get_low _ s.low, get, if_pos rfl]
  have sm : Split m n A B (some v) := ⟨hm, s.low, s.high, hgm⟩
  refine ⟨hgm, hmv, fun k hk => ?_, A ++ B, ?_, ?_, ?_, ?_⟩
  · rw [hm, get_mid _ _ _ _ _ hk]
    conv => rhs; rw [s.eq]
    cases hg : get l n with
    | none => simp
    | some u => exact (get_mid A B n u k hk).symm
  · unfold unset
    rw [if_pos hmv, hgm, if_neg (by simp), sm.del]
  · rw [get_low _ s.low]
    exact get_high s.high
  · rw [hm]
    simp
    omega
  · exact (valid_zero _).2 ⟨by rw [hm] at hml; simp at hml ⊢; omega, hAB, s1⟩
end AL
end Go.Proofs.YtelhobphphkidaaGreatDoor
