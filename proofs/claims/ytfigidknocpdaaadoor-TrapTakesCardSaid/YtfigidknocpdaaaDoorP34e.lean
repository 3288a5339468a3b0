/- Chapter 34 in plain Lean: repeated calls of Next. -/
import Derived.Test.YtfigidknocpdaaaDoorV34d
namespace Go.Proofs.YtfigidknocpdaaaDoor
open K
namespace P
def cntB (ps : List Int) (t : Tr) : Bool := actB t && decide (t.1 ∈ ps)
def cnt (ts : List Tr) (ps : List Int) : Nat := (ts.filter (cntB ps)).length
theorem act_due {ts : List Tr} (h : right ts = true) {t : Tr} (ht : t ∈ ts) (ha : actB t = true) : dueB ts t.1 = true := by
  rw [dueB_eq h]
  unfold actsB
  rw [rightL_look h t ht]
  unfold actB at ha
  simpa using ha
theorem cnt_none {ts : List Tr} (h : right ts = true) {ps : List Int} (hd : due ts ps = []) : cnt ts ps = 0 := by
  unfold cnt
  rw [List.length_eq_zero_iff, List.filter_eq_nil_iff]
  intro t ht hc
  unfold cntB at hc
  simp only [Bool.and_eq_true, decide_eq_true_eq] at hc
  have : t.1 ∈ due ts ps := List.mem_filter.2 ⟨hc.2, act_due h ht hc.1⟩
  rw [hd] at this
  simp at this
theorem cnt_less : ∀ {ts : List Tr} {p : Int}, rightL p ts = true → ∀ (f : Tr → Bool) (m : Int) (s : List UInt8), look ts m = some s → f (m, s) = true → (ts.filter fun t => f t && t.1 != m).length + 1 = (ts.filter f).length
  | [], _, _, _, _, _, h, _ => by cases h
  | t :: r, p, h, f, m, s, hl, hf => by
    obtain ⟨a, b, c⟩ := rightL_cons.1 h
    rw [look_cons] at hl
    by_cases e : t.1 = m
    · rw [if_pos e] at hl
      have e2 : t = (m, s) := Prod.ext e (Option.some.inj hl)
      subst e2
      rw [List.filter_cons_of_neg (by simp), List.filter_cons_of_pos hf, List.length_cons]
      congr 2
      apply List.filter_congr
      intro x hx
      have := rightL_in c x hx
      have hne : (x.1 != m) = true := by simp only [bne_iff_ne, ne_eq]; have : m < x.1 := this.1; omega
      rw [hne, Bool.and_true]
    · rw [if_neg e] at hl
      have ih := cnt_less c f m s hl hf
      have e3 : (t.1 != m) = true := by simpa using e
      rw [List.filter_cons, List.filter_cons, e3, Bool.and_true]
      by_cases hft : f t = true
      · rw [if_pos hft, if_pos hft, List.length_cons, List.length_cons, ih]
      · rw [if_neg hft, if_neg hft, ih]
theorem minOf_le : ∀ {l : List Int} (x : Int), x ∈ l → Lib.minOf l ≤ x := by
  have key : ∀ (l : List Int) (a : Int), l.foldl min a ≤ a ∧ ∀ x ∈ l, l.foldl min a ≤ x := by
    intro l
    induction l with
    | nil => intro a; simp
    | cons y r ih =>
      intro a
      have := ih (min a y)
      rw [List.foldl_cons]
      refine ⟨by omega, fun x hx => ?_⟩
      rcases List.mem_cons.1 hx with rfl | hx
      · omega
      · exact this.2 x hx
  intro l x hx
  exact (key l _).2 x hx
/-- One call of Next on what is left. -/
theorem next_step {ts : List Tr} (h : right ts = true) {ps : List Int} {last : Int} (hlast : ∀ p ∈ due ts ps, last < p) {m : Int} {s : List UInt8} {zs : List Int} {f : Bool} (hq : nextP ts ps = (m, s, zs, f)) :
    (f = false ∧ cnt ts ps = 0 ∧ m = 0 ∧ s = [] ∧ zs = []) ∨ (f = true ∧ last < m ∧ s ≠ [] ∧ zs.length < ps.length ∧ cnt ts zs + 1 = cnt ts ps ∧ (∀ p ∈ due ts zs, m < p) ∧ ∀ z ∈ zs, z ∈ ps) := by
  unfold nextP at hq
  by_cases hd : due ts ps = []
  · rw [if_pos hd] at hq
    injection hq with h1 hq
    injection hq with h2 hq
    injection hq with h3 h4
    exact .inl ⟨h4.symm, cnt_none h hd, h1.symm, h2.symm, h3.symm⟩
  · rw [if_neg hd] at hq
    injection hq with h1 hq
    injection hq with h2 hq
    injection hq with h3 h4
    have hm := minOf_mem hd
    rw [h1] at hm h2 h3
    have hmp := List.mem_filter.1 hm
    have ha := hmp.2
    rw [dueB_eq h] at ha
    obtain ⟨h0, s', hs', hsn⟩ := acts_look ha
    rw [hs'] at h2
    have hs2 : s' = s := h2
    subst hs2
    have hact : actB (m, s') = true := by unfold actB; simp [h0, hsn]
    have hmem : ∀ z, z ∈ zs ↔ z ∈ due ts ps ∧ z ≠ m := by
      intro z
      rw [← h3]
      simp [List.mem_filter]
    refine .inr ⟨h4.symm, hlast m hm, hsn, ?_, ?_, ?_, ?_⟩
    · have l1 : zs.length < (due ts ps).length := by
        rw [← h3]
        exact List.length_filter_lt_length_iff_exists.2 ⟨m, hm, by simp⟩
      have l2 : (due ts ps).length ≤ ps.length := List.length_filter_le _ _
      omega
    · unfold cnt
      rw [← cnt_less h (cntB ps) m s' hs' (by unfold cntB; rw [hact]; simpa using hmp.1)]
      congr 2
      apply List.filter_congr
      intro t ht
      unfold cntB
      cases hta : actB t with
      | false => simp
      | true =>
        have hdt := act_due h ht hta
        have : (t.1 ∈ zs) ↔ (t.1 ∈ ps ∧ t.1 ≠ m) := by
          rw [hmem]
          constructor
          · rintro ⟨x1, x2⟩; exact ⟨(List.mem_filter.1 x1).1, x2⟩
          · rintro ⟨x1, x2⟩; exact ⟨List.mem_filter.2 ⟨x1, hdt⟩, x2⟩
        by_cases hx : t.1 ∈ zs
        · have := this.1 hx
          simp [hx, this.1, this.2]
        · have hn := fun hh => hx (this.2 hh)
          by_cases hp : t.1 ∈ ps
          · have he : t.1 = m := Classical.byContradiction fun hne => hn ⟨hp, hne⟩
            rw [he] at hx
            simp [he, hx]
          · simp [hx, hp]
    · intro p hp
      have hp1 := (List.mem_filter.1 hp).1
      obtain ⟨x1, x2⟩ := (hmem p).1 hp1
      have := minOf_le p x1
      rw [h1] at this
      omega
    · intro z hz
      exact (List.mem_filter.1 ((hmem z).1 hz).1).1
theorem due_pos {ts : List Tr} (h : right ts = true) (ps : List Int) : ∀ p ∈ due ts ps, 0 < p := by
  intro p hp
  have := (List.mem_filter.1 hp).2
  rw [dueB_eq h] at this
  exact acts_pos h this
end P
end Go.Proofs.YtfigidknocpdaaaDoor
