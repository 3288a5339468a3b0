/- Chapter 34 in plain Lean: lists of traps that are right. -/
import Derived.Test.YtfigidknocpdaaaDoorW34t
import Derived.Test.YtfigidknocpdaaaDoorW34l
namespace Go.Proofs.YtfigidknocpdaaaDoor
open K
namespace P
theorem look_nil (n : Int) : look [] n = none := rfl
theorem look_cons (t : Tr) (r : List Tr) (n : Int) : look (t :: r) n = if t.1 = n then some t.2 else look r n := by
  unfold look
  by_cases h : t.1 = n
  · simp [h]
  · simp [h]
theorem rightL_cons {p : Int} {t : Tr} {r : List Tr} : rightL p (t :: r) = true ↔ p < t.1 ∧ t.1 ≤ 20 ∧ rightL t.1 r = true := by
  simp [rightL, and_assoc]
theorem rightL_mono : ∀ {ts : List Tr} {p q : Int}, p ≤ q → rightL q ts = true → rightL p ts = true
  | [], _, _, _, _ => rfl
  | t :: r, p, q, h, h1 => by
    obtain ⟨a, b, c⟩ := rightL_cons.1 h1
    exact rightL_cons.2 ⟨by omega, b, c⟩
theorem rightL_none : ∀ {ts : List Tr} {p n : Int}, rightL p ts = true → n ≤ p → look ts n = none
  | [], _, _, _, _ => rfl
  | t :: r, p, n, h1, h => by
    obtain ⟨a, b, c⟩ := rightL_cons.1 h1
    rw [look_cons, if_neg (by omega)]
    exact rightL_none c (by omega)
theorem rightL_in : ∀ {ts : List Tr} {p : Int}, rightL p ts = true → ∀ t ∈ ts, p < t.1 ∧ t.1 ≤ 20
  | [], _, _, t, ht => by simp at ht
  | u :: r, p, h1, t, ht => by
    obtain ⟨a, b, c⟩ := rightL_cons.1 h1
    rcases List.mem_cons.1 ht with rfl | ht
    · exact ⟨a, b⟩
    · have := rightL_in c t ht
      exact ⟨by omega, this.2⟩
theorem rightL_high : ∀ {ts : List Tr} {p n : Int}, rightL p ts = true → 20 < n → look ts n = none
  | [], _, _, _, _ => rfl
  | t :: r, p, n, h1, h => by
    obtain ⟨a, b, c⟩ := rightL_cons.1 h1
    rw [look_cons, if_neg (by omega)]
    exact rightL_high c h
theorem rightL_look : ∀ {ts : List Tr} {p : Int}, rightL p ts = true → ∀ t ∈ ts, look ts t.1 = some t.2
  | [], _, _, t, ht => by simp at ht
  | u :: r, p, h1, t, ht => by
    obtain ⟨a, b, c⟩ := rightL_cons.1 h1
    rcases List.mem_cons.1 ht with rfl | ht
    · rw [look_cons, if_pos rfl]
    · have := rightL_in c t ht
      rw [look_cons, if_neg (by omega)]
      exact rightL_look c t ht
theorem right_in {ts : List Tr} (h : right ts = true) : ∀ t ∈ ts, 0 ≤ t.1 ∧ t.1 ≤ 20 := fun t ht => by
  have := rightL_in h t ht
  omega
theorem ext : ∀ {xs ys : List Tr} {p q : Int}, rightL p xs = true → rightL q ys = true → (∀ n, look xs n = look ys n) → xs = ys
  | [], [], _, _, _, _, _ => rfl
  | [], t :: r, _, _, _, _, h => by have := h t.1; rw [look_cons, if_pos rfl] at this; cases this
  | t :: r, [], _, _, _, _, h => by have := h t.1; rw [look_cons, if_pos rfl] at this; cases this
  | s :: r, t :: u, p, q, h1, h2, h => by
    obtain ⟨a1, b1, c1⟩ := rightL_cons.1 h1
    obtain ⟨a2, b2, c2⟩ := rightL_cons.1 h2
    have e : s.1 = t.1 := by
      have x1 := h s.1
      have x2 := h t.1
      rw [look_cons, look_cons, if_pos rfl] at x1
      rw [look_cons, look_cons, if_pos (rfl : t.1 = t.1)] at x2
      rcases Int.lt_trichotomy s.1 t.1 with hl | he | hl
      · rw [if_neg (by omega), rightL_none c2 (by omega)] at x1; cases x1
      · exact he
      · rw [if_neg (by omega), rightL_none c1 (by omega)] at x2; cases x2
    have e2 : s.2 = t.2 := by
      have x1 := h s.1
      rw [look_cons, look_cons, if_pos rfl, if_pos e.symm] at x1
      exact Option.some.inj x1
    have e3 : r = u := by
      refine ext c1 c2 fun n => ?_
      by_cases hn : n ≤ s.1
      · rw [rightL_none c1 hn, rightL_none c2 (by omega)]
      · have := h n
        rwa [look_cons, look_cons, if_neg (by omega), if_neg (by omega)] at this
    rw [e3]
    congr 1
    exact Prod.ext e e2
theorem rightL_filter (f : Tr → Bool) : ∀ {ts : List Tr} {p : Int}, rightL p ts = true → rightL p (ts.filter f) = true
  | [], _, _ => rfl
  | t :: r, p, h => by
    obtain ⟨a, b, c⟩ := rightL_cons.1 h
    rw [List.filter_cons]
    split
    · exact rightL_cons.2 ⟨a, b, rightL_filter f c⟩
    · exact rightL_mono (by omega) (rightL_filter f c)
theorem look_reset (sig n : Int) : ∀ ts : List Tr, look (reset ts sig) n = if n = sig then none else look ts n
  | [] => by simp [reset, look_nil]
  | t :: r => by
    have ih := look_reset sig n r
    unfold reset at ih ⊢
    rw [List.filter_cons]
    by_cases h : t.1 = sig
    · have : resetB sig t = false := by simp [resetB, h]
      rw [if_neg (by rw [this]; simp), ih, look_cons]
      by_cases hn : n = sig
      · simp [hn]
      · rw [if_neg hn, if_neg hn, if_neg (by omega)]
    · have : resetB sig t = true := by simp [resetB, h]
      rw [if_pos this, look_cons, ih, look_cons]
      by_cases hn : n = sig
      · rw [if_pos hn, if_pos hn, if_neg (by omega)]
      · rw [if_neg hn, if_neg hn]
/-- A trap put among others. -/
def ins (sig : Int) (a : List UInt8) : List Tr → List Tr
  | [] => [(sig, a)]
  | t :: r => if t.1 < sig then t :: ins sig a r else (sig, a) :: t :: r
theorem putAt_ins (sig : Int) (a : List UInt8) : ∀ ts : List Tr, putAt ts (ahead sig ts) (sig, a) = ins sig a ts
  | [] => rfl
  | t :: r => by
    have ih := putAt_ins sig a r
    unfold putAt at ih ⊢
    rw [ahead, ins]
    by_cases h : t.1 < sig
    · rw [if_pos h, if_pos h, ← ih]; simp
    · rw [if_neg h, if_neg h]; simp
theorem ins_right {sig : Int} {a : List UInt8} : ∀ {ts : List Tr} {p : Int}, rightL p ts = true → p < sig → sig ≤ 20 → look ts sig = none → rightL p (ins sig a ts) = true
  | [], p, _, h1, h2, _ => rightL_cons.2 ⟨h1, h2, rfl⟩
  | t :: r, p, h, h1, h2, h3 => by
    obtain ⟨x, y, z⟩ := rightL_cons.1 h
    rw [look_cons] at h3
    by_cases e : t.1 = sig
    · rw [if_pos e] at h3; cases h3
    · rw [if_neg e] at h3
      rw [ins]
      by_cases hl : t.1 < sig
      · rw [if_pos hl]
        exact rightL_cons.2 ⟨x, y, ins_right z hl h2 h3⟩
      · rw [if_neg hl]
        exact rightL_cons.2 ⟨h1, h2, rightL_cons.2 ⟨by show sig < t.1; omega, y, z⟩⟩
theorem look_ins (sig n : Int) (a : List UInt8) : ∀ ts : List Tr, look ts sig = none → look (ins sig a ts) n = if n = sig then some a else look ts n
  | [], _ => by
    rw [ins, look_cons]
    by_cases h : n = sig
    · simp [h]
    · rw [if_neg (by simp; omega), if_neg h]
  | t :: r, h3 => by
    rw [look_cons] at h3
    by_cases e : t.1 = sig
    · rw [if_pos e] at h3; cases h3
    · rw [if_neg e] at h3
      have ih := look_ins sig n a r h3
      rw [ins]
      by_cases hl : t.1 < sig
      · rw [if_pos hl, look_cons, look_cons, ih]
        by_cases hn : n = sig
        · rw [if_pos hn, if_pos hn, if_neg (by omega)]
        · rw [if_neg hn, if_neg hn]
      · rw [if_neg hl, look_cons]
        by_cases hn : n = sig
        · rw [if_pos hn, if_pos (by simp; omega)]
        · rw [if_neg hn, if_neg (by simp; omega)]
theorem setT_ins (ts : List Tr) (sig : Int) (a : List UInt8) : setT ts sig a = ins sig a (reset ts sig) := putAt_ins sig a _
theorem setT_right {ts : List Tr} {sig : Int} {a : List UInt8} (h : right ts = true) (h0 : 0 ≤ sig) (h1 : sig ≤ 20) : right (setT ts sig a) = true := by
  rw [setT_ins]
  exact ins_right (rightL_filter _ h) (by omega) h1 (by rw [look_reset, if_pos rfl])
theorem look_setT (ts : List Tr) (sig n : Int) (a : List UInt8) : look (setT ts sig a) n = if n = sig then some a else look ts n := by
  rw [setT_ins, look_ins _ _ _ _ (by rw [look_reset, if_pos rfl]), look_reset]
  split <;> rfl
theorem setAt_right {ts : List Tr} {sig : Int} {a : List UInt8} : ∀ (f n : Nat), n + f = 21 → rightL ((n : Int) - 1) (setAt ts sig a f n) = true
  | 0, _, _ => rfl
  | f + 1, n, h => by
    have ih := setAt_right (ts := ts) (sig := sig) (a := a) f (n + 1) (by omega)
    have e : (((n + 1 : Nat) : Int) - 1) = (n : Int) := by omega
    rw [e] at ih
    rw [setAt]
    split
    · rename_i hs
      exact rightL_cons.2 ⟨by show _ < sig; omega, by show sig ≤ 20; omega, by show rightL sig _ = true; exact rightL_mono (by omega) ih⟩
    · split
      · exact rightL_cons.2 ⟨by show _ < (n : Int); omega, by show (n : Int) ≤ 20; omega, ih⟩
      · exact rightL_mono (by omega) ih
theorem look_setAt {ts : List Tr} {sig : Int} {a : List UInt8} (h0 : 0 ≤ sig) (h1 : sig ≤ 20) : ∀ (f n : Nat), n + f = 21 → ∀ m : Int, (n : Int) ≤ m → m ≤ 20 → look (setAt ts sig a f n) m = if m = sig then some a else look ts m
  | 0, n, h, m, h2, h3 => by omega
  | f + 1, n, h, m, h2, h3 => by
    have ih := look_setAt (ts := ts) (a := a) h0 h1 f (n + 1) (by omega) m
    have hr := setAt_right (ts := ts) (sig := sig) (a := a) f (n + 1) (by omega)
    have e : (((n + 1 : Nat) : Int) - 1) = (n : Int) := by omega
    rw [e] at hr
    rw [setAt]
    by_cases hm : m = n
    · subst hm
      split
      · rename_i hs
        rw [look_cons, if_pos (by simp [hs])]
      · cases hl : look ts n with
        | some s => simp only [look_cons, if_true]
        | none => exact rightL_none hr (Int.le_refl _)
    · have ih' := ih (by omega) h3
      split
      · rename_i hs
        rw [look_cons, if_neg (by simp; omega), ih']
      · split
        · rw [look_cons, if_neg (by simp; omega), ih']
        · exact ih'
theorem setT_eq {ts : List Tr} {sig : Int} {a : List UInt8} (h : right ts = true) (h0 : 0 ≤ sig) (h1 : sig ≤ 20) : setT ts sig a = setR ts sig a := by
  have hr : rightL (-1) (setR ts sig a) = true := setAt_right (ts := ts) (sig := sig) (a := a) 21 0 (by omega)
  refine ext (setT_right h h0 h1) hr fun n => ?_
  rw [look_setT]
  by_cases hn : 0 ≤ n ∧ n ≤ 20
  · exact (look_setAt h0 h1 21 0 (by omega) n (by omega) hn.2).symm
  · rw [if_neg (by omega)]
    by_cases hlo : n < 0
    · rw [rightL_none h (by omega), rightL_none hr (by omega)]
    · rw [rightL_high h (by omega), rightL_high hr (by omega)]
theorem setT_twice {ts : List Tr} {sig : Int} {a b : List UInt8} (h : right ts = true) (h0 : 0 ≤ sig) (h1 : sig ≤ 20) : setT (setT ts sig a) sig b = setT ts sig b := by
  refine ext (setT_right (setT_right h h0 h1) h0 h1) (setT_right h h0 h1) fun n => ?_
  rw [look_setT, look_setT, look_setT]
  split <;> rfl
theorem reset_setT {ts : List Tr} {sig : Int} {a : List UInt8} (h : right ts = true) (h0 : 0 ≤ sig) (h1 : sig ≤ 20) : reset (setT ts sig a) sig = reset ts sig := by
  refine ext (rightL_filter _ (setT_right h h0 h1)) (rightL_filter _ h) fun n => ?_
  rw [look_reset, look_reset, look_setT]
  split <;> rfl
theorem reset_full {ts : List Tr} {sig : Int} (h : (reset ts sig).length = ts.length) : reset ts sig = ts := by
  unfold reset at h ⊢
  rw [List.filter_eq_self]
  exact List.length_filter_eq_length_iff.1 h
theorem reset_len (ts : List Tr) (sig : Int) : (reset ts sig).length ≤ ts.length := List.length_filter_le _ _
theorem setT_len (ts : List Tr) (sig : Int) (a : List UInt8) : (setT ts sig a).length ≤ ts.length + 1 := by
  have := putAt_length (reset ts sig) (ahead sig (reset ts sig)) (sig, a) (ahead_le _ _)
  have h2 := reset_len ts sig
  unfold setT
  omega
theorem ok_len {ts : List Tr} (h : okB ts = true) : ts.length ≤ 30 ∧ right ts = true ∧ ∀ t ∈ ts, t.2.length ≤ 500 := by
  unfold okB smallB at h
  simp only [Bool.and_eq_true, decide_eq_true_eq, List.all_eq_true] at h
  exact ⟨h.1.1, h.2, h.1.2⟩
end P
end Go.Proofs.YtfigidknocpdaaaDoor
