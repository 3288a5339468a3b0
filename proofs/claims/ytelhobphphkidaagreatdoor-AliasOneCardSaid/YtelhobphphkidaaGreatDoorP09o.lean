/- Chapter 9 in plain Lean: quoted forms among blanks, newlines and semicolons, as tokens; the expansion of one alias whose value is a quoted form. -/
import Derived.Test.YtelhobphphkidaaGreatDoorP09x
import Derived.Test.YtelhobphphkidaaGreatDoorP01b
namespace Go.Proofs.YtelhobphphkidaaGreatDoor
open K
namespace LX
theorem construct9 (s : Str) (a : Nat) (q d : Bool) : construct s a q d = con (3 * s.length + 2 + 1) s a q d := rfl
theorem head9 {s : Str} {a : Nat} {c : UInt8} {r : Str} (h : s.drop a = c :: r) : a < s.length ∧ bt s a = (c.toNat : Int) ∧ s.drop (a + 1) = r := by
  have hl : a < s.length := by
    rcases Nat.lt_or_ge a s.length with h' | h'
    · exact h'
    · rw [List.drop_eq_nil_of_le h'] at h; cases h
  obtain ⟨x, hx, hb, _⟩ := drop_cons s a hl
  rw [hx] at h
  injection h with h1 h2
  exact ⟨hl, by rw [hb, h1], h2⟩
theorem split9 : ∀ t : Str, ∃ u r, t = u ++ r ∧ (∀ k : Nat, u[k]? ≠ some 39) ∧ (r = [] ∨ ∃ t', r = 39 :: t')
  | [] => ⟨[], [], rfl, fun k => by simp, .inl rfl⟩
  | x :: t => by
    by_cases hx : x = 39
    · exact ⟨[], x :: t, rfl, fun k => by simp, .inr ⟨t, by rw [hx]⟩⟩
    · obtain ⟨u, r, h1, h2, h3⟩ := split9 t
      refine ⟨x :: u, r, by rw [h1]; rfl, fun k => ?_, h3⟩
      cases k with
      | zero => simp; exact hx
      | succ k => simpa using h2 k
theorem find9 {s u r : Str} {i : Nat} (h : s.drop i = u ++ 39 :: r) (hu : ∀ k : Nat, u[k]? ≠ some 39) : LX.find s i 39 = some u.length := by
  unfold LX.find
  rw [h]
  rw [List.findIdx?_eq_some_iff_getElem]
  refine ⟨by simp, by simp, fun j hj => ?_⟩
  have := hu j
  rw [List.getElem_append_left hj]
  rw [List.getElem?_eq_getElem hj] at this
  simpa using this
theorem parts9 {s u r : Str} {a : Nat} (h : s.drop a = u ++ r) (ha : a ≤ s.length) : cut s a (a + u.length) = u ∧ s.drop (a + u.length) = r ∧ a + u.length ≤ s.length := by
  have hl := congrArg List.length h
  rw [List.length_drop, List.length_append] at hl
  refine ⟨?_, ?_, by omega⟩
  · unfold cut
    rw [List.drop_take, h, show a + u.length - a = u.length by omega, List.take_left']
    rfl
  · rw [← List.drop_drop, h, List.drop_left']
    rfl
theorem plain_bt3 : ∀ n : Nat, n < 256 → P.pl (n : Int) = true → divides (n : Int) = false ∧ blank (n : Int) = false ∧ ¬ (n : Int) = 92 ∧ ¬ (n : Int) = 36 ∧ ¬ (n : Int) = 39 ∧ ¬ (n : Int) = 34 ∧ ¬ (n : Int) = 96 ∧ ¬ (n : Int) = 10 ∧ ¬ (n : Int) = 35 ∧ ¬ n = 32 ∧ ¬ n = 9 := by decide +kernel
theorem begins_no {s : Str} {i : Nat} (h1 : ¬ bt s i = 36) (h2 : ¬ bt s i = 92) (h3 : ¬ bt s i = 39) (h4 : ¬ bt s i = 34) (h5 : ¬ bt s i = 96) : begins s i = false := by
  unfold begins
  rw [if_neg h1]
  exact decide_eq_false (by rintro (h | h | h | h) <;> contradiction)
/-- What stands behind a word: nothing, or a byte that divides and turns no number into a descriptor. -/
def Halt (rest : Str) : Prop := rest = [] ∨ ∃ c r, rest = c :: r ∧ divides (c.toNat : Int) = true ∧ ¬ (c.toNat : Int) = 60 ∧ ¬ (c.toNat : Int) = 62
theorem word_halt {f : Nat} {s rest : Str} {i : Nat} (hd : s.drop i = rest) (h : Halt rest) : word f s i = (i, 0) := by
  cases f with
  | zero => rfl
  | succ f =>
    rw [word, if_neg]
    rintro ⟨h1, h2⟩
    rcases h with rfl | ⟨c, r, rfl, h3, -⟩
    · have := congrArg List.length hd
      rw [List.length_drop] at this
      simp at this
      omega
    · obtain ⟨-, hb, -⟩ := head9 hd
      rw [hb, h3] at h2
      exact absurd h2 (by decide)
theorem word_pl {rest : Str} (hr : Halt rest) : ∀ (t s : Str) (i f : Nat), s.drop i = t ++ rest → i ≤ s.length → t.all (fun x => P.pl (P.iv x)) = true → t.length < f → word f s i = (i + t.length, 0)
  | [], s, i, f, hd, hi, _, _ => word_halt hd hr
  | x :: t, s, i, f, hd, hi, ha, hf => by
    obtain ⟨f, rfl⟩ : ∃ k, f = k + 1 := ⟨f - 1, by omega⟩
    obtain ⟨b1, b2, b3⟩ := head9 (r := t ++ rest) hd
    rw [List.all_cons, Bool.and_eq_true] at ha
    obtain ⟨p1, p0, p2, p3, p4, p5, p6, -⟩ := plain_bt3 x.toNat x.toNat_lt (by simpa [P.iv] using ha.1)
    rw [word, if_pos ⟨b1, by rw [b2]; exact p1⟩, begins_no (by rw [b2]; exact p3) (by rw [b2]; exact p2) (by rw [b2]; exact p4) (by rw [b2]; exact p5) (by rw [b2]; exact p6), if_neg (by decide), word_pl hr t s (i + 1) f b3 (by omega) ha.2 (by simp at hf; omega)]
    simp
    omega
theorem con_sgl {s u r : Str} {a : Nat} {q d : Bool} (h : s.drop a = 39 :: (u ++ 39 :: r)) (hu : ∀ k : Nat, u[k]? ≠ some 39) : construct s a q d = (a + u.length + 2, 0) ∧ begins s a = true ∧ a < s.length ∧ divides (bt s a) = false ∧ s.drop (a + u.length + 2) = r ∧ a + u.length + 2 ≤ s.length := by
  obtain ⟨h1, h2', h3⟩ := head9 h
  have h2 : bt s a = 39 := h2'
  have hf := find9 h3 hu
  obtain ⟨d1, d2, d3⟩ := parts9 h3 (by omega)
  obtain ⟨e1, e2, e3⟩ := head9 d2
  refine ⟨?_, ?_, h1, by rw [h2]; decide, ?_, by omega⟩
  · rw [construct9, con, if_neg (by rw [h2]; decide), if_pos h2, hf]
  · unfold begins
    rw [if_neg (by rw [h2]; decide)]
    exact decide_eq_true (.inr (.inl h2))
  · rw [show a + u.length + 2 = a + 1 + u.length + 1 by omega]
    exact e3
theorem con_bck {s : Str} {a : Nat} {q d : Bool} (hb : bt s a = 92) (h : a + 1 < s.length) : construct s a q d = (a + 2, 0) ∧ begins s a = true ∧ divides (bt s a) = false := by
  refine ⟨?_, ?_, by rw [hb]; decide⟩
  · rw [construct9, con, if_pos hb, if_neg (by omega)]
  · unfold begins
    rw [if_neg (by rw [hb]; decide)]
    exact decide_eq_true (.inl hb)
theorem word_stp {f : Nat} {s : Str} {i k : Nat} (hc : construct s i false false = (k, 0)) (hb : begins s i = true) (hl : i < s.length) (hd : divides (bt s i) = false) : word (f + 1) s i = word f s k := by
  rw [word, if_pos ⟨hl, hd⟩, if_pos hb, hc]
  rfl
theorem word_qtd {rest : Str} (hr : Halt rest) : ∀ (n : Nat) (t s : Str) (i f : Nat), t.length ≤ n → s.drop i = 39 :: (P.quoteBody t ++ 39 :: rest) → s.length - i < f → word f s i = (i + (P.quoteBody t).length + 2, 0) := by
  intro n
  induction n with
  | zero =>
    intro t s i f ht hd hf
    have : t = [] := List.length_eq_zero_iff.1 (by omega)
    subst this
    obtain ⟨c1, c2, c3, c4, c5, c6⟩ := con_sgl (q := false) (d := false) (u := []) hd (fun k => by simp)
    obtain ⟨f, rfl⟩ : ∃ k, f = k + 1 := ⟨f - 1, by omega⟩
    rw [word_stp c1 c2 c3 c4]
    exact word_halt c5 hr
  | succ n ih =>
    intro t s i f ht hd hf
    obtain ⟨f, rfl⟩ : ∃ k, f = k + 2 := ⟨f - 2, by have := congrArg List.length hd; rw [List.length_drop] at this; simp at this; omega⟩
    obtain ⟨u, r, htu, hu, hru⟩ := split9 t
    rcases hru with rfl | ⟨t', rfl⟩
    · rw [List.append_nil] at htu
      subst htu
      rw [P.quoteBody_none _ hu] at hd ⊢
      obtain ⟨c1, c2, c3, c4, c5, c6⟩ := con_sgl (q := false) (d := false) hd hu
      rw [word_stp c1 c2 c3 c4]
      exact word_halt c5 hr
    · subst htu
      have hq : P.quoteBody (u ++ 39 :: t') = u ++ (39 :: 92 :: 39 :: 39 :: P.quoteBody t') := by rw [P.quoteBody_append, P.quoteBody_none _ hu]; rfl
      rw [hq] at hd ⊢
      have hd2 : s.drop i = 39 :: (u ++ 39 :: (92 :: 39 :: (39 :: (P.quoteBody t' ++ 39 :: rest)))) := by rw [hd]; simp
      obtain ⟨c1, c2, c3, c4, c5, c6⟩ := con_sgl (q := false) (d := false) hd2 hu
      obtain ⟨e1, e2', e3⟩ := head9 c5
      have e2 : bt s (i + u.length + 2) = 92 := e2'
      obtain ⟨g1, g2, g3⟩ := head9 e3
      obtain ⟨b1, b2, b3⟩ := con_bck (q := false) (d := false) e2 g1
      have hlen : (u ++ 39 :: t').length = u.length + (t'.length + 1) := by rw [List.length_append, List.length_cons]
      rw [word_stp c1 c2 c3 c4, word_stp b1 b2 e1 b3, ih t' s (i + u.length + 2 + 2) f (by omega) g3 (by omega)]
      simp
      omega
/-- A quoted form is one word. -/
theorem word_qt {q s rest : Str} {p : Nat} (hd : s.drop p = P.quote q ++ rest) (hp : p ≤ s.length) (hr : Halt rest) : wordEnd s p = (p + (P.quote q).length, 0) := by
  unfold wordEnd
  cases hpl : P.plainB q with
  | true =>
    have hq : P.quote q = q := by unfold P.quote; rw [if_pos hpl]
    rw [hq] at hd ⊢
    unfold P.plainB at hpl
    rw [Bool.and_eq_true] at hpl
    exact word_pl hr q s p _ hd hp hpl.1 (by have := congrArg List.length hd; rw [List.length_drop, List.length_append] at this; omega)
  | false =>
    have hq : P.quote q = 39 :: (P.quoteBody q ++ [39]) := by unfold P.quote; rw [if_neg (by rw [hpl]; simp)]
    rw [hq] at hd ⊢
    rw [word_qtd hr q.length q s p _ (Nat.le_refl _) (by rw [hd]; simp) (by omega)]
    simp
    omega
theorem quote_hd (q : Str) : ∃ c r, P.quote q = c :: r ∧ divides (c.toNat : Int) = false ∧ blank (c.toNat : Int) = false ∧ ¬ (c.toNat : Int) = 92 ∧ ¬ (c.toNat : Int) = 10 ∧ ¬ (c.toNat : Int) = 35 := by
  cases hpl : P.plainB q with
  | true =>
    have hq : P.quote q = q := by unfold P.quote; rw [if_pos hpl]
    unfold P.plainB at hpl
    rw [Bool.and_eq_true] at hpl
    rw [hq]
    cases q with
    | nil => simp at hpl
    | cons c r =>
      have := hpl.1
      rw [List.all_cons, Bool.and_eq_true] at this
      obtain ⟨p1, p0, p2, p3, p4, p5, p6, p7, p8, -⟩ := plain_bt3 c.toNat c.toNat_lt (by simpa [P.iv] using this.1)
      exact ⟨c, r, rfl, p1, p0, p2, p7, p8⟩
  | false =>
    refine ⟨39, P.quoteBody q ++ [39], by unfold P.quote; rw [if_neg (by rw [hpl]; simp)], by decide, by decide, by decide, by decide, by decide⟩
/-- A quoted form ends in no blank. -/
theorem quote_last (q : Str) : AX.blank (P.quote q) = false := by
  cases hpl : P.plainB q with
  | true =>
    have hq : P.quote q = q := by unfold P.quote; rw [if_pos hpl]
    unfold P.plainB at hpl
    rw [Bool.and_eq_true] at hpl
    rw [hq]
    unfold AX.blank
    cases h : q.getLast? with
    | none => rfl
    | some c =>
      have hc := List.mem_of_getLast? h
      have := List.all_eq_true.1 hpl.1 c hc
      obtain ⟨-, -, -, -, -, -, -, -, -, n1, n2⟩ := plain_bt3 c.toNat c.toNat_lt (by simpa [P.iv] using this)
      have m1 : c ≠ 32 := by rintro rfl; exact n1 rfl
      have m2 : c ≠ 9 := by rintro rfl; exact n2 rfl
      simp [m1, m2]
  | false =>
    have hq : P.quote q = (39 :: P.quoteBody q) ++ [39] := by unfold P.quote; rw [if_neg (by rw [hpl]; simp)]; rfl
    rw [hq]
    unfold AX.blank
    rw [List.getLast?_append]
    rfl
theorem ops_dv : ∀ t ∈ ops, ∃ x r, t = x :: r ∧ divides (x.toNat : Int) = true := by
  intro t ht
  simp only [ops, List.mem_cons, List.not_mem_nil, or_false] at ht
  rcases ht with rfl | rfl | rfl | rfl | rfl | rfl | rfl | rfl | rfl | rfl | rfl | rfl | rfl | rfl | rfl | rfl | rfl | rfl <;> exact ⟨_, _, rfl, by decide⟩
theorem op_no {s r : Str} {p : Nat} {c : UInt8} (hd : s.drop p = c :: r) (h : divides (c.toNat : Int) = false) : opLen s p = 0 := by
  have hz : ∀ n, opFrom s p n = 0 := by
    intro n
    induction n with
    | zero => rfl
    | succ n ih =>
      rw [opFrom, if_neg, ih]
      intro ho
      unfold isOp at ho
      obtain ⟨x, y, hx, hv⟩ := ops_dv _ (of_decide_eq_true ho)
      unfold cut at hx
      rw [List.drop_take, hd, show p + (n + 1) - p = n + 1 by omega, List.take_succ_cons] at hx
      injection hx with hx _
      rw [← hx, h] at hv
      exact absurd hv (by decide)
  exact hz _
theorem joins_no {s : Str} {a : Nat} (h : ¬ bt s a = 92) : joins s a = false := by
  cases hj : joins s a with
  | false => rfl
  | true => exact absurd (joins_iff.1 hj).1 h
/-- The next token at a quoted form. -/
theorem next_qt {q s rest : Str} {a : Nat} (hd : s.drop a = P.quote q ++ rest) (hr : Halt rest) : skipTo s a = a ∧ nextAt s a = (⟨1, a, a + (P.quote q).length, P.quote q⟩, 0) := by
  obtain ⟨c, r, hq, q1, q2, q3, q4, q5⟩ := quote_hd q
  have h3c : s.drop a = c :: (r ++ rest) := by rw [hd, hq]; rfl
  obtain ⟨g1, g2, g3⟩ := head9 h3c
  obtain ⟨d1, d2, d3⟩ := parts9 hd (by omega)
  refine ⟨skipTo_stop g1 (by rw [g2]; exact q2) (joins_no (by rw [g2]; exact q3)) (by rw [g2]; exact q5), ?_⟩
  unfold nextAt
  rw [if_neg (by omega), if_neg (by rw [g2]; exact q4), op_no h3c q1, if_neg (by omega)]
  unfold nextW
  rw [word_qt hd (by omega) hr]
  dsimp only
  rw [if_pos rfl, if_neg, tok, d1]
  rintro ⟨e1, e2, -⟩
  rcases hr with rfl | ⟨x, r', rfl, -, n1, n2⟩
  · have := congrArg List.length d2
    rw [List.length_drop] at this
    simp at this
    omega
  · obtain ⟨-, hb, -⟩ := head9 d2
    rw [hb] at e2
    rcases e2 with e | e
    · exact n1 e
    · exact n2 e
theorem next_here {q s rest : Str} {a : Nat} (hl : s.length ≤ 16384) (hd : s.drop a = P.quote q ++ rest) (hr : Halt rest) : next s a = (⟨1, a, a + (P.quote q).length, P.quote q⟩, 0) := by
  obtain ⟨h1, h2⟩ := next_qt hd hr
  unfold next
  rw [if_neg (by omega), h1, h2]
/-- Behind one blank. -/
theorem next_gap {q s rest : Str} {a : Nat} (hl : s.length ≤ 16384) (hd : s.drop a = 32 :: (P.quote q ++ rest)) (hr : Halt rest) : next s a = (⟨1, a + 1, a + 1 + (P.quote q).length, P.quote q⟩, 0) := by
  obtain ⟨h1, h2', h3⟩ := head9 hd
  have h2 : bt s a = 32 := h2'
  obtain ⟨c, r, hq, q1, q2, q3, q4, q5⟩ := quote_hd q
  have h3c : s.drop (a + 1) = c :: (r ++ rest) := by rw [h3, hq]; rfl
  obtain ⟨g1, g2, g3⟩ := head9 h3c
  obtain ⟨-, hn⟩ := next_qt h3 hr
  have hs : skipTo s a = a + 1 := by
    unfold skipTo
    rw [skip, if_pos h1, if_pos (by rw [h2]; decide)]
    obtain ⟨k, hk⟩ : ∃ k, s.length = k + 1 := ⟨s.length - 1, by omega⟩
    rw [hk, skip, if_pos g1, if_neg (by rw [g2, q2]; decide), if_neg (by rw [joins_no (by rw [g2]; exact q3)]; simp), if_neg (by rw [g2]; exact q5)]
  unfold next
  rw [if_neg (by omega), hs, hn]
theorem next_line {s r : Str} {a : Nat} (hl : s.length ≤ 16384) (hd : s.drop a = 10 :: r) : ∃ tx, next s a = (⟨3, a, a + 1, tx⟩, 0) := by
  obtain ⟨h1, h2', h3⟩ := head9 hd
  have h2 : bt s a = 10 := h2'
  refine ⟨cut s a (a + 1), ?_⟩
  unfold next
  rw [if_neg (by omega), skipTo_stop h1 (by rw [h2]; decide) (joins_no (by rw [h2]; decide)) (by rw [h2]; decide)]
  unfold nextAt
  rw [if_neg (by omega), if_pos h2]
  rfl
theorem next_semi {q s rest : Str} {a : Nat} (hl : s.length ≤ 16384) (hd : s.drop a = 59 :: (P.quote q ++ rest)) : next s a = (⟨2, a, a + 1, [59]⟩, 0) := by
  obtain ⟨h1, h2', h3⟩ := head9 hd
  have h2 : bt s a = 59 := h2'
  obtain ⟨c, r, hq, q1, q2, q3, q4, q5⟩ := quote_hd q
  have hd2 : s.drop a = 59 :: c :: (r ++ rest) := by rw [hd, hq]; rfl
  obtain ⟨g1, -, -⟩ := head9 (show s.drop (a + 1) = c :: (r ++ rest) by rw [h3, hq]; rfl)
  have hc : ∀ n, cut s a (a + n) = (59 :: c :: (r ++ rest)).take n := fun n => by
    unfold cut
    rw [List.drop_take, hd2, show a + n - a = n by omega]
  have hno : ∀ u : Str, isOp (59 :: c :: u) = false := fun u => by
    unfold isOp
    refine decide_eq_false fun h => ?_
    simp only [ops, List.mem_cons, List.not_mem_nil, or_false, List.cons.injEq] at h
    have hx : c = 59 := (show c = 59 ∧ u = [] by simpa using h).1
    subst hx
    exact absurd q1 (by decide)
  have e1 : isOp (cut s a (a + 1)) = true := by rw [hc]; rfl
  have e2 : isOp (cut s a (a + 2)) = false := by rw [hc]; exact hno _
  have e3 : isOp (cut s a (a + 3)) = false := by rw [hc]; exact hno _
  have ho : opLen s a = 1 := by
    unfold opLen
    have : min 3 (s.length - a) = 2 ∨ min 3 (s.length - a) = 3 := by omega
    rcases this with h | h
    · rw [h, opFrom, if_neg (by rw [e2]; simp), opFrom, if_pos e1]
    · rw [h, opFrom, if_neg (by rw [e3]; simp), opFrom, if_neg (by rw [e2]; simp), opFrom, if_pos e1]
  unfold next
  rw [if_neg (by omega), skipTo_stop h1 (by rw [h2]; decide) (joins_no (by rw [h2]; decide)) (by rw [h2]; decide)]
  unfold nextAt
  rw [if_neg (by omega), if_neg (by rw [h2]; decide), ho, if_pos (by omega), tok, hc]
  rfl
theorem next_stop {s : Str} (hl : s.length ≤ 16384) : next s s.length = (⟨5, s.length, s.length, []⟩, 0) := by
  unfold next
  rw [if_neg (by omega), skipTo_end]
  unfold nextAt
  rw [if_pos rfl]
end LX
open W
namespace AX
abbrev Str := List UInt8
def Z (s : Str) (a : Nat) (T : List SE) (c : Bool) : X := ⟨s, a, T, [], c, false, false⟩
theorem reach_z (s : Str) (a : Nat) (T : List SE) (c : Bool) (p : Nat) : reach (Z s a T c) p = Z s a T c := by
  unfold reach Z
  simp [W.flt, W.hit]
theorem run_pass {l : List AL.Al} {f : Nat} {s : Str} {a : Nat} {T : List SE} {c : Bool} {t : LX.Tok} {y : X} (hn : LX.next s a = (t, 0)) (h5 : ¬ t.kind = 5) (hv : value l T c t.kind t.pos t.text = none) (hp : pass (Z s a T c) t.kind t.stop t.text = some y) : run l (f + 1) (Z s a T c) = run l f y := by
  rw [run]
  rw [show LX.next (Z s a T c).s (Z s a T c).at_ = (t, 0) from hn]
  dsimp only
  rw [if_neg (by simp), if_neg h5, reach_z]
  rw [show value l (Z s a T c).ends (Z s a T c).cmd t.kind t.pos t.text = none from hv, hp]
/-- What is known of the entries: none is active at p. -/
def Old (n : Str) (p : Nat) (T : List SE) : Prop := T = [] ∨ ∃ e : Int, T = [(n, e)] ∧ e ≤ p
theorem Old.get {n : Str} {p : Nat} {T : List SE} (h : Old n p T) (l : List AL.Al) : value l T true 1 p n = AL.get l n := by
  unfold value
  rw [if_neg (by simp), if_neg (by simp)]
  rcases h with rfl | ⟨e, rfl, he⟩
  · rfl
  · rw [sget, if_pos rfl]
    dsimp only
    rw [if_neg (by omega)]
theorem Old.put {n : Str} {p : Nat} {T : List SE} (h : Old n p T) (mv u : Int) : sput (moved p mv T) n u = [(n, u)] := by
  rcases h with rfl | ⟨e, rfl, he⟩
  · rfl
  · simp [moved, sput]
theorem intro_res : ∀ t : Str, introB t = true → AL.resB t = true := by
  intro t h
  unfold introB at h
  rw [List.contains_iff_mem] at h
  simp only [List.mem_cons, List.not_mem_nil, or_false] at h
  rcases h with rfl | rfl | rfl | rfl | rfl | rfl | rfl | rfl | rfl <;> decide
variable {n q : Str}
/-- The name becomes its value, which is passed. -/
theorem one_put (hpn : P.plainB n = true) (hr : AL.resB (P.quote q) = false) {f : Nat} {A rest : Str} {T : List SE} (hT : Old n A.length T) (hh : LX.Halt rest) (hl : A.length + n.length + (P.quote q).length + rest.length ≤ 16384) :
    run [(n, P.quote q)] (f + 2) (Z (A ++ (n ++ rest)) A.length T true) = run [(n, P.quote q)] f (Z (A ++ (P.quote q ++ rest)) (A.length + (P.quote q).length) [(n, ((A.length + (P.quote q).length : Nat) : Int))] false) := by
  have hq : P.quote n = n := by unfold P.quote; rw [if_pos hpn]
  have hn : LX.next (A ++ (n ++ rest)) A.length = (⟨1, A.length, A.length + n.length, n⟩, 0) := by
    have := LX.next_here (q := n) (s := A ++ (n ++ rest)) (a := A.length) (rest := rest) (by simp; omega) (by rw [hq]; simp) hh
    rw [hq] at this
    exact this
  have hm : LX.next (A ++ (P.quote q ++ rest)) A.length = (⟨1, A.length, A.length + (P.quote q).length, P.quote q⟩, 0) :=
    LX.next_here (by simp; omega) (by simp) hh
  have hrep : replace (Z (A ++ (n ++ rest)) A.length T true) A.length (A.length + n.length) n (P.quote q) = Z (A ++ (P.quote q ++ rest)) A.length [(n, ((A.length + (P.quote q).length : Nat) : Int))] true := by
    unfold replace Z
    dsimp only
    rw [hT.put, LX.quote_last]
    simp
  rw [run, show LX.next (Z (A ++ (n ++ rest)) A.length T true).s (Z (A ++ (n ++ rest)) A.length T true).at_ = _ from hn]
  dsimp only
  rw [if_neg (by simp), if_neg (by decide), reach_z, show value [(n, P.quote q)] (Z (A ++ (n ++ rest)) A.length T true).ends (Z (A ++ (n ++ rest)) A.length T true).cmd 1 A.length n = some (P.quote q) from (hT.get _).trans (by rw [AL.get, if_pos rfl])]
  dsimp only
  rw [hrep, if_neg (by show ¬ 16384 < (A ++ (P.quote q ++ rest)).length; simp; omega)]
  have hv : value [(n, P.quote q)] [(n, ((A.length + (P.quote q).length : Nat) : Int))] true 1 A.length (P.quote q) = none := by
    obtain ⟨c, r, hc, -⟩ := LX.quote_hd q
    have h0 : 0 < (P.quote q).length := by rw [hc]; simp
    unfold value
    rw [if_neg (by simp), if_neg (by simp), sget]
    by_cases h : n = P.quote q
    · rw [if_pos h]
      dsimp only
      rw [if_pos (by omega)]
    · rw [if_neg h, sget]
      dsimp only
      rw [AL.get, if_neg h, AL.get]
  refine run_pass hm (show ¬ (1 : Nat) = 5 by decide) hv ?_
  have hi : introB (P.quote q) = false := by
    cases h : introB (P.quote q) with
    | false => rfl
    | true => rw [intro_res _ h] at hr; exact absurd hr (by decide)
  unfold pass Z
  dsimp only
  rw [if_neg (by simp), if_neg (by decide), if_neg (by decide), hi]
  simp
/-- The name as an argument. -/
theorem one_arg (hpn : P.plainB n = true) {l : List AL.Al} {f : Nat} {s rest : Str} {a : Nat} {T : List SE} (hd : s.drop a = 32 :: (n ++ rest)) (hh : LX.Halt rest) (hl : s.length ≤ 16384) :
    run l (f + 1) (Z s a T false) = run l f (Z s (a + 1 + n.length) T false) := by
  have hq : P.quote n = n := by unfold P.quote; rw [if_pos hpn]
  have hn := LX.next_gap (q := n) hl (by rw [hq]; exact hd) hh
  rw [hq] at hn
  exact run_pass hn (show ¬ (1 : Nat) = 5 by decide) (by unfold value; rw [if_pos rfl]) (by unfold pass Z; simp)
theorem one_line {l : List AL.Al} {f : Nat} {s rest : Str} {a : Nat} {T : List SE} {c : Bool} (hd : s.drop a = 10 :: rest) (hl : s.length ≤ 16384) :
    run l (f + 1) (Z s a T c) = run l f (Z s (a + 1) T true) := by
  obtain ⟨tx, hn⟩ := LX.next_line hl hd
  exact run_pass hn (show ¬ (3 : Nat) = 5 by decide) (by unfold value; split; rfl; rw [if_pos (show (3 : Nat) ≠ 1 by decide)]) (by unfold pass Z; simp)
theorem one_semi {l : List AL.Al} {f : Nat} {s rest : Str} {a : Nat} {T : List SE} {c : Bool} (hd : s.drop a = 59 :: (P.quote q ++ rest)) (hl : s.length ≤ 16384) :
    run l (f + 1) (Z s a T c) = run l f (Z s (a + 1) T true) := by
  have hn := LX.next_semi hl hd
  exact run_pass hn (show ¬ (2 : Nat) = 5 by decide) (by unfold value; split; rfl; rw [if_pos (show (2 : Nat) ≠ 1 by decide)]) (by unfold pass Z; simp; decide)
theorem one_end {l : List AL.Al} {f : Nat} {s : Str} {a : Nat} {T : List SE} {c : Bool} (ha : a = s.length) (hl : s.length ≤ 16384) :
    run l (f + 1) (Z s a T c) = some (s, 0) := by
  subst ha
  rw [run, show LX.next (Z s s.length T c).s (Z s s.length T c).at_ = _ from LX.next_stop hl]
  dsimp only
  rw [if_neg (by simp), if_pos rfl]
  rfl
def oneS (n : Str) : Str := n ++ (32 :: (n ++ (10 :: (n ++ (59 :: n)))))
def oneT (n v : Str) : Str := v ++ (32 :: (n ++ (10 :: (v ++ (59 :: v)))))
theorem one_expand (hv : AL.valid [(n, P.quote q)] = 0) (hr : AL.resB (P.quote q) = false) (hq : (P.quote q).length ≤ 4000) (hl : n.length ≤ 200) :
    expand [(n, P.quote q)] 12 (oneS n) = some (oneT n (P.quote q), 0) := by
  obtain ⟨-, hg, -⟩ := (AL.valid_zero _).1 hv
  have hn := (hg _ (List.mem_cons_self ..)).1
  have hpn : P.plainB n = true := by
    unfold AL.named at hn
    rw [Bool.and_eq_true, Bool.and_eq_true] at hn
    exact hn.2.1
  have hqn : P.quote n = n := by unfold P.quote; rw [if_pos hpn]
  obtain ⟨v, hvv⟩ : ∃ v, v = P.quote q := ⟨_, rfl⟩
  have h32 : ∀ r : Str, LX.Halt (32 :: r) := fun r => .inr ⟨32, r, rfl, by decide, by decide, by decide⟩
  have h10 : ∀ r : Str, LX.Halt (10 :: r) := fun r => .inr ⟨10, r, rfl, by decide, by decide, by decide⟩
  have h59 : ∀ r : Str, LX.Halt (59 :: r) := fun r => .inr ⟨59, r, rfl, by decide, by decide, by decide⟩
  unfold expand
  rw [hv, if_neg (by simp), if_neg (by unfold oneS; simp; omega)]
  have s1 := one_put hpn hr (f := 10) (A := []) (T := []) (rest := 32 :: (n ++ (10 :: (n ++ (59 :: n))))) (.inl rfl) (h32 _) (by simp; omega)
  have e1 : oneS n = [] ++ (n ++ (32 :: (n ++ (10 :: (n ++ (59 :: n)))))) := rfl
  rw [show (⟨oneS n, 0, [], [], true, false, false⟩ : X) = Z ([] ++ (n ++ (32 :: (n ++ (10 :: (n ++ (59 :: n))))))) ([] : Str).length [] true from rfl, s1]
  rw [← hvv] at hq ⊢
  simp only [List.nil_append, List.length_nil, Nat.zero_add]
  have hT1 : Old n (v ++ 32 :: (n ++ [10])).length [(n, ((v.length : Nat) : Int))] := .inr ⟨_, rfl, by simp; omega⟩
  rw [one_arg hpn (rest := 10 :: (n ++ (59 :: n))) (by simp) (h10 _) (by simp; omega)]
  rw [one_line (rest := n ++ (59 :: n)) (by rw [show v.length + 1 + n.length = (v ++ 32 :: n).length by simp; omega, show v ++ 32 :: (n ++ 10 :: (n ++ 59 :: n)) = (v ++ 32 :: n) ++ 10 :: (n ++ 59 :: n) by simp]; simp) (by simp; omega)]
  have s2 := one_put hpn hr (f := 6) (A := v ++ 32 :: (n ++ [10])) (T := [(n, ((v.length : Nat) : Int))]) (rest := 59 :: n) hT1 (h59 _) (by rw [← hvv]; simp; omega)
  rw [← hvv] at s2
  rw [show v.length + 1 + n.length + 1 = (v ++ 32 :: (n ++ [10])).length by simp; omega, show v ++ 32 :: (n ++ 10 :: (n ++ 59 :: n)) = (v ++ 32 :: (n ++ [10])) ++ (n ++ 59 :: n) by simp, s2]
  rw [one_semi (q := n) (rest := []) (by rw [hqn, ← List.length_append, ← List.append_assoc]; simp) (by simp; omega)]
  obtain ⟨A, hA⟩ : ∃ A, A = (v ++ 32 :: (n ++ [10])) ++ (v ++ [59]) := ⟨_, rfl⟩
  have hAl : (v ++ 32 :: (n ++ [10])).length + v.length + 1 = A.length := by rw [hA]; simp; omega
  have s3 := one_put hpn hr (f := 3) (A := A) (T := [(n, (((v ++ 32 :: (n ++ [10])).length + v.length : Nat) : Int))]) (rest := []) (.inr ⟨_, rfl, by omega⟩) (.inl rfl) (by rw [← hvv, hA]; simp; omega)
  rw [← hvv] at s3
  rw [hAl, show v ++ 32 :: (n ++ [10]) ++ (v ++ 59 :: n) = A ++ (n ++ []) by rw [hA]; simp, s3]
  rw [one_end (by rw [List.append_nil, List.length_append]) (by rw [hA]; simp; omega)]
  rw [hA]
  unfold oneT
  simp
end AX
end Go.Proofs.YtelhobphphkidaaGreatDoor
