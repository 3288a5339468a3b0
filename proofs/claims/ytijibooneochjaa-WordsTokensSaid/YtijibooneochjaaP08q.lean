/- Chapter 8 in plain Lean: what a word denotes; the words that Quote gives. -/
import Derived.Test.YtijibooneochjaaP08b
import Derived.Test.YtijibooneochjaaP01c
namespace Go.Proofs.Ytijibooneochjaa
open K
namespace WP
def Part.kind : Part → Nat | .mk k _ _ _ _ => k
def Part.text : Part → Str | .mk _ t _ _ _ => t
def litIn : List Part → Option Str
  | [] => some []
  | .mk k t _ _ _ :: r => if k = 1 then (litIn r).map (t ++ ·) else none
def lit1 : Part → Option Str
  | .mk k t _ _ ps => if k = 1 ∨ k = 2 then some t else if k = 3 then litIn ps else none
/-- The string that a word without expansions denotes. -/
def litA : List Part → Option Str
  | [] => some []
  | p :: r => (lit1 p).bind fun a => (litA r).map (a ++ ·)
def quotedB (l : List Part) : Bool := l.any fun p => decide (p.kind = 2 ∨ p.kind = 3)
theorem split39 : ∀ t : Str, ∃ u r, t = u ++ r ∧ (∀ k : Nat, u[k]? ≠ some 39) ∧ (r = [] ∨ ∃ t', r = 39 :: t')
  | [] => ⟨[], [], rfl, fun k => by simp, .inl rfl⟩
  | x :: t => by
    by_cases hx : x = 39
    · exact ⟨[], x :: t, rfl, fun k => by simp, .inr ⟨t, by rw [hx]⟩⟩
    · obtain ⟨u, r, h1, h2, h3⟩ := split39 t
      refine ⟨x :: u, r, by rw [h1]; rfl, fun k => ?_, h3⟩
      cases k with
      | zero => simp; exact hx
      | succ k => simpa using h2 k
theorem find39 {s u r : Str} {i : Nat} (h : s.drop i = u ++ 39 :: r) (hu : ∀ k : Nat, u[k]? ≠ some 39) : LX.find s i 39 = some u.length := by
  unfold LX.find
  rw [h]
  rw [List.findIdx?_eq_some_iff_getElem]
  refine ⟨by simp, by simp, fun j hj => ?_⟩
  have := hu j
  rw [List.getElem_append_left hj]
  rw [List.getElem?_eq_getElem hj] at this
  simpa using this
theorem drop_parts {s u r : Str} {a : Nat} (h : s.drop a = u ++ r) (ha : a ≤ s.length) : cut s a (a + u.length) = u ∧ s.drop (a + u.length) = r ∧ a + u.length ≤ s.length := by
  have hl := congrArg List.length h
  rw [List.length_drop, List.length_append] at hl
  refine ⟨?_, ?_, by omega⟩
  · unfold cut
    rw [List.drop_take, h, show a + u.length - a = u.length by omega, List.take_left']
    rfl
  · rw [← List.drop_drop, h, List.drop_left']
    rfl
/-- What close gives at a quoted piece. -/
theorem cls_single {s u r : Str} {a : Nat} (hl : s.length ≤ 16384) (h : s.drop a = 39 :: (u ++ 39 :: r)) (hu : ∀ k : Nat, u[k]? ≠ some 39) :
    cls s a = .ok (a + u.length + 2) ∧ cut s (a + 1) (a + u.length + 2 - 1) = u ∧ s.drop (a + u.length + 2) = r ∧ a + u.length + 2 ≤ s.length := by
  obtain ⟨h1, h2', h3⟩ := LX.drop_head h
  have h2 : bt s a = 39 := h2'
  have hb : LX.begins s a = true := by
    unfold LX.begins
    rw [if_neg (by rw [h2]; decide)]
    exact decide_eq_true (.inr (.inl h2))
  have hf := find39 h3 hu
  obtain ⟨d1, d2, d3⟩ := drop_parts h3 (by omega)
  obtain ⟨e1, e2, e3⟩ := LX.drop_head d2
  refine ⟨?_, ?_, ?_, by omega⟩
  · unfold cls
    have hc : LX.close s a = (a + u.length + 2, 0) := by
      unfold LX.close
      rw [if_neg (by omega), if_pos ⟨h1, hb⟩, LX.construct_eq, LX.con, if_neg (by rw [h2]; decide), if_pos h2, hf]
    rw [hc]
    rfl
  · rw [show a + u.length + 2 - 1 = a + 1 + u.length by omega]
    exact d1
  · rw [show a + u.length + 2 = a + 1 + u.length + 1 by omega]
    exact e3
def Quotes (ps : List Part) (t : Str) : Prop := litA ps = some t ∧ ∀ p ∈ ps, p.kind = 2
theorem Quotes.nil : Quotes [] [] := ⟨rfl, fun p hp => by cases hp⟩
theorem Quotes.cons {u t : Str} {ps : List Part} (h : Quotes ps t) : Quotes (.mk 2 u 0 false [] :: ps) (u ++ t) := by
  refine ⟨?_, fun p hp => ?_⟩
  · rw [litA, h.1, lit1, if_pos (.inr rfl)]
    rfl
  · rcases List.mem_cons.1 hp with rfl | hp
    · rfl
    · exact h.2 p hp
theorem flush_nil' {st : St} (h : st.tx = []) : flush st = st := by unfold flush; rw [if_pos h]
theorem add_nil {st : St} (h : st.tx = []) (p : Part) (k : Nat) : add p k st = { st with ls := st.ls ++ [p], a := k } := by unfold add; rw [flush_nil' h]
theorem ended_bare {c : Ctx} {st : St} (hp : c.pl = 0) (ho : c.op = false) (h : st.a < c.s.length) : ended c st = .ok false := by
  unfold ended
  rw [if_neg (by omega), if_neg (by rw [ho]; simp), if_neg (by rw [hp]; decide), if_neg (by rw [hp]; simp)]
theorem run_quoted {c : Ctx} (hp : c.pl = 0) (ho : c.op = false) (hn : ¬ 0 ≤ c.opn) (hl : c.s.length ≤ 16384) : ∀ (n : Nat) (t : Str) (st : St) (f : Nat), t.length ≤ n → st.tx = [] → c.s.drop st.a = 39 :: (P.quoteBody t ++ [39]) → c.s.length - st.a < f →
    ∃ ps st', run f c st = .ok st' ∧ st'.ls = st.ls ++ ps ∧ ps ≠ [] ∧ Quotes ps t := by
  intro n
  induction n with
  | zero =>
    intro t st f ht htx hd hf
    have : t = [] := List.length_eq_zero_iff.1 (by omega)
    subst this
    obtain ⟨q1, q2, q3, q4⟩ := cls_single (u := []) (r := []) hl hd (fun k => by simp)
    obtain ⟨b1, b2', b3⟩ := LX.drop_head hd
    have b2 : bt c.s st.a = 39 := b2'
    obtain ⟨f, rfl⟩ : ∃ k, f = k + 2 := ⟨f - 2, by omega⟩
    have he : st.a + 0 + 2 = c.s.length := by have := congrArg List.length q3; rw [List.length_drop] at this; simp at this q4 ⊢; omega
    refine ⟨[.mk 2 [] 0 false []], { st with ls := st.ls ++ [.mk 2 [] 0 false []], a := st.a + 2 }, ?_, rfl, by simp, by simpa using Quotes.nil.cons (u := [])⟩
    rw [run_succ, ended_bare hp ho b1]
    dsimp only
    rw [next, if_neg (by rw [b2]; decide), if_neg (by rw [b2]; decide), if_neg (by rw [b2]; decide), if_pos hp, unquoted, if_pos b2, q1]
    dsimp only
    rw [add_nil htx, show cut c.s (st.a + 1) (st.a + ([] : Str).length + 2 - 1) = [] from q2, run_succ, ended, if_pos (by simpa using he), if_neg hn]
    dsimp only
    rw [flush_nil' (by exact htx)]
    rfl
  | succ n ih =>
    intro t st f ht htx hd hf
    obtain ⟨u, r, htu, hu, hr⟩ := split39 t
    obtain ⟨b1, b2', b3⟩ := LX.drop_head hd
    have b2 : bt c.s st.a = 39 := b2'
    rcases hr with rfl | ⟨t', rfl⟩
    · rw [List.append_nil] at htu
      subst htu
      rw [P.quoteBody_none _ hu] at hd
      obtain ⟨q1, q2, q3, q4⟩ := cls_single (u := t) (r := []) hl hd hu
      obtain ⟨f, rfl⟩ : ∃ k, f = k + 2 := ⟨f - 2, by omega⟩
      have he : st.a + t.length + 2 = c.s.length := by have := congrArg List.length q3; rw [List.length_drop] at this; simp at this; omega
      refine ⟨[.mk 2 t 0 false []], { st with ls := st.ls ++ [.mk 2 t 0 false []], a := st.a + t.length + 2 }, ?_, rfl, by simp, by simpa using Quotes.nil.cons (u := t)⟩
      rw [run_succ, ended_bare hp ho b1]
      dsimp only
      rw [next, if_neg (by rw [b2]; decide), if_neg (by rw [b2]; decide), if_neg (by rw [b2]; decide), if_pos hp, unquoted, if_pos b2, q1]
      dsimp only
      rw [add_nil htx, q2, run_succ, ended, if_pos he, if_neg hn]
      dsimp only
      rw [flush_nil' (by exact htx)]
    · subst htu
      rw [P.quoteBody_append, P.quoteBody_none _ hu] at hd
      have hq : P.quoteBody (39 :: t') = 39 :: 92 :: 39 :: 39 :: P.quoteBody t' := rfl
      rw [hq] at hd
      have hd2 : c.s.drop st.a = 39 :: (u ++ 39 :: (92 :: 39 :: (39 :: (P.quoteBody t' ++ [39])))) := by rw [hd]; simp
      obtain ⟨q1, q2, q3, q4⟩ := cls_single (u := u) hl hd2 hu
      obtain ⟨e1, e2', e3⟩ := LX.drop_head q3
      obtain ⟨g1, g2', g3⟩ := LX.drop_head e3
      obtain ⟨k1, k2, k3⟩ := LX.drop_head g3
      have e2 : bt c.s (st.a + u.length + 2) = 92 := e2'
      have g2 : bt c.s (st.a + u.length + 2 + 1) = 39 := g2'
      obtain ⟨f, rfl⟩ : ∃ k, f = k + 2 := ⟨f - 2, by omega⟩
      have hlen : (u ++ 39 :: t').length = u.length + (t'.length + 1) := by rw [List.length_append, List.length_cons]
      obtain ⟨ps, st', i1, i2, i3, i4⟩ := ih t' { st with ls := st.ls ++ [.mk 2 u 0 false []] ++ [.mk 2 [39] 0 false []], a := st.a + u.length + 2 + 2 } f (by omega) htx g3 (by dsimp only; omega)
      refine ⟨.mk 2 u 0 false [] :: .mk 2 [39] 0 false [] :: ps, st', ?_, by rw [i2]; simp, by simp, by simpa using (i4.cons (u := [39])).cons (u := u)⟩
      rw [run_succ, ended_bare hp ho b1]
      dsimp only
      rw [next, if_neg (by rw [b2]; decide), if_neg (by rw [b2]; decide), if_neg (by rw [b2]; decide), if_pos hp, unquoted, if_pos b2, q1]
      dsimp only
      rw [add_nil htx, q2, run_succ, ended_bare hp ho e1]
      dsimp only
      rw [next, if_pos e2, backslash, if_neg (by dsimp only; omega), if_neg (by rw [g2]; decide), if_pos hp]
      dsimp only
      have hc : cut c.s (st.a + u.length + 2 + 1) (st.a + u.length + 2 + 2) = [39] := by
        have := cut_one c.s (st.a + u.length + 2 + 1) g1
        rw [g2] at this
        exact this
      rw [hc, add_nil (by exact htx)]
      exact i1
theorem flush_ls_eq {st st' : St} (h1 : st.tx = st'.tx) (h2 : st.ls = st'.ls) : (flush st).ls = (flush st').ls := by
  unfold flush
  rw [h1, h2]
  split <;> first | rfl | exact h2
theorem plain_bt : ∀ n : Nat, n < 256 → P.pl n = true → ¬ n = 92 ∧ ¬ n = 36 ∧ ¬ n = 96 ∧ ¬ n = 39 ∧ ¬ n = 34 ∧ LX.divides n = false ∧ ¬ n = 126 := by decide +kernel
theorem run_plain {c : Ctx} (hp : c.pl = 0) (ho : c.op = false) (hn : ¬ 0 ≤ c.opn) : ∀ (t : Str) (st : St) (f : Nat), c.s.drop st.a = t → st.a ≤ c.s.length → t.all (fun x => P.pl (P.iv x)) = true → c.s.length - st.a < f →
    ∃ st', run f c st = .ok st' ∧ st'.ls = (flush { st with tx := st.tx ++ t }).ls := by
  intro t
  induction t with
  | nil =>
    intro st f hd ha _ hf
    obtain ⟨f, rfl⟩ : ∃ k, f = k + 1 := ⟨f - 1, by omega⟩
    have he : st.a = c.s.length := by have := congrArg List.length hd; rw [List.length_drop] at this; simp at this; omega
    refine ⟨flush st, ?_, by rw [List.append_nil]⟩
    rw [run_succ, ended, if_pos he, if_neg hn]
  | cons x t ih =>
    intro st f hd ha hall hf
    obtain ⟨f, rfl⟩ : ∃ k, f = k + 1 := ⟨f - 1, by omega⟩
    obtain ⟨b1, b2, b3⟩ := LX.drop_head hd
    rw [List.all_cons, Bool.and_eq_true] at hall
    obtain ⟨p1, p2, p3, p4, p5, p6, p7⟩ := plain_bt x.toNat x.toNat_lt (by simpa [P.iv] using hall.1)
    obtain ⟨st', i1, i2⟩ := ih (lit x 1 st) f b3 (by show st.a + 1 ≤ _; omega) hall.2 (by show _ - (st.a + 1) < _; omega)
    refine ⟨st', ?_, ?_⟩
    · rw [run_succ, ended_bare hp ho b1]
      dsimp only
      rw [next, if_neg (by rw [b2]; omega), if_neg (by rw [b2]; omega), if_neg (by rw [b2]; omega), if_pos hp, unquoted, if_neg (by rw [b2]; omega), if_neg (by rw [b2]; omega), if_neg (by rw [b2, p6]; simp), if_neg (by rw [b2]; omega), b2, by8_of]
      exact i1
    · rw [i2]
      exact flush_ls_eq (by simp [lit]) rfl
/-- What Parse gives at a quoted form. -/
theorem parse_quote (s : Str) (hs : s.length ≤ 4000) : ∃ ps, parse (P.quote s) 0 = .ok ps ∧ litA ps = some s ∧ quotedB ps = !P.plainB s := by
  have hlen := P.quote_le s
  unfold parse
  rw [if_neg (by omega)]
  cases hpl : P.plainB s with
  | true =>
    have hq : P.quote s = s := by unfold P.quote; rw [if_pos hpl]
    rw [hq]
    unfold P.plainB at hpl
    rw [Bool.and_eq_true] at hpl
    have hne : s ≠ [] := by intro e; rw [e] at hpl; simp at hpl
    obtain ⟨st', h1, h2⟩ := run_plain (c := ⟨s, 0, false, 1, -1⟩) rfl rfl (show ¬ (0 : Int) ≤ -1 by decide) s ⟨0, 0, [], []⟩ (s.length + 1) (by simp) (by simp) hpl.1 (by simp)
    refine ⟨st'.ls, by rw [h1], ?_, ?_⟩
    · rw [h2, flush, if_neg (by simpa using hne)]
      simp [litA, lit1]
    · rw [h2, flush, if_neg (by simpa using hne)]
      simp [quotedB, Part.kind]
  | false =>
    have hq : P.quote s = 39 :: (P.quoteBody s ++ [39]) := by unfold P.quote; rw [if_neg (by rw [hpl]; simp)]
    obtain ⟨ps, st', h1, h2, h3, h4⟩ := run_quoted (c := ⟨P.quote s, 0, false, 1, -1⟩) rfl rfl (show ¬ (0 : Int) ≤ -1 by decide) (by show (P.quote s).length ≤ 16384; omega) s.length s ⟨0, 0, [], []⟩ ((P.quote s).length + 1) (Nat.le_refl _) rfl (by simpa using hq) (by simp)
    refine ⟨st'.ls, by rw [h1], ?_, ?_⟩
    · rw [h2]; simpa using h4.1
    · rw [h2]
      cases ps with
      | nil => exact absurd rfl h3
      | cons p ps =>
        have := h4.2 p (List.mem_cons_self ..)
        simp [quotedB, this]
end WP
end Go.Proofs.Ytijibooneochjaa
