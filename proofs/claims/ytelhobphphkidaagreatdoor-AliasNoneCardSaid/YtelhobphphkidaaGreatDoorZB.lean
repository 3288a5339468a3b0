/- Several texts in one: P07c P08q P08w P08c P08d. -/
import Derived.Test.YtelhobphphkidaaGreatDoorP07b
import Derived.Test.YtelhobphphkidaaGreatDoorP08b
import Derived.Test.YtelhobphphkidaaGreatDoorZA
namespace Go.Proofs.YtelhobphphkidaaGreatDoor
open K
namespace LX
theorem cut_one {s : Str} {p : Nat} {x : UInt8} (h : s.drop p = x :: s.drop (p + 1)) : cut s p (p + 1) = [x] := by
  unfold cut
  rw [List.drop_take, h, show p + 1 - p = 1 by omega]
  rfl
theorem opFrom_one {s : Str} {a : Nat} (h : isOp (cut s a (a + 1)) = true) : ∀ n, 1 ≤ n → 0 < opFrom s a n
  | 0, h0 => absurd h0 (by omega)
  | 1, _ => by rw [opFrom, if_pos (by exact h)]; omega
  | n + 2, _ => by
    rw [opFrom]
    split
    · omega
    · exact opFrom_one h (n + 1) (by omega)
theorem op_small : ∀ n : Nat, n < 256 → divides (n : Int) = true → blank (n : Int) = false → isOp [n.toUInt8] = true := by decide +kernel
theorem opLen_pos {s : Str} {p : Nat} (hp : p < s.length) (h1 : divides (bt s p) = true) (h2 : blank (bt s p) = false) : 0 < opLen s p := by
  obtain ⟨x, hx, hb, -⟩ := drop_cons s p hp
  rw [hb] at h1 h2
  have h3 := op_small x.toNat (UInt8.toNat_lt x) h1 h2
  rw [show x.toNat.toUInt8 = x from UInt8.ofNat_toNat] at h3
  refine opFrom_one ?_ _ (by omega)
  rw [cut_one hx]
  exact h3
/-- A word that begins at a byte that divides none ends behind it. -/
theorem word_lt {s : Str} {p : Nat} (hp : p < s.length) (hd : divides (bt s p) = false) (h : (wordEnd s p).2 = 0) : p < (wordEnd s p).1 := by
  unfold wordEnd at h ⊢
  rw [word, if_pos ⟨hp, hd⟩] at h ⊢
  by_cases hb : begins s p = true
  · rw [if_pos hb] at h ⊢
    have hg := construct_good (q := false) (d := false) hp hb
    unfold thn at h ⊢
    by_cases he : (construct s p false false).2 = 0
    · rw [if_pos he] at h ⊢
      have h1 := (word_good s.length s _ hg.1).2.1 h
      have h2 := hg.2.1 he
      show p < (word s.length s (construct s p false false).1).1
      omega
    · rw [if_neg he] at h
      exact absurd h he
  · rw [if_neg hb] at h ⊢
    have h1 := (word_good s.length s (p + 1) (by omega)).2.1 h
    omega
/-- A token that is not the end takes more than nothing. -/
theorem next_far {s : Str} {a : Nat} {t : Tok} (ha : a ≤ s.length) (h : next s a = (t, 0)) : t.kind = 5 ∨ (a < t.stop ∧ t.stop ≤ s.length) := by
  unfold next at h
  split at h
  · simp at h
  have hle := skipTo_le ha
  have hge := skipTo_ge s a
  have hat := skipTo_at ha
  generalize skipTo s a = p at h hle hge hat
  unfold nextAt at h
  split at h
  · left
    have := congrArg Prod.fst h
    dsimp only at this
    rw [← this]
  rename_i hne
  have hlt : p < s.length := by omega
  obtain ⟨hbl, -, -⟩ := hat hlt
  right
  split at h
  · have := congrArg Prod.fst h
    dsimp only at this
    rw [← this]
    show a < p + 1 ∧ p + 1 ≤ s.length
    omega
  split at h
  · rename_i ho
    have := congrArg Prod.fst h
    dsimp only at this
    rw [← this]
    show a < p + opLen s p ∧ p + opLen s p ≤ s.length
    have := opFrom_le s p (min 3 (s.length - p))
    unfold opLen at ho ⊢
    omega
  · rename_i ho
    unfold nextW at h
    split at h
    · rename_i he
      have := congrArg Prod.fst h
      dsimp only at this
      rw [← this]
      show a < (wordEnd s p).1 ∧ (wordEnd s p).1 ≤ s.length
      have h1 := word_lt hlt (by
        cases hd : divides (bt s p) with
        | false => rfl
        | true => exact absurd (opLen_pos hlt hd hbl) ho) he
      have h2 := (word_good (s.length + 1) s p hle).1
      exact ⟨by omega, h2⟩
    · rename_i he
      exact absurd (congrArg Prod.snd h) he
end LX
end Go.Proofs.YtelhobphphkidaaGreatDoor
namespace Go.Proofs.YtelhobphphkidaaGreatDoor
open K
namespace WP
def Part.kind : Part → Nat | .mk k _ _ _ _ => k
def Part.text : Part → Str | .mk _ t _ _ _ => t
def litIn : List Part → Option Str
  | [] => some []
  | .mk k t _ _ _ :: r => if k = 1 then (litIn r).map (t ++ ·) else none
def lit1 : Part → Option Str
  | .mk k t _ _ ps => if k = 1 ∨ k = 2 then some t else if k = 3 then litIn ps else none
/-- The string that a word without expansions denotes. -/
def litA : List Part → Option Str
  | [] => some []
  | p :: r => (lit1 p).bind fun a => (litA r).map (a ++ ·)
def quotedB (l : List Part) : Bool := l.any fun p => decide (p.kind = 2 ∨ p.kind = 3)
theorem split39 : ∀ t : Str, ∃ u r, t = u ++ r ∧ (∀ k : Nat, u[k]? ≠ some 39) ∧ (r = [] ∨ ∃ t', r = 39 :: t')
  | [] => ⟨[], [], rfl, fun k => by simp, .inl rfl⟩
  | x :: t => by
    by_cases hx : x = 39
    · exact ⟨[], x :: t, rfl, fun k => by simp, .inr ⟨t, by rw [hx]⟩⟩
    · obtain ⟨u, r, h1, h2, h3⟩ := split39 t
      refine ⟨x :: u, r, by rw [h1]; rfl, fun k => ?_, h3⟩
      cases k with
      | zero => simp; exact hx
      | succ k => simpa using h2 k
theorem find39 {s u r : Str} {i : Nat} (h : s.drop i = u ++ 39 :: r) (hu : ∀ k : Nat, u[k]? ≠ some 39) : LX.find s i 39 = some u.length := by
  unfold LX.find
  rw [h]
  rw [List.findIdx?_eq_some_iff_getElem]
  refine ⟨by simp, by simp, fun j hj => ?_⟩
  have := hu j
  rw [List.getElem_append_left hj]
  rw [List.getElem?_eq_getElem hj] at this
  simpa using this
theorem drop_parts {s u r : Str} {a : Nat} (h : s.drop a = u ++ r) (ha : a ≤ s.length) : cut s a (a + u.length) = u ∧ s.drop (a + u.length) = r ∧ a + u.length ≤ s.length := by
  have hl := congrArg List.length h
  rw [List.length_drop, List.length_append] at hl
  refine ⟨?_, ?_, by omega⟩
  · unfold cut
    rw [List.drop_take, h, show a + u.length - a = u.length by omega, List.take_left']
    rfl
  · rw [← List.drop_drop, h, List.drop_left']
    rfl
/-- What close gives at a quoted piece. -/
theorem cls_single {s u r : Str} {a : Nat} (hl : s.length ≤ 16384) (h : s.drop a = 39 :: (u ++ 39 :: r)) (hu : ∀ k : Nat, u[k]? ≠ some 39) :
    cls s a = .ok (a + u.length + 2) ∧ cut s (a + 1) (a + u.length + 2 - 1) = u ∧ s.drop (a + u.length + 2) = r ∧ a + u.length + 2 ≤ s.length := by
  obtain ⟨h1, h2', h3⟩ := LX.drop_head h
  have h2 : bt s a = 39 := h2'
  have hb : LX.begins s a = true := by
    unfold LX.begins
    rw [if_neg (by rw [h2]; decide)]
    exact decide_eq_true (.inr (.inl h2))
  have hf := find39 h3 hu
  obtain ⟨d1, d2, d3⟩ := drop_parts h3 (by omega)
  obtain ⟨e1, e2, e3⟩ := LX.drop_head d2
  refine ⟨?_, ?_, ?_, by omega⟩
  · unfold cls
    have hc : LX.close s a = (a + u.length + 2, 0) := by
      unfold LX.close
      rw [if_neg (by omega), if_pos ⟨h1, hb⟩, LX.construct_eq, LX.con, if_neg (by rw [h2]; decide), if_pos h2, hf]
    rw [hc]
    rfl
  · rw [show a + u.length + 2 - 1 = a + 1 + u.length by omega]
    exact d1
  · rw [show a + u.length + 2 = a + 1 + u.length + 1 by omega]
    exact e3
def Quotes (ps : List Part) (t : Str) : Prop := litA ps = some t ∧ ∀ p ∈ ps, p.kind = 2
theorem Quotes.nil : Quotes [] [] := ⟨rfl, fun p hp => by cases hp⟩
theorem Quotes.cons {u t : Str} {ps : List Part} (h : Quotes ps t) : Quotes (.mk 2 u 0 false [] :: ps) (u ++ t) := by
  refine ⟨?_, fun p hp => ?_⟩
  · rw [litA, h.1, lit1, if_pos (.inr rfl)]
    rfl
  · rcases List.mem_cons.1 hp with rfl | hp
    · rfl
    · exact h.2 p hp
theorem flush_nil' {st : St} (h : st.tx = []) : flush st = st := by unfold flush; rw [if_pos h]
theorem add_nil {st : St} (h : st.tx = []) (p : Part) (k : Nat) : add p k st = { st with ls := st.ls ++ [p], a := k } := by unfold add; rw [flush_nil' h]
theorem ended_bare {c : Ctx} {st : St} (hp : c.pl = 0) (ho : c.op = false) (h : st.a < c.s.length) : ended c st = .ok false := by
  unfold ended
  rw [if_neg (by omega), if_neg (by rw [ho]; simp), if_neg (by rw [hp]; decide), if_neg (by rw [hp]; simp)]
theorem run_quoted {c : Ctx} (hp : c.pl = 0) (ho : c.op = false) (hn : ¬ 0 ≤ c.opn) (hl : c.s.length ≤ 16384) : ∀ (n : Nat) (t : Str) (st : St) (f : Nat), t.length ≤ n → st.tx = [] → c.s.drop st.a = 39 :: (P.quoteBody t ++ [39]) → c.s.length - st.a < f →
    ∃ ps st', run f c st = .ok st' ∧ st'.ls = st.ls ++ ps ∧ ps ≠ [] ∧ Quotes ps t := by
  intro n
  induction n with
  | zero =>
    intro t st f ht htx hd hf
    have : t = [] := List.length_eq_zero_iff.1 (by omega)
    subst this
    obtain ⟨q1, q2, q3, q4⟩ := cls_single (u := []) (r := []) hl hd (fun k => by simp)
    obtain ⟨b1, b2', b3⟩ := LX.drop_head hd
    have b2 : bt c.s st.a = 39 := b2'
    obtain ⟨f, rfl⟩ : ∃ k, f = k + 2 := ⟨f - 2, by omega⟩
    have he : st.a + 0 + 2 = c.s.length := by have := congrArg List.length q3; rw [List.length_drop] at this; simp at this q4 ⊢; omega
    refine ⟨[.mk 2 [] 0 false []], { st with ls := st.ls ++ [.mk 2 [] 0 false []], a := st.a + 2 }, ?_, rfl, by simp, by simpa using Quotes.nil.cons (u := [])⟩
    rw [run_succ, ended_bare hp ho b1]
    dsimp only
    rw [next, if_neg (by rw [b2]; decide), if_neg (by rw [b2]; decide), if_neg (by rw [b2]; decide), if_pos hp, unquoted, if_pos b2, q1]
    dsimp only
    rw [add_nil htx, show cut c.s (st.a + 1) (st.a + ([] : Str).length + 2 - 1) = [] from q2, run_succ, ended, if_pos (by simpa using he), if_neg hn]
    dsimp only
    rw [flush_nil' (by exact htx)]
    rfl
  | succ n ih =>
    intro t st f ht htx hd hf
    obtain ⟨u, r, htu, hu, hr⟩ := split39 t
    obtain ⟨b1, b2', b3⟩ := LX.drop_head hd
    have b2 : bt c.s st.a = 39 := b2'
    rcases hr with rfl | ⟨t', rfl⟩
    · rw [List.append_nil] at htu
      subst htu
      rw [P.quoteBody_none _ hu] at hd
      obtain ⟨q1, q2, q3, q4⟩ := cls_single (u := t) (r := []) hl hd hu
      obtain ⟨f, rfl⟩ : ∃ k, f = k + 2 := ⟨f - 2, by omega⟩
      have he : st.a + t.length + 2 = c.s.length := by have := congrArg List.length q3; rw [List.length_drop] at this; simp at this; omega
      refine ⟨[.mk 2 t 0 false []], { st with ls := st.ls ++ [.mk 2 t 0 false []], a := st.a + t.length + 2 }, ?_, rfl, by simp, by simpa using Quotes.nil.cons (u := t)⟩
      rw [run_succ, ended_bare hp ho b1]
      dsimp only
      rw [next, if_neg (by rw [b2]; decide), if_neg (by rw [b2]; decide), if_neg (by rw [b2]; decide), if_pos hp, unquoted, if_pos b2, q1]
      dsimp only
      rw [add_nil htx, q2, run_succ, ended, if_pos he, if_neg hn]
      dsimp only
      rw [flush_nil' (by exact htx)]
    · subst htu
      rw [P.quoteBody_append, P.quoteBody_none _ hu] at hd
      have hq : P.quoteBody (39 :: t') = 39 :: 92 :: 39 :: 39 :: P.quoteBody t' := rfl
      rw [hq] at hd
      have hd2 : c.s.drop st.a = 39 :: (u ++ 39 :: (92 :: 39 :: (39 :: (P.quoteBody t' ++ [39])))) := by rw [hd]; simp
      obtain ⟨q1, q2, q3, q4⟩ := cls_single (u := u) hl hd2 hu
      obtain ⟨e1, e2', e3⟩ := LX.drop_head q3
      obtain ⟨g1, g2', g3⟩ := LX.drop_head e3
      obtain ⟨k1, k2, k3⟩ := LX.drop_head g3
      have e2 : bt c.s (st.a + u.length + 2) = 92 := e2'
      have g2 : bt c.s (st.a + u.length + 2 + 1) = 39 := g2'
      obtain ⟨f, rfl⟩ : ∃ k, f = k + 2 := ⟨f - 2, by omega⟩
      have hlen : (u ++ 39 :: t').length = u.length + (t'.length + 1) := by rw [List.length_append, List.length_cons]
      obtain ⟨ps, st', i1, i2, i3, i4⟩ := ih t' { st with ls := st.ls ++ [.mk 2 u 0 false []] ++ [.mk 2 [39] 0 false []], a := st.a + u.length + 2 + 2 } f (by omega) htx g3 (by dsimp only; omega)
      refine ⟨.mk 2 u 0 false [] :: .mk 2 [39] 0 false [] :: ps, st', ?_, by rw [i2]; simp, by simp, by simpa using (i4.cons (u := [39])).cons (u := u)⟩
      rw [run_succ, ended_bare hp ho b1]
      dsimp only
      rw [next, if_neg (by rw [b2]; decide), if_neg (by rw [b2]; decide), if_neg (by rw [b2]; decide), if_pos hp, unquoted, if_pos b2, q1]
      dsimp only
      rw [add_nil htx, q2, run_succ, ended_bare hp ho e1]
      dsimp only
      rw [next, if_pos e2, backslash, if_neg (by dsimp only; omega), if_neg (by rw [g2]; decide), if_pos hp]
      dsimp only
      have hc : cut c.s (st.a + u.length + 2 + 1) (st.a + u.length + 2 + 2) = [39] := by
        have := cut_one c.s (st.a + u.length + 2 + 1) g1
        rw [g2] at this
        exact this
      rw [hc, add_nil (by exact htx)]
      exact i1
theorem flush_ls_eq {st st' : St} (h1 : st.tx = st'.tx) (h2 : st.ls = st'.ls) : (flush st).ls = (flush st').ls := by
  unfold flush
  rw [h1, h2]
  split <;> first | rfl | exact h2
theorem plain_bt : ∀ n : Nat, n < 256 → P.pl n = true → ¬ n = 92 ∧ ¬ n = 36 ∧ ¬ n = 96 ∧ ¬ n = 39 ∧ ¬ n = 34 ∧ LX.divides n = false ∧ ¬ n = 126 := by decide +kernel
theorem run_plain {c : Ctx} (hp : c.pl = 0) (ho : c.op = false) (hn : ¬ 0 ≤ c.opn) : ∀ (t : Str) (st : St) (f : Nat), c.s.drop st.a = t → st.a ≤ c.s.length → t.all (fun x => P.pl (P.iv x)) = true → c.s.length - st.a < f →
    ∃ st', run f c st = .ok st' ∧ st'.ls = (flush { st with tx := st.tx ++ t }).ls := by
  intro t
  induction t with
  | nil =>
    intro st f hd ha _ hf
    obtain ⟨f, rfl⟩ : ∃ k, f = k + 1 := ⟨f - 1, by omega⟩
    have he : st.a = c.s.length := by have := congrArg List.length hd; rw [List.length_drop] at this; simp at this; omega
    refine ⟨flush st, ?_, by rw [List.append_nil]⟩
    rw [run_succ, ended, if_pos he, if_neg hn]
  | cons x t ih =>
    intro st f hd ha hall hf
    obtain ⟨f, rfl⟩ : ∃ k, f = k + 1 := ⟨f - 1, by omega⟩
    obtain ⟨b1, b2, b3⟩ := LX.drop_head hd
    rw [List.all_cons, Bool.and_eq_true] at hall
    obtain ⟨p1, p2, p3, p4, p5, p6, p7⟩ := plain_bt x.toNat x.toNat_lt (by simpa [P.iv] using hall.1)
    obtain ⟨st', i1, i2⟩ := ih (lit x 1 st) f b3 (by show st.a + 1 ≤ _; omega) hall.2 (by show _ - (st.a + 1) < _; omega)
    refine ⟨st', ?_, ?_⟩
    · rw [run_succ, ended_bare hp ho b1]
      dsimp only
      rw [next, if_neg (by rw [b2]; omega), if_neg (by rw [b2]; omega), if_neg (by rw [b2]; omega), if_pos hp, unquoted, if_neg (by rw [b2]; omega), if_neg (by rw [b2]; omega), if_neg (by rw [b2, p6]; simp), if_neg (by rw [b2]; omega), b2, by8_of]
      exact i1
    · rw [i2]
      exact flush_ls_eq (by simp [lit]) rfl
/-- What Parse gives at a quoted form. -/
theorem parse_quote (s : Str) (hs : s.length ≤ 4000) : ∃ ps, parse (P.quote s) 0 = .ok ps ∧ litA ps = some s ∧ quotedB ps = !P.plainB s := by
  have hlen := P.quote_le s
  unfold parse
  rw [if_neg (by omega)]
  cases hpl : P.plainB s with
  | true =>
    have hq : P.quote s = s := by unfold P.quote; rw [if_pos hpl]
    rw [hq]
    unfold P.plainB at hpl
    rw [Bool.and_eq_true] at hpl
    have hne : s ≠ [] := by intro e; rw [e] at hpl; simp at hpl
    obtain ⟨st', h1, h2⟩ := run_plain (c := ⟨s, 0, false, 1, -1⟩) rfl rfl (show ¬ (0 : Int) ≤ -1 by decide) s ⟨0, 0, [], []⟩ (s.length + 1) (by simp) (by simp) hpl.1 (by simp)
    refine ⟨st'.ls, by rw [h1], ?_, ?_⟩
    · rw [h2, flush, if_neg (by simpa using hne)]
      simp [litA, lit1]
    · rw [h2, flush, if_neg (by simpa using hne)]
      simp [quotedB, Part.kind]
  | false =>
    have hq : P.quote s = 39 :: (P.quoteBody s ++ [39]) := by unfold P.quote; rw [if_neg (by rw [hpl]; simp)]
    obtain ⟨ps, st', h1, h2, h3, h4⟩ := run_quoted (c := ⟨P.quote s, 0, false, 1, -1⟩) rfl rfl (show ¬ (0 : Int) ≤ -1 by decide) (by show (P.quote s).length ≤ 16384; omega) s.length s ⟨0, 0, [], []⟩ ((P.quote s).length + 1) (Nat.le_refl _) rfl (by simpa using hq) (by simp)
    refine ⟨st'.ls, by rw [h1], ?_, ?_⟩
    · rw [h2]; simpa using h4.1
    · rw [h2]
      cases ps with
      | nil => exact absurd rfl h3
      | cons p ps =>
        have := h4.2 p (List.mem_cons_self ..)
        simp [quotedB, this]
end WP
end Go.Proofs.YtelhobphphkidaaGreatDoor
namespace Go.Proofs.YtelhobphphkidaaGreatDoor
open K
namespace WP
/-- A part whatever its kind. -/
inductive GP where
  | mk (kind : Int) (text : Str) (op : Int) (colon : Bool) (parts : List GP)
mutual
def gp : Part → GP
  | .mk k t o c ps => .mk k t o c (gpL ps)
def gpL : List Part → List GP
  | [] => []
  | p :: r => gp p :: gpL r
end
theorem gpL_length : ∀ l : List Part, (gpL l).length = l.length
  | [] => rfl
  | p :: r => by rw [gpL, List.length_cons, List.length_cons, gpL_length r]
theorem gpL_append : ∀ a b : List Part, gpL (a ++ b) = gpL a ++ gpL b
  | [], b => rfl
  | p :: r, b => by rw [List.cons_append, gpL, gpL, gpL_append r b]; rfl
namespace GP
def kind : GP → Int | .mk k _ _ _ _ => k
def text : GP → Str | .mk _ t _ _ _ => t
def op : GP → Int | .mk _ _ o _ _ => o
def colon : GP → Bool | .mk _ _ _ c _ => c
def parts : GP → List GP | .mk _ _ _ _ ps => ps
end GP
def escT (pl : Nat) (op : Bool) : Str → Str
  | [] => []
  | x :: r => (if escapes pl x.toNat op = true then [92, x] else [x]) ++ escT pl op r
theorem escT_append (pl : Nat) (op : Bool) : ∀ a b : Str, escT pl op (a ++ b) = escT pl op a ++ escT pl op b
  | [], b => rfl
  | x :: r, b => by rw [List.cons_append, escT, escT, escT_append pl op r b, List.append_assoc]
theorem escT_len (pl : Nat) (op : Bool) : ∀ a : Str, (escT pl op a).length ≤ 2 * a.length
  | [] => Nat.le_refl _
  | x :: r => by
    have := escT_len pl op r
    rw [escT, List.length_append, List.length_cons]
    split <;> simp <;> omega
/-- Whether a parameter's name wants braces ahead of a byte. -/
def braces (t : Str) (nx : Int) : Bool := (LX.number t && decide (1 < t.length)) || (decide (t ≠ []) && (LX.starts (bt t 0) && (LX.starts nx || LX.digit nx)))
def symbol (o : Int) : Option Str :=
  if o = 1 then some [45] else if o = 2 then some [61] else if o = 3 then some [63] else if o = 4 then some [43] else if o = 6 then some [37] else if o = 7 then some [37, 37] else if o = 8 then some [35] else if o = 9 then some [35, 35] else none
def nextB : List GP → Int
  | .mk k (x :: _) _ _ _ :: _ => if k = 1 then x.toNat else 0
  | _ => 0
mutual
/-- What the writer writes for a part. -/
def outP (pl : Nat) (op : Bool) (nx : Int) : GP → Str
  | .mk k t o c ps =>
    if k = 7 then [126]
    else if k = 1 then escT pl op t
    else if k = 2 then (if t = [39] then [92, 39] else 39 :: (t ++ [39]))
    else if k = 3 then 34 :: (outL 1 false ps ++ [34])
    else if k = 5 then 36 :: 40 :: (t ++ [41])
    else if k = 6 then 36 :: 40 :: 40 :: (outL 2 false ps ++ [41, 41])
    else if k = 4 then
      (if o = 0 then (if braces t nx = true then 36 :: 123 :: (t ++ [125]) else 36 :: t)
      else if o = 5 then 36 :: 123 :: 35 :: (t ++ [125])
      else match symbol o with
        | none => []
        | some y => 36 :: 123 :: (t ++ ((if c = true then 58 :: y else y) ++ (outL pl true ps ++ [125]))))
    else []
def outL (pl : Nat) (op : Bool) : List GP → Str
  | [] => []
  | p :: r => outP pl op (nextB r) p ++ outL pl op r
end
mutual
/-- Whether the writer finds no source. -/
def badP : GP → Bool
  | .mk k _ o _ ps =>
    if k = 3 ∨ k = 6 then badL ps
    else if k = 4 then (if o = 0 ∨ o = 5 then false else if symbol o = none then true else badL ps)
    else decide (¬ (k = 7 ∨ k = 1 ∨ k = 2 ∨ k = 5))
def badL : List GP → Bool
  | [] => false
  | p :: r => badP p || badL r
end
mutual
/-- The number of parts, and the bytes of their texts. -/
def cntP : GP → Nat
  | .mk _ _ _ _ ps => 1 + cntL ps
def cntL : List GP → Nat
  | [] => 0
  | p :: r => cntP p + cntL r
end
mutual
def sizP : GP → Nat
  | .mk _ t _ _ ps => t.length + sizL ps
def sizL : List GP → Nat
  | [] => 0
  | p :: r => sizP p + sizL r
end
mutual
def sameP : GP → GP → Bool
  | .mk k t o c ps, .mk k' t' o' c' qs => decide (k = k' ∧ t = t' ∧ o = o' ∧ c = c') && sameL ps qs
def sameL : List GP → List GP → Bool
  | [], [] => true
  | p :: r, q :: s => sameP p q && sameL r s
  | _, _ => false
end
def glitIn : List GP → Option Str
  | [] => some []
  | p :: r => if p.kind = 1 then (glitIn r).map (p.text ++ ·) else none
def glit1 : GP → Option Str
  | .mk k t _ _ ps => if k = 1 ∨ k = 2 then some t else if k = 3 then glitIn ps else none
def glit : List GP → Option Str
  | [] => some []
  | p :: r => (glit1 p).bind fun a => (glit r).map (a ++ ·)
def isQ (k : Int) : Bool := decide (k = 2 ∨ k = 3)
def gquoted (l : List GP) : Bool := l.any fun p => isQ p.kind
mutual
/-- The texts of the parts of a kind, in order. -/
def txtP (K : Int) : GP → List Str
  | .mk k t _ _ ps => (if k = K then [t] else []) ++ txtL K ps
def txtL (K : Int) : List GP → List Str
  | [] => []
  | p :: r => txtP K p ++ txtL K r
end
/-- What valid says: the source, and whether Parse returns the parts for it. -/
def validG (l : List GP) : Str × Bool :=
  if badL l = true then ([], false)
  else (outL 0 false l, match parse (outL 0 false l) 0 with | .error _ => false | .ok ps => sameL l (gpL ps))
def showG (l : List GP) : Str × Int := if (validG l).2 = true then ((validG l).1, 0) else ([], 1)
theorem litIn_gp : ∀ l : List Part, glitIn (gpL l) = litIn l
  | [] => rfl
  | .mk k t o c ps :: r => by
    rw [gpL, gp, glitIn, litIn, litIn_gp r]
    show (if (k : Int) = 1 then _ else _) = _
    by_cases h : k = 1
    · rw [if_pos h, if_pos (by omega)]; rfl
    · rw [if_neg h, if_neg (by omega)]
theorem lit1_gp (p : Part) : glit1 (gp p) = lit1 p := by
  obtain ⟨k, t, o, c, ps⟩ := p
  rw [gp, glit1, lit1, litIn_gp]
  by_cases h : k = 1 ∨ k = 2
  · rw [if_pos h, if_pos (by omega)]
  · rw [if_neg h, if_neg (by omega)]
    by_cases h3 : k = 3
    · rw [if_pos h3, if_pos (by omega)]
    · rw [if_neg h3, if_neg (by omega)]
theorem lit_gp : ∀ l : List Part, glit (gpL l) = litA l
  | [] => rfl
  | p :: r => by rw [gpL, glit, litA, lit1_gp, lit_gp r]
theorem quoted_gp : ∀ l : List Part, gquoted (gpL l) = quotedB l
  | [] => rfl
  | p :: r => by
    have := quoted_gp r
    unfold gquoted quotedB at this ⊢
    rw [gpL, List.any_cons, List.any_cons, this]
    congr 1
    obtain ⟨k, t, o, c, ps⟩ := p
    rw [gp]
    show isQ (k : Int) = decide (k = 2 ∨ k = 3)
    unfold isQ
    exact decide_eq_decide.2 (by omega)
mutual
theorem sameP_refl : ∀ p : GP, sameP p p = true
  | .mk k t o c ps => by rw [sameP, sameL_refl ps]; simp
theorem sameL_refl : ∀ l : List GP, sameL l l = true
  | [] => by rw [sameL]
  | p :: r => by rw [sameL, sameP_refl p, sameL_refl r]; rfl
end
mutual
theorem sameP_eq : ∀ p q : GP, sameP p q = true → p = q
  | .mk k t o c ps, .mk k' t' o' c' qs, h => by
    rw [sameP, Bool.and_eq_true] at h
    obtain ⟨h1, h2, h3, h4⟩ := of_decide_eq_true h.1
    rw [h1, h2, h3, h4, sameL_eq ps qs h.2]
theorem sameL_eq : ∀ l m : List GP, sameL l m = true → l = m
  | [], [], _ => rfl
  | [], _ :: _, h => by rw [sameL] at h <;> first | cases h | simp
  | _ :: _, [], h => by rw [sameL] at h <;> first | cases h | simp
  | p :: r, q :: s, h => by
    rw [sameL, Bool.and_eq_true] at h
    rw [sameP_eq p q h.1, sameL_eq r s h.2]
end
theorem sameL_iff (l m : List GP) : sameL l m = true ↔ l = m := ⟨sameL_eq l m, fun h => h ▸ sameL_refl l⟩
theorem sameL_len : ∀ {l m : List GP}, l.length ≠ m.length → sameL l m = false := by
  intro l m h
  cases hs : sameL l m with
  | false => rfl
  | true => exact absurd (congrArg List.length (sameL_eq l m hs)) h
mutual
theorem outP_len (pl : Nat) (op : Bool) (nx : Int) : ∀ p : GP, (outP pl op nx p).length ≤ 2 * sizP p + 8 * cntP p
  | .mk k t o c ps => by
    have h1 := outL_len 1 false ps
    have h2 := outL_len 2 false ps
    have h3 := outL_len pl true ps
    have h4 := escT_len pl op t
    rw [outP, sizP, cntP]
    split
    · simp; omega
    split
    · omega
    split
    · split <;> simp <;> omega
    split
    · simp; omega
    split
    · simp; omega
    split
    · simp; omega
    split
    · split
      · split <;> simp <;> omega
      · split
        · simp; omega
        · cases hy : symbol o with
          | none => simp
          | some y =>
            have hyl : y.length ≤ 2 := by
              unfold symbol at hy
              repeat' split at hy
              all_goals first | (injection hy with hy; subst hy; simp) | cases hy
            dsimp only
            have : ((if c = true then 58 :: y else y) : Str).length ≤ 3 := by
              split
              · rw [List.length_cons]; omega
              · omega
            simp only [List.length_cons, List.length_append]
            simp only [List.length_nil]
            omega
    · simp
theorem outL_len (pl : Nat) (op : Bool) : ∀ l : List GP, (outL pl op l).length ≤ 2 * sizL l + 8 * cntL l
  | [] => by rw [outL]; simp
  | p :: r => by
    have h1 := outP_len pl op (nextB r) p
    have h2 := outL_len pl op r
    rw [outL, sizL, cntL, List.length_append]
    omega
end
end WP
end Go.Proofs.YtelhobphphkidaaGreatDoor
namespace Go.Proofs.YtelhobphphkidaaGreatDoor
open K
namespace WP
/-- The errors of a reader of a construct's parts have a number. -/
def CodeN (s : Str) (lo : Nat) (N : Nest) : Prop := ∀ (c : Ctx) (k : Nat) (x : Flt), c.s = s → lo ≤ k → k ≤ s.length → N c k = .error x → ¬ x.2 = 0
theorem err_code {α : Type} {a : Int} {n : Int} {x : Flt} (h : (Except.error (a, n) : Except Flt α) = .error x) (hn : ¬ n = 0) : ¬ x.2 = 0 := by
  injection h with h
  rw [← h]
  exact hn
theorem cls_code {s : Str} {a : Nat} {x : Flt} (h : cls s a = .error x) : ¬ x.2 = 0 := by
  unfold cls at h
  split at h
  · cases h
  · rename_i hn
    exact err_code h hn
theorem ended_code {c : Ctx} {st : St} {x : Flt} (h : ended c st = .error x) : ¬ x.2 = 0 := by
  unfold ended at h
  split at h
  · split at h
    · exact err_code h (by decide)
    · cases h
  split at h
  · cases h
  split at h
  · cases h
  split at h
  · split at h
    · exact err_code h (by decide)
    · split at h
      · cases h
      · exact err_code h (by decide)
  · cases h
theorem reject_code (c : Ctx) (st : St) (i : Nat) : ¬ (reject c st i).2 = 0 := by
  unfold reject
  split
  · exact (by decide : ¬ (7 : Int) = 0)
  · exact (by decide : ¬ (6 : Int) = 0)
theorem operator_le' (t : Str) (colon : Bool) : (operator t colon).2 ≤ t.length := by
  unfold operator
  have h22 : ∀ {a b : UInt8}, Lib.hasPrefix t [a, b] = true → 2 ≤ t.length := by
    intro a b hx
    obtain ⟨r, hr⟩ := LX.has2 hx
    rw [hr]
    simp
  by_cases h0 : t = []
  · rw [if_pos h0]; exact Nat.zero_le _
  · have := List.length_pos_iff.2 h0
    rw [if_neg h0]
    repeat' split
    all_goals first | omega | (dsimp only; omega) | exact h22 (by assumption)
theorem braced3_code {N : Nest} {c : Ctx} {st : St} {e k o z : Nat} {colon : Bool} {x : Flt} (hN : CodeN c.s (st.a + 1) N) (hk : st.a < k) (hz : k + z ≤ c.s.length) (h : braced3 N c st e k o z colon = .error x) : ¬ x.2 = 0 := by
  unfold braced3 at h
  split at h
  · injection h with h; rw [← h]; exact reject_code _ _ _
  split at h
  · exact err_code h (by decide)
  split at h
  · exact err_code h (by decide)
  split at h
  · rename_i y hy
    injection h with h
    rw [← h]
    exact hN ⟨c.s, c.pl, true, c.lv + 1, st.a⟩ (k + z) _ rfl (by omega) hz hy
  · cases h
theorem braced_code {N : Nest} {c : Ctx} {st : St} {x : Flt} (hN : CodeN c.s (st.a + 1) N) (ha : st.a + 2 ≤ c.s.length) (h : braced N c st = .error x) : ¬ x.2 = 0 := by
  unfold braced at h
  split at h
  · rename_i y hy
    injection h with h
    rw [← h]
    unfold braced1 at hy
    split at hy
    · split at hy
      · exact err_code hy (by decide)
      split at hy
      · exact err_code hy (by decide)
      split at hy
      · cases hy
      split at hy
      · exact err_code hy (by decide)
      · cases hy
    · cases hy
  · cases h
  · have hp := parameter_le' ha
    unfold braced2 at h
    split at h
    · injection h with h; rw [← h]; exact reject_code _ _ _
    split at h
    · exact err_code h (by decide)
    split at h
    · cases h
    split at h
    · rename_i h58
      obtain ⟨r, hr⟩ := LX.has1 h58
      have h7 := (LX.drop_head hr).1
      have h8 := operator_le' (c.s.drop (parameter c.s (st.a + 2) + 1)) true
      rw [List.length_drop] at h8
      exact braced3_code hN (by omega) (by omega) h
    · have h8 := operator_le' (c.s.drop (parameter c.s (st.a + 2))) false
      rw [List.length_drop] at h8
      exact braced3_code hN (by omega) (by omega) h
theorem dollar_code {N : Nest} {c : Ctx} {st : St} {x : Flt} (hN : CodeN c.s (st.a + 1) N) (h : dollar N c st = .error x) : ¬ x.2 = 0 := by
  unfold dollar at h
  split at h
  · rename_i h40
    split at h
    · exact err_code h (by decide)
    split at h
    · rename_i y hy
      injection h with h
      rw [← h]
      obtain ⟨r, hr⟩ := LX.has2 h40
      have d1 := LX.drop_head hr
      have d2 := LX.drop_head d1.2.2
      exact hN ⟨c.s, 2, false, c.lv + 1, st.a⟩ (st.a + 3) _ rfl (by omega) (by omega) hy
    · cases h
  split at h
  · split at h
    · rename_i y hy
      injection h with h
      rw [← h]
      exact cls_code hy
    · cases h
  split at h
  · rename_i h123
    split at h
    · rename_i y hy
      injection h with h
      rw [← h]
      obtain ⟨r, hr⟩ := LX.has1 h123
      have d1 := LX.drop_head hr
      exact braced_code hN (by omega) hy
    · cases h
  split at h
  · cases h
  split at h
  · split at h
    · exact err_code h (by decide)
    · cases h
  split at h
  · exact err_code h (by decide)
  · cases h
theorem next_code {N : Nest} {c : Ctx} {st : St} {x : Flt} (hN : CodeN c.s (st.a + 1) N) (ha : st.a < c.s.length) (h : next N c st = .error x) : ¬ x.2 = 0 := by
  unfold next at h
  split at h
  · unfold backslash at h
    split at h
    · split at h
      · cases h
      · exact err_code h (by decide)
    split at h
    · cases h
    split at h
    · cases h
    split at h
    · cases h
    split at h
    · exact err_code h (by decide)
    · cases h
  split at h
  · exact dollar_code hN h
  split at h
  · unfold backquoted at h
    split at h
    · rename_i y hy
      injection h with h
      rw [← h]
      exact cls_code hy
    · split at h
      · cases h
      split at h
      · cases h
      · exact err_code h (by decide)
  split at h
  · unfold unquoted at h
    split at h
    · split at h
      · rename_i y hy
        injection h with h
        rw [← h]
        exact cls_code hy
      · cases h
    split at h
    · split at h
      · exact err_code h (by decide)
      split at h
      · rename_i y hy
        injection h with h
        rw [← h]
        exact hN ⟨c.s, 1, false, c.lv + 1, st.a⟩ (st.a + 1) _ rfl (by omega) (by omega) hy
      · cases h
    split at h
    · split at h
      · cases h
      · exact err_code h (by decide)
    split at h
    · cases h
    · cases h
  split at h
  · exact err_code h (by decide)
  · cases h
theorem run_code : ∀ (f : Nat) (c : Ctx) (st : St) (x : Flt), Inv c st → c.s.length - st.a < f → run f c st = .error x → ¬ x.2 = 0 := by
  intro f
  induction f using Nat.strongRecOn with
  | ind f ih =>
    intro c st x hi hf h
    obtain ⟨f, rfl⟩ : ∃ k, f = k + 1 := ⟨f - 1, by omega⟩
    rw [run_succ] at h
    cases he : ended c st with
    | error y =>
      rw [he] at h
      injection h with h
      rw [← h]
      exact ended_code he
    | ok b =>
      rw [he] at h
      cases b with
      | true => cases h
      | false =>
        dsimp only at h
        have hlt : st.a < c.s.length := by
          rcases Nat.lt_or_ge st.a c.s.length with h' | h'
          · exact h'
          · have := hi.le
            unfold ended at he
            rw [if_pos (by omega)] at he
            split at he <;> cases he
        have hN : CodeN c.s (st.a + 1) (nest f) := by
          intro c' k y hc hlo hk hy
          unfold nest at hy
          cases hr : run f c' ⟨k, 0, [], []⟩ with
          | error z =>
            rw [hr] at hy
            injection hy with hy
            rw [← hy]
            exact ih f (Nat.lt_succ_self _) c' ⟨k, 0, [], []⟩ z ⟨by rw [hc]; exact hk, by simp, by simp⟩ (by rw [hc]; show _ - k < _; omega) hr
          | ok z => rw [hr] at hy; cases hy
        cases hn : next (nest f) c st with
        | error y =>
          rw [hn] at h
          injection h with h
          rw [← h]
          exact next_code hN hlt hn
        | ok y =>
          rw [hn] at h
          have hg := next_good (nest_good f c.s) hi hlt hn
          exact ih f (Nat.lt_succ_self _) c y x hg.2 (by omega) h
theorem parse_code {s : Str} {pl : Nat} {x : Flt} (h : parse s pl = .error x) : ¬ x.2 = 0 := by
  unfold parse at h
  split at h
  · exact err_code h (by decide)
  · cases hr : run (s.length + 1) ⟨s, pl, false, 1, -1⟩ ⟨0, 0, [], []⟩ with
    | error y =>
      rw [hr] at h
      injection h with h
      rw [← h]
      exact run_code _ _ _ _ ⟨Nat.zero_le _, by simp, Nat.le_refl _⟩ (by show s.length - 0 < _; omega) hr
    | ok y => rw [hr] at h; cases h
end WP
end Go.Proofs.YtelhobphphkidaaGreatDoor
namespace Go.Proofs.YtelhobphphkidaaGreatDoor
open K
namespace WP
theorem cutLen (l : Str) (a b : Nat) : (cut l a b).length ≤ b - a := by unfold cut; simp; omega
theorem unqLen : ∀ (n : Nat) (t : Str), t.length ≤ n → (unq t).length ≤ t.length := by
  intro n
  induction n with
  | zero =>
    intro t h
    rw [List.length_eq_zero_iff.1 (by omega : t.length = 0)]
    exact Nat.le_refl _
  | succ n ih =>
    intro t h
    match t, h with
    | [], _ => exact Nat.le_refl _
    | [x], _ => exact Nat.le_refl _
    | x :: y :: r, h =>
      rw [unq]
      simp only [List.length_cons] at h
      split
      · have := ih r (by omega)
        simp only [List.length_cons]
        omega
      · have := ih (y :: r) (by simp only [List.length_cons]; omega)
        simp only [List.length_cons] at this ⊢
        omega
theorem cntL_append : ∀ a b : List GP, cntL (a ++ b) = cntL a + cntL b
  | [], b => by rw [List.nil_append, cntL, Nat.zero_add]
  | p :: r, b => by rw [List.cons_append, cntL, cntL, cntL_append r b, Nat.add_assoc]
theorem sizL_append : ∀ a b : List GP, sizL (a ++ b) = sizL a + sizL b
  | [], b => by rw [List.nil_append, sizL, Nat.zero_add]
  | p :: r, b => by rw [List.cons_append, sizL, sizL, sizL_append r b, Nat.add_assoc]
/-- The parts and the bytes of a state, its text with them. -/
def wc (st : St) : Nat := cntL (gpL st.ls) + st.tx.length
def ws (st : St) : Nat := sizL (gpL st.ls) + st.tx.length
theorem cnt_one (p : Part) : cntL (gpL [p]) = cntP (gp p) := by rw [gpL, gpL, cntL, cntL, Nat.add_zero]
theorem siz_one (p : Part) : sizL (gpL [p]) = sizP (gp p) := by rw [gpL, gpL, sizL, sizL, Nat.add_zero]
theorem flush_w (st : St) : wc (flush st) ≤ wc st ∧ ws (flush st) ≤ ws st ∧ (flush st).tx = [] := by
  unfold flush
  split
  · rename_i h; exact ⟨Nat.le_refl _, Nat.le_refl _, h⟩
  · rename_i h
    have := List.length_pos_iff.2 h
    refine ⟨?_, ?_, rfl⟩
    · unfold wc
      dsimp only
      rw [gpL_append, cntL_append, cnt_one, gp, cntP, gpL, cntL]
      simp
      omega
    · unfold ws
      dsimp only
      rw [gpL_append, sizL_append, siz_one, gp, sizP, gpL, sizL]
      simp
theorem add_w (p : Part) (k : Nat) (st : St) : wc (add p k st) ≤ wc st + cntP (gp p) ∧ ws (add p k st) ≤ ws st + sizP (gp p) := by
  obtain ⟨h1, h2, h3⟩ := flush_w st
  refine ⟨?_, ?_⟩
  · have : wc (add p k st) = wc (flush st) + cntP (gp p) := by
      unfold wc add
      dsimp only
      rw [gpL_append, cntL_append, cnt_one]
      omega
    omega
  · have : ws (add p k st) = ws (flush st) + sizP (gp p) := by
      unfold ws add
      dsimp only
      rw [gpL_append, sizL_append, siz_one]
      omega
    omega
theorem lit_w (c : UInt8) (m : Nat) (st : St) : wc (lit c m st) = wc st + 1 ∧ ws (lit c m st) = ws st + 1 := by
  unfold wc ws lit
  simp
  omega
/-- What a reader gives is no more than it read. -/
def WtN (s : Str) (lo : Nat) (N : Nest) : Prop := ∀ (c : Ctx) (k : Nat) (ps : List Part) (e : Nat), c.s = s → 0 ≤ c.opn → lo ≤ k → k ≤ s.length → N c k = .ok (ps, e) → cntL (gpL ps) + k ≤ e ∧ sizL (gpL ps) + k ≤ e
def Wt (st st' : St) : Prop := wc st' + st.a ≤ wc st + st'.a ∧ ws st' + st.a ≤ ws st + st'.a
theorem wt_add {st : St} {p : Part} {k : Nat} (h1 : cntP (gp p) + st.a ≤ k) (h2 : sizP (gp p) + st.a ≤ k) : Wt st (add p k st) := by
  obtain ⟨h3, h4⟩ := add_w p k st
  refine ⟨?_, ?_⟩
  · show _ ≤ wc st + k; omega
  · show _ ≤ ws st + k; omega
theorem wt_lit (c : UInt8) {m : Nat} (st : St) (h : 1 ≤ m) : Wt st (lit c m st) := by
  obtain ⟨h3, h4⟩ := lit_w c m st
  refine ⟨?_, ?_⟩
  · show _ ≤ wc st + (st.a + m); omega
  · show _ ≤ ws st + (st.a + m); omega
theorem leaf (k : Nat) (t : Str) (o : Nat) (b : Bool) : cntP (gp (.mk k t o b [])) = 1 ∧ sizP (gp (.mk k t o b [])) = t.length := by
  rw [gp, cntP, sizP, gpL, cntL, sizL]
  omega
theorem node (k : Nat) (t : Str) (o : Nat) (b : Bool) (ps : List Part) : cntP (gp (.mk k t o b ps)) = 1 + cntL (gpL ps) ∧ sizP (gp (.mk k t o b ps)) = t.length + sizL (gpL ps) := by
  rw [gp, cntP, sizP]
  omega
theorem wt_leaf {st : St} {k : Nat} {t : Str} {o : Nat} {b : Bool} {e : Nat} (h : t.length + st.a ≤ e) (h1 : st.a < e) : Wt st (add (.mk k t o b []) e st) := by
  obtain ⟨h2, h3⟩ := leaf k t o b
  exact wt_add (by omega) (by omega)
theorem braced3_wt {N : Nest} {c : Ctx} {st : St} (hN : WtN c.s (st.a + 1) N) {e k o z : Nat} {colon : Bool} {p : Part} {j : Nat} (hk : st.a + 2 ≤ e) (hk2 : e ≤ k) (hz : k + z ≤ c.s.length) (h : braced3 N c st e k o z colon = .ok (p, j)) : cntP (gp p) + st.a ≤ j ∧ sizP (gp p) + st.a ≤ j := by
  unfold braced3 at h
  split at h
  · cases h
  split at h
  · cases h
  split at h
  · cases h
  split at h
  · cases h
  · rename_i ps x hn
    injection h with h
    injection h with h1 h2
    obtain ⟨h5, h6⟩ := hN ⟨c.s, c.pl, true, c.lv + 1, st.a⟩ (k + z) ps x rfl (show (0 : Int) ≤ (st.a : Int) by omega) (by omega) hz hn
    obtain ⟨h7, h8⟩ := node 4 (cut c.s (st.a + 2) e) o colon ps
    have := cutLen c.s (st.a + 2) e
    rw [← h1, ← h2]
    omega
theorem braced_wt {N : Nest} {c : Ctx} {st : St} (hN : WtN c.s (st.a + 1) N) (ha : st.a + 2 ≤ c.s.length) {p : Part} {j : Nat} (h : braced N c st = .ok (p, j)) : cntP (gp p) + st.a ≤ j ∧ sizP (gp p) + st.a ≤ j := by
  have hp := parameter_le' ha
  have hop : ∀ (t : Str) (colon : Bool), (operator t colon).2 ≤ t.length := by
    intro t colon
    unfold operator
    have h22 : ∀ {a b : UInt8}, Lib.hasPrefix t [a, b] = true → 2 ≤ t.length := by
      intro a b hx
      obtain ⟨r, hr⟩ := LX.has2 hx
      rw [hr]
      simp
    by_cases h0 : t = []
    · rw [if_pos h0]; exact Nat.zero_le _
    · have := List.length_pos_iff.2 h0
      rw [if_neg h0]
      repeat' split
      all_goals first | omega | (dsimp only; omega) | exact h22 (by assumption)
  unfold braced at h
  split at h
  · cases h
  · rename_i r hr
    injection h with h
    unfold braced1 at hr
    split at hr
    · rename_i hc
      split at hr
      · cases hr
      split at hr
      · cases hr
      split at hr
      · injection hr with hr
        injection hr with hr
        rw [h] at hr
        injection hr with h1 h2
        obtain ⟨h7, h8⟩ := leaf 4 (cut c.s (st.a + 3) (parameter c.s (st.a + 3))) 5 false
        have := cutLen c.s (st.a + 3) (parameter c.s (st.a + 3))
        rw [← h1, ← h2]
        omega
      split at hr
      · cases hr
      · injection hr with hr; cases hr
    · injection hr with hr; cases hr
  · unfold braced2 at h
    split at h
    · cases h
    split at h
    · cases h
    split at h
    · injection h with h
      injection h with h1 h2
      obtain ⟨h7, h8⟩ := leaf 4 (cut c.s (st.a + 2) (parameter c.s (st.a + 2))) 0 false
      have := cutLen c.s (st.a + 2) (parameter c.s (st.a + 2))
      rw [← h1, ← h2]
      omega
    split at h
    · rename_i h58
      obtain ⟨r, hr⟩ := LX.has1 h58
      have h7 := (LX.drop_head hr).1
      have h8 := hop (c.s.drop (parameter c.s (st.a + 2) + 1)) true
      rw [List.length_drop] at h8
      exact braced3_wt hN (by omega) (by omega) (by omega) h
    · have h8 := hop (c.s.drop (parameter c.s (st.a + 2))) false
      rw [List.length_drop] at h8
      exact braced3_wt hN (by omega) (by omega) (by omega) h
theorem dollar_wt {N : Nest} {c : Ctx} {st st' : St} (hN : WtN c.s (st.a + 1) N) (hb : bt c.s st.a = 36) (h : dollar N c st = .ok st') : Wt st st' := by
  unfold dollar at h
  split at h
  · rename_i h40
    split at h
    · cases h
    split at h
    · cases h
    · rename_i ps e hn
      injection h with h
      subst h
      obtain ⟨r, hr⟩ := LX.has2 h40
      have d1 := LX.drop_head hr
      have d2 := LX.drop_head d1.2.2
      obtain ⟨h5, h6⟩ := hN ⟨c.s, 2, false, c.lv + 1, st.a⟩ (st.a + 3) _ _ rfl (show (0 : Int) ≤ (st.a : Int) by omega) (by omega) (by omega) hn
      obtain ⟨h7, h8⟩ := node 6 [] 0 false ps
      exact wt_add (by omega) (by rw [h8, List.length_nil]; omega)
  split at h
  · rename_i hn40 h40
    split at h
    · cases h
    · rename_i e he
      injection h with h
      subst h
      obtain ⟨he1, he2⟩ := cls_le he
      obtain ⟨r, hr⟩ := LX.has1 h40
      have d1 := LX.drop_head hr
      have := LX.close_cmd hb d1.2.1 (LX.has_not3 (by simpa using hn40)) he1
      have := cutLen c.s (st.a + 2) (e - 1)
      exact wt_leaf (by omega) (by omega)
  split at h
  · rename_i h123
    split at h
    · cases h
    · rename_i p e hbr
      injection h with h
      subst h
      obtain ⟨r, hr⟩ := LX.has1 h123
      have d1 := LX.drop_head hr
      obtain ⟨h5, h6⟩ := braced_wt hN (by omega) hbr
      exact wt_add h5 h6
  split at h
  · injection h with h
    subst h
    have := cutLen c.s (st.a + 1) (st.a + 2)
    exact wt_leaf (by omega) (by omega)
  split at h
  · rename_i hp
    split at h
    · cases h
    · injection h with h
      subst h
      have := cutLen c.s (st.a + 1) (parameter c.s (st.a + 1))
      exact wt_leaf (by omega) (by omega)
  split at h
  · cases h
  · injection h with h
    subst h
    exact wt_lit _ _ (Nat.le_refl _)
theorem next_wt {N : Nest} {c : Ctx} {st st' : St} (hN : WtN c.s (st.a + 1) N) (ha : st.a < c.s.length) (h : next N c st = .ok st') : Wt st st' := by
  unfold next at h
  split at h
  · unfold backslash at h
    split at h
    · split at h
      · injection h with h; subst h; exact wt_lit _ _ (Nat.le_refl _)
      · cases h
    split at h
    · injection h with h
      subst h
      refine ⟨?_, ?_⟩
      · show wc st + st.a ≤ wc st + (st.a + 2); omega
      · show ws st + st.a ≤ ws st + (st.a + 2); omega
    split at h
    · injection h with h
      subst h
      have := cutLen c.s (st.a + 1) (st.a + 2)
      exact wt_leaf (by omega) (by omega)
    split at h
    · injection h with h; subst h; exact wt_lit _ _ (by decide)
    split at h
    · cases h
    · injection h with h
      subst h
      obtain ⟨h1, h2⟩ := wt_lit 92 (m := 1) st (Nat.le_refl _)
      obtain ⟨h3, h4⟩ := wt_lit (by8 (bt c.s (st.a + 1))) (m := 1) (lit 92 1 st) (Nat.le_refl _)
      exact ⟨by omega, by omega⟩
  split at h
  · rename_i hb; exact dollar_wt hN hb h
  split at h
  · rename_i hb
    unfold backquoted at h
    split at h
    · cases h
    · rename_i e he
      obtain ⟨he1, he2⟩ := cls_le he
      have := LX.close_back hb he1
      have h5 := cutLen c.s (st.a + 1) (e - 1)
      have h6 := unqLen _ (cut c.s (st.a + 1) (e - 1)) (Nat.le_refl _)
      have h7 : (bqText (unq (cut c.s (st.a + 1) (e - 1)))).length ≤ (unq (cut c.s (st.a + 1) (e - 1))).length + 1 := by unfold bqText; split <;> simp
      split at h
      · injection h with h; subst h; exact wt_leaf (by omega) (by omega)
      split at h
      · injection h with h; subst h; exact wt_leaf (by rw [List.length_append, List.length_singleton]; omega) (by omega)
      · cases h
  split at h
  · unfold unquoted at h
    split at h
    · rename_i hb
      split at h
      · cases h
      · rename_i e he
        obtain ⟨he1, he2⟩ := cls_le he
        have := LX.close_single hb he1
        have := cutLen c.s (st.a + 1) (e - 1)
        injection h with h; subst h; exact wt_leaf (by omega) (by omega)
    split at h
    · split at h
      · cases h
      split at h
      · cases h
      · rename_i ps e hn
        obtain ⟨h5, h6⟩ := hN ⟨c.s, 1, false, c.lv + 1, st.a⟩ (st.a + 1) _ _ rfl (show (0 : Int) ≤ (st.a : Int) by omega) (by omega) (by omega) hn
        obtain ⟨h7, h8⟩ := node 3 [] 0 false ps
        injection h with h; subst h; exact wt_add (by omega) (by rw [h8, List.length_nil]; omega)
    split at h
    · split at h
      · injection h with h; subst h; exact wt_lit _ _ (Nat.le_refl _)
      · cases h
    split at h
    · injection h with h; subst h; exact wt_leaf (by rw [List.length_nil]; omega) (by omega)
    · injection h with h; subst h; exact wt_lit _ _ (Nat.le_refl _)
  split at h
  · cases h
  · injection h with h
    subst h
    exact wt_lit (by8 (bt c.s st.a)) (m := 1) { st with dep := depth c st } (Nat.le_refl _)
theorem run_wt : ∀ (f : Nat) (c : Ctx) (st st' : St), Inv c st → run f c st = .ok st' → Wt st st' ∧ st'.a ≤ c.s.length := by
  intro f
  induction f using Nat.strongRecOn with
  | ind f ih =>
    intro c st st' hi h
    cases f with
    | zero => rw [run] at h; cases h
    | succ f =>
      rw [run_succ] at h
      cases he : ended c st with
      | error y => rw [he] at h; cases h
      | ok b =>
        rw [he] at h
        cases b with
        | true =>
          injection h with h
          subst h
          obtain ⟨h1, h2, -⟩ := flush_w st
          have := flush_a' st
          have := hi.le
          exact ⟨⟨by omega, by omega⟩, by omega⟩
        | false =>
          dsimp only at h
          have hlt : st.a < c.s.length := by
            rcases Nat.lt_or_ge st.a c.s.length with h' | h'
            · exact h'
            · have := hi.le
              unfold ended at he
              rw [if_pos (by omega)] at he
              split at he <;> cases he
          have hN : WtN c.s (st.a + 1) (nest f) := by
            intro c' k ps e hc _ _ hk hn
            unfold nest at hn
            cases hr : run f c' ⟨k, 0, [], []⟩ with
            | error z => rw [hr] at hn; cases hn
            | ok z =>
              rw [hr] at hn
              injection hn with hn
              injection hn with h1 h2
              obtain ⟨⟨h3, h4⟩, -⟩ := ih f (Nat.lt_succ_self _) c' ⟨k, 0, [], []⟩ z ⟨by rw [hc]; exact hk, by simp, by simp⟩ hr
              rw [← h1, ← h2]
              have e1 : wc ⟨k, 0, [], []⟩ = 0 := rfl
              have e2 : ws ⟨k, 0, [], []⟩ = 0 := rfl
              rw [e1] at h3
              rw [e2] at h4
              unfold wc at h3
              unfold ws at h4
              dsimp only at h3 h4
              exact ⟨by omega, by omega⟩
          cases hn : next (nest f) c st with
          | error y => rw [hn] at h; cases h
          | ok y =>
            rw [hn] at h
            have hg := next_good (nest_good f c.s) hi hlt hn
            obtain ⟨h1, h2⟩ := next_wt hN hlt hn
            obtain ⟨⟨h3, h4⟩, h5⟩ := ih f (Nat.lt_succ_self _) c y st' hg.2 h
            exact ⟨⟨by omega, by omega⟩, h5⟩
/-- What Parse gives is no more, and no longer, than its source. -/
theorem parse_wt {s : Str} {pl : Nat} {ps : List Part} (h : parse s pl = .ok ps) : cntL (gpL ps) ≤ s.length ∧ sizL (gpL ps) ≤ s.length := by
  unfold parse at h
  split at h
  · cases h
  · cases hr : run (s.length + 1) ⟨s, pl, false, 1, -1⟩ ⟨0, 0, [], []⟩ with
    | error y => rw [hr] at h; cases h
    | ok y =>
      rw [hr] at h
      injection h with h
      subst h
      obtain ⟨⟨h1, h2⟩, hle⟩ := run_wt _ _ _ _ ⟨Nat.zero_le _, by simp, Nat.le_refl _⟩ hr
      replace hle : y.a ≤ s.length := hle
      have e1 : wc ⟨0, 0, [], []⟩ = 0 := rfl
      have e2 : ws ⟨0, 0, [], []⟩ = 0 := rfl
      rw [e1] at h1
      rw [e2] at h2
      unfold wc at h1
      unfold ws at h2
      dsimp only at h1 h2
      exact ⟨by omega, by omega⟩
end WP
end Go.Proofs.YtelhobphphkidaaGreatDoor
