/- Several texts in one: P07c P08q P08w P08c P08d. -/
import Derived.Test.YtcbdhheelddgeaaGreatDoorP07b
import Derived.Test.YtcbdhheelddgeaaGreatDoorP08b
import Derived.Test.YtcbdhheelddgeaaGreatDoorZA
namespace Go.Proofs.YtcbdhheelddgeaaGreatDoor
open K
namespace LX
theorem cut_one {s : Str} {p : Nat} {x : UInt8} (h : s.drop p = x :: s.drop (p + 1)) : cut s p (p + 1) = [x] := by
 unfold cut
 rw [List.drop_take, h, show p + 1 - p = 1 by omega]
 rfl
theorem opFrom_one {s : Str} {a : Nat} (h : isOp (cut s a (a + 1)) = true) : ∀ n, 1 ≤ n → 0 < opFrom s a n
 | 0, h0 => absurd h0 (by omega)
 | 1, _ => by rw [opFrom, if_pos (by exact h)]; omega
 | n + 2, _ => by
  rw [opFrom]
  split
  ·omega
  ·exact opFrom_one h (n + 1) (by omega)
theorem op_small : ∀ n : Nat, n < 256 → divides (n : Int) = true → blank (n : Int) = false → isOp [n.toUInt8] = true := by decide +kernel
theorem opLen_pos {s : Str} {p : Nat} (hp : p < s.length) (h1 : divides (bt s p) = true) (h2 : blank (bt s p) = false) : 0 < opLen s p := by
 obtain ⟨x, hx, hb, -⟩ := drop_cons s p hp
 rw [hb] at h1 h2
 have h3 := op_small x.toNat (UInt8.toNat_lt x) h1 h2
 rw [show x.toNat.toUInt8 = x from UInt8.ofNat_toNat] at h3
 refine opFrom_one ?_ _ (by omega)
 rw [cut_one hx]
 exact h3
/-- A word that begins at a byte that divides none ends behind it. -/
theorem word_lt {s : Str} {p : Nat} (hp : p < s.length) (hd : divides (bt s p) = false) (h : (wordEnd s p).2 = 0) : p < (wordEnd s p).1 := by
 unfold wordEnd at h ⊢
 rw [word, if_pos ⟨hp, hd⟩] at h ⊢
 by_cases hb : begins s p = true
 ·rw [if_pos hb] at h ⊢
  have hg := construct_good (q := false) (d := false) hp hb
  unfold thn at h ⊢
  by_cases he : (construct s p false false).2 = 0
  ·rw [if_pos he] at h ⊢
   have h1 := (word_good s.length s _ hg.1).2.1 h
   have h2 := hg.2.1 he
   show p < (word s.length s (construct s p false false).1).1
   omega
  ·rw [if_neg he] at h
   exact absurd h he
 ·rw [if_neg hb] at h ⊢
  have h1 := (word_good s.length s (p + 1) (by omega)).2.1 h
  omega
/-- A token that is not the end takes more than nothing. -/
theorem next_far {s : Str} {a : Nat} {t : Tok} (ha : a ≤ s.length) (h : next s a = (t, 0)) : t.kind = 5 ∨ (a < t.stop ∧ t.stop ≤ s.length) := by
 unfold next at h
 split at h
 ·simp at h
 have hle := skipTo_le ha
 have hge := skipTo_ge s a
 have hat := skipTo_at ha
 generalize skipTo s a = p at h hle hge hat
 unfold nextAt at h
 split at h
 ·left
  have := congrArg Prod.fst h
  dsimp only at this
  rw [← this]
 rename_i hne
 have hlt : p < s.length := by omega
 obtain ⟨hbl, -, -⟩ := hat hlt
 right
 split at h
 ·have := congrArg Prod.fst h
  dsimp only at this
  rw [← this]
  show a < p + 1 ∧ p + 1 ≤ s.length
  omega
 split at h
 ·rename_i ho
  have := congrArg Prod.fst h
  dsimp only at this
  rw [← this]
  show a < p + opLen s p ∧ p + opLen s p ≤ s.length
  have := opFrom_le s p (min 3 (s.length - p))
  unfold opLen at ho ⊢
  omega
 ·rename_i ho
  unfold nextW at h
  split at h
  ·rename_i he
   have := congrArg Prod.fst h
   dsimp only at this
   rw [← this]
   show a < (wordEnd s p).1 ∧ (wordEnd s p).1 ≤ s.length
   have h1 := word_lt hlt (by
    cases hd : divides (bt s p) with
    | false => rfl
    | true => exact absurd (opLen_pos hlt hd hbl) ho) he
   have h2 := (word_good (s.length + 1) s p hle).1
   exact ⟨by omega, h2⟩
  ·rename_i he
   exact absurd (congrArg Prod.snd h) he
end LX
end Go.Proofs.YtcbdhheelddgeaaGreatDoor
namespace Go.Proofs.YtcbdhheelddgeaaGreatDoor
open K
namespace WP
def Part.kind : Part → Nat | .mk k _ _ _ _ => k
def Part.text : Part → Str | .mk _ t _ _ _ => t
def litIn : List Part → Option Str
 | [] => some []
 | .mk k t _ _ _ :: r => if k = 1 then (litIn r).map (t ++ ·) else none
def lit1 : Part → Option Str
 | .mk k t _ _ ps => if k = 1 ∨ k = 2 then some t else if k = 3 then litIn ps else none
/-- The string that a word without expansions denotes. -/
def litA : List Part → Option Str
 | [] => some []
 | p :: r => (lit1 p).bind fun a => (litA r).map (a ++ ·)
def Quotes (ps : List Part) (t : Str) : Prop := litA ps = some t ∧ ∀ p ∈ ps, p.kind = 2
theorem Quotes.nil : Quotes [] [] := ⟨rfl, fun p hp => by cases hp⟩
theorem Quotes.cons {u t : Str} {ps : List Part} (h : Quotes ps t) : Quotes (.mk 2 u 0 false [] :: ps) (u ++ t) := by
 refine ⟨?_, fun p hp => ?_⟩
 ·rw [litA, h.1, lit1, if_pos (.inr rfl)]
  rfl
 ·rcases List.mem_cons.1 hp with rfl | hp
  ·rfl
  ·exact h.2 p hp
end WP
end Go.Proofs.YtcbdhheelddgeaaGreatDoor
namespace Go.Proofs.YtcbdhheelddgeaaGreatDoor
open K
namespace WP
/-- A part whatever its kind. -/
inductive GP where
 | mk (kind : Int) (text : Str) (op : Int) (colon : Bool) (parts : List GP)
mutual
def gp : Part → GP
 | .mk k t o c ps => .mk k t o c (gpL ps)
def gpL : List Part → List GP
 | [] => []
 | p :: r => gp p :: gpL r
end
theorem gpL_length : ∀ l : List Part, (gpL l).length = l.length
 | [] => rfl
 | p :: r => by rw [gpL, List.length_cons, List.length_cons, gpL_length r]
theorem gpL_append : ∀ a b : List Part, gpL (a ++ b) = gpL a ++ gpL b
 | [], b => rfl
 | p :: r, b => by rw [List.cons_append, gpL, gpL, gpL_append r b]; rfl
namespace GP
def kind : GP → Int | .mk k _ _ _ _ => k
def text : GP → Str | .mk _ t _ _ _ => t
def op : GP → Int | .mk _ _ o _ _ => o
def colon : GP → Bool | .mk _ _ _ c _ => c
def parts : GP → List GP | .mk _ _ _ _ ps => ps
end GP
/-- Whether a parameter's name wants braces ahead of a byte. -/
def braces (t : Str) (nx : Int) : Bool := (LX.number t && decide (1 < t.length)) || (decide (t ≠ []) && (LX.starts (bt t 0) && (LX.starts nx || LX.digit nx)))
mutual
/-- The number of parts, and the bytes of their texts. -/
def cntP : GP → Nat
 | .mk _ _ _ _ ps => 1 + cntL ps
def cntL : List GP → Nat
 | [] => 0
 | p :: r => cntP p + cntL r
end
mutual
def sizP : GP → Nat
 | .mk _ t _ _ ps => t.length + sizL ps
def sizL : List GP → Nat
 | [] => 0
 | p :: r => sizP p + sizL r
end
def glitIn : List GP → Option Str
 | [] => some []
 | p :: r => if p.kind = 1 then (glitIn r).map (p.text ++ ·) else none
def glit1 : GP → Option Str
 | .mk k t _ _ ps => if k = 1 ∨ k = 2 then some t else if k = 3 then glitIn ps else none
def glit : List GP → Option Str
 | [] => some []
 | p :: r => (glit1 p).bind fun a => (glit r).map (a ++ ·)
end WP
end Go.Proofs.YtcbdhheelddgeaaGreatDoor
namespace Go.Proofs.YtcbdhheelddgeaaGreatDoor
open K
namespace WP
/-- The errors of a reader of a construct's parts have a number. -/
def CodeN (s : Str) (lo : Nat) (N : Nest) : Prop := ∀ (c : Ctx) (k : Nat) (x : Flt), c.s = s → lo ≤ k → k ≤ s.length → N c k = .error x → ¬ x.2 = 0
theorem err_code {α : Type} {a : Int} {n : Int} {x : Flt} (h : (Except.error (a, n) : Except Flt α) = .error x) (hn : ¬ n = 0) : ¬ x.2 = 0 := by
 injection h with h
 rw [← h]
 exact hn
theorem cls_code {s : Str} {a : Nat} {x : Flt} (h : cls s a = .error x) : ¬ x.2 = 0 := by
 unfold cls at h
 split at h
 ·cases h
 ·rename_i hn
  exact err_code h hn
theorem ended_code {c : Ctx} {st : St} {x : Flt} (h : ended c st = .error x) : ¬ x.2 = 0 := by
 unfold ended at h
 split at h
 ·split at h
  ·exact err_code h (by decide)
  ·cases h
 split at h
 ·cases h
 split at h
 ·cases h
 split at h
 ·split at h
  ·exact err_code h (by decide)
  ·split at h
   ·cases h
   ·exact err_code h (by decide)
 ·cases h
theorem reject_code (c : Ctx) (st : St) (i : Nat) : ¬ (reject c st i).2 = 0 := by
 unfold reject
 split
 ·exact (by decide : ¬ (7 : Int) = 0)
 ·exact (by decide : ¬ (6 : Int) = 0)
theorem operator_le' (t : Str) (colon : Bool) : (operator t colon).2 ≤ t.length := by
 unfold operator
 have h22 : ∀ {a b : UInt8}, Lib.hasPrefix t [a, b] = true → 2 ≤ t.length := by
  intro a b hx
  obtain ⟨r, hr⟩ := LX.has2 hx
  rw [hr]
  simp
 by_cases h0 : t = []
 ·rw [if_pos h0]; exact Nat.zero_le _
 ·have := List.length_pos_iff.2 h0
  rw [if_neg h0]
  repeat' split
  all_goals first | omega | (dsimp only; omega) | exact h22 (by assumption)
theorem braced3_code {N : Nest} {c : Ctx} {st : St} {e k o z : Nat} {colon : Bool} {x : Flt} (hN : CodeN c.s (st.a + 1) N) (hk : st.a < k) (hz : k + z ≤ c.s.length) (h : braced3 N c st e k o z colon = .error x) : ¬ x.2 = 0 := by
 unfold braced3 at h
 split at h
 ·injection h with h; rw [← h]; exact reject_code _ _ _
 split at h
 ·exact err_code h (by decide)
 split at h
 ·exact err_code h (by decide)
 split at h
 ·rename_i y hy
  injection h with h
  rw [← h]
  exact hN ⟨c.s, c.pl, true, c.lv + 1, st.a⟩ (k + z) _ rfl (by omega) hz hy
 ·cases h
theorem braced_code {N : Nest} {c : Ctx} {st : St} {x : Flt} (hN : CodeN c.s (st.a + 1) N) (ha : st.a + 2 ≤ c.s.length) (h : braced N c st = .error x) : ¬ x.2 = 0 := by
 unfold braced at h
 split at h
 ·rename_i y hy
  injection h with h
  rw [← h]
  unfold braced1 at hy
  split at hy
  ·split at hy
   ·exact err_code hy (by decide)
   split at hy
   ·exact err_code hy (by decide)
   split at hy
   ·cases hy
   split at hy
   ·exact err_code hy (by decide)
   ·cases hy
  ·cases hy
 ·cases h
 ·have hp := parameter_le' ha
  unfold braced2 at h
  split at h
  ·injection h with h; rw [← h]; exact reject_code _ _ _
  split at h
  ·exact err_code h (by decide)
  split at h
  ·cases h
  split at h
  ·rename_i h58
   obtain ⟨r, hr⟩ := LX.has1 h58
   have h7 := (LX.drop_head hr).1
   have h8 := operator_le' (c.s.drop (parameter c.s (st.a + 2) + 1)) true
   rw [List.length_drop] at h8
   exact braced3_code hN (by omega) (by omega) h
  ·have h8 := operator_le' (c.s.drop (parameter c.s (st.a + 2))) false
   rw [List.length_drop] at h8
   exact braced3_code hN (by omega) (by omega) h
theorem dollar_code {N : Nest} {c : Ctx} {st : St} {x : Flt} (hN : CodeN c.s (st.a + 1) N) (h : dollar N c st = .error x) : ¬ x.2 = 0 := by
 unfold dollar at h
 split at h
 ·rename_i h40
  split at h
  ·exact err_code h (by decide)
  split at h
  ·rename_i y hy
   injection h with h
   rw [← h]
   obtain ⟨r, hr⟩ := LX.has2 h40
   have d1 := LX.drop_head hr
   have d2 := LX.drop_head d1.2.2
   exact hN ⟨c.s, 2, false, c.lv + 1, st.a⟩ (st.a + 3) _ rfl (by omega) (by omega) hy
  ·cases h
 split at h
 ·split at h
  ·rename_i y hy
   injection h with h
   rw [← h]
   exact cls_code hy
  ·cases h
 split at h
 ·rename_i h123
  split at h
  ·rename_i y hy
   injection h with h
   rw [← h]
   obtain ⟨r, hr⟩ := LX.has1 h123
   have d1 := LX.drop_head hr
   exact braced_code hN (by omega) hy
  ·cases h
 split at h
 ·cases h
 split at h
 ·split at h
  ·exact err_code h (by decide)
  ·cases h
 split at h
 ·exact err_code h (by decide)
 ·cases h
theorem next_code {N : Nest} {c : Ctx} {st : St} {x : Flt} (hN : CodeN c.s (st.a + 1) N) (ha : st.a < c.s.length) (h : next N c st = .error x) : ¬ x.2 = 0 := by
 unfold next at h
 split at h
 ·unfold backslash at h
  split at h
  ·split at h
   ·cases h
   ·exact err_code h (by decide)
  split at h
  ·cases h
  split at h
  ·cases h
  split at h
  ·cases h
  split at h
  ·exact err_code h (by decide)
  ·cases h
 split at h
 ·exact dollar_code hN h
 split at h
 ·unfold backquoted at h
  split at h
  ·rename_i y hy
   injection h with h
   rw [← h]
   exact cls_code hy
  ·split at h
   ·cases h
   split at h
   ·cases h
   ·exact err_code h (by decide)
 split at h
 ·unfold unquoted at h
  split at h
  ·split at h
   ·rename_i y hy
    injection h with h
    rw [← h]
    exact cls_code hy
   ·cases h
  split at h
  ·split at h
   ·exact err_code h (by decide)
   split at h
   ·rename_i y hy
    injection h with h
    rw [← h]
    exact hN ⟨c.s, 1, false, c.lv + 1, st.a⟩ (st.a + 1) _ rfl (by omega) (by omega) hy
   ·cases h
  split at h
  ·split at h
   ·cases h
   ·exact err_code h (by decide)
  split at h
  ·cases h
  ·cases h
 split at h
 ·exact err_code h (by decide)
 ·cases h
theorem run_code : ∀ (f : Nat) (c : Ctx) (st : St) (x : Flt), Inv c st → c.s.length - st.a < f → run f c st = .error x → ¬ x.2 = 0 := by
 intro f
 induction f using Nat.strongRecOn with
 | ind f ih =>
  intro c st x hi hf h
  obtain ⟨f, rfl⟩ : ∃ k, f = k + 1 := ⟨f - 1, by omega⟩
  rw [run_succ] at h
  cases he : ended c st with
  | error y =>
   rw [he] at h
   injection h with h
   rw [← h]
   exact ended_code he
  | ok b =>
   rw [he] at h
   cases b with
   | true => cases h
   | false =>
    dsimp only at h
    have hlt : st.a < c.s.length := by
     rcases Nat.lt_or_ge st.a c.s.length with h' | h'
     ·exact h'
     ·have := hi.le
      unfold ended at he
      rw [if_pos (by omega)] at he
      split at he <;> cases he
    have hN : CodeN c.s (st.a + 1) (nest f) := by
     intro c' k y hc hlo hk hy
     unfold nest at hy
     cases hr : run f c' ⟨k, 0, [], []⟩ with
     | error z =>
      rw [hr] at hy
      injection hy with hy
      rw [← hy]
      exact ih f (Nat.lt_succ_self _) c' ⟨k, 0, [], []⟩ z ⟨by rw [hc]; exact hk, by simp, by simp⟩ (by rw [hc]; show _ - k < _; omega) hr
     | ok z => rw [hr] at hy; cases hy
    cases hn : next (nest f) c st with
    | error y =>
     rw [hn] at h
     injection h with h
     rw [← h]
     exact next_code hN hlt hn
    | ok y =>
     rw [hn] at h
     have hg := next_good (nest_good f c.s) hi hlt hn
     exact ih f (Nat.lt_succ_self _) c y x hg.2 (by omega) h
theorem parse_code {s : Str} {pl : Nat} {x : Flt} (h : parse s pl = .error x) : ¬ x.2 = 0 := by
 unfold parse at h
 split at h
 ·exact err_code h (by decide)
 ·cases hr : run (s.length + 1) ⟨s, pl, false, 1, -1⟩ ⟨0, 0, [], []⟩ with
  | error y =>
   rw [hr] at h
   injection h with h
   rw [← h]
   exact run_code _ _ _ _ ⟨Nat.zero_le _, by simp, Nat.le_refl _⟩ (by show s.length - 0 < _; omega) hr
  | ok y => rw [hr] at h; cases h
end WP
end Go.Proofs.YtcbdhheelddgeaaGreatDoor
namespace Go.Proofs.YtcbdhheelddgeaaGreatDoor
open K
namespace WP
theorem cutLen (l : Str) (a b : Nat) : (cut l a b).length ≤ b - a := by unfold cut; simp; omega
theorem unqLen : ∀ (n : Nat) (t : Str), t.length ≤ n → (unq t).length ≤ t.length := by
 intro n
 induction n with
 | zero =>
  intro t h
  rw [List.length_eq_zero_iff.1 (by omega : t.length = 0)]
  exact Nat.le_refl _
 | succ n ih =>
  intro t h
  match t, h with
  | [], _ => exact Nat.le_refl _
  | [x], _ => exact Nat.le_refl _
  | x :: y :: r, h =>
   rw [unq]
   simp only [List.length_cons] at h
   split
   ·have := ih r (by omega)
    simp only [List.length_cons]
    omega
   ·have := ih (y :: r) (by simp only [List.length_cons]; omega)
    simp only [List.length_cons] at this ⊢
    omega
theorem cntL_append : ∀ a b : List GP, cntL (a ++ b) = cntL a + cntL b
 | [], b => by rw [List.nil_append, cntL, Nat.zero_add]
 | p :: r, b => by rw [List.cons_append, cntL, cntL, cntL_append r b, Nat.add_assoc]
theorem sizL_append : ∀ a b : List GP, sizL (a ++ b) = sizL a + sizL b
 | [], b => by rw [List.nil_append, sizL, Nat.zero_add]
 | p :: r, b => by rw [List.cons_append, sizL, sizL, sizL_append r b, Nat.add_assoc]
/-- The parts and the bytes of a state, its text with them. -/
def wc (st : St) : Nat := cntL (gpL st.ls) + st.tx.length
def ws (st : St) : Nat := sizL (gpL st.ls) + st.tx.length
theorem cnt_one (p : Part) : cntL (gpL [p]) = cntP (gp p) := by rw [gpL, gpL, cntL, cntL, Nat.add_zero]
theorem siz_one (p : Part) : sizL (gpL [p]) = sizP (gp p) := by rw [gpL, gpL, sizL, sizL, Nat.add_zero]
theorem flush_w (st : St) : wc (flush st) ≤ wc st ∧ ws (flush st) ≤ ws st ∧ (flush st).tx = [] := by
 unfold flush
 split
 ·rename_i h; exact ⟨Nat.le_refl _, Nat.le_refl _, h⟩
 ·rename_i h
  have := List.length_pos_iff.2 h
  refine ⟨?_, ?_, rfl⟩
  ·unfold wc
   dsimp only
   rw [gpL_append, cntL_append, cnt_one, gp, cntP, gpL, cntL]
   simp
   omega
  ·unfold ws
   dsimp only
   rw [gpL_append, sizL_append, siz_one, gp, sizP, gpL, sizL]
   simp
theorem add_w (p : Part) (k : Nat) (st : St) : wc (add p k st) ≤ wc st + cntP (gp p) ∧ ws (add p k st) ≤ ws st + sizP (gp p) := by
 obtain ⟨h1, h2, h3⟩ := flush_w st
 refine ⟨?_, ?_⟩
 ·have : wc (add p k st) = wc (flush st) + cntP (gp p) := by
   unfold wc add
   dsimp only
   rw [gpL_append, cntL_append, cnt_one]
   omega
  omega
 ·have : ws (add p k st) = ws (flush st) + sizP (gp p) := by
   unfold ws add
   dsimp only
   rw [gpL_append, sizL_append, siz_one]
   omega
  omega
theorem lit_w (c : UInt8) (m : Nat) (st : St) : wc (lit c m st) = wc st + 1 ∧ ws (lit c m st) = ws st + 1 := by
 unfold wc ws lit
 simp
 omega
/-- What a reader gives is no more than it read. -/
def WtN (s : Str) (lo : Nat) (N : Nest) : Prop := ∀ (c : Ctx) (k : Nat) (ps : List Part) (e : Nat), c.s = s → 0 ≤ c.opn → lo ≤ k → k ≤ s.length → N c k = .ok (ps, e) → cntL (gpL ps) + k ≤ e ∧ sizL (gpL ps) + k ≤ e
def Wt (st st' : St) : Prop := wc st' + st.a ≤ wc st + st'.a ∧ ws st' + st.a ≤ ws st + st'.a
theorem wt_add {st : St} {p : Part} {k : Nat} (h1 : cntP (gp p) + st.a ≤ k) (h2 : sizP (gp p) + st.a ≤ k) : Wt st (add p k st) := by
 obtain ⟨h3, h4⟩ := add_w p k st
 refine ⟨?_, ?_⟩
 ·show _ ≤ wc st + k; omega
 ·show _ ≤ ws st + k; omega
theorem wt_lit (c : UInt8) {m : Nat} (st : St) (h : 1 ≤ m) : Wt st (lit c m st) := by
 obtain ⟨h3, h4⟩ := lit_w c m st
 refine ⟨?_, ?_⟩
 ·show _ ≤ wc st + (st.a + m); omega
 ·show _ ≤ ws st + (st.a + m); omega
theorem leaf (k : Nat) (t : Str) (o : Nat) (b : Bool) : cntP (gp (.mk k t o b [])) = 1 ∧ sizP (gp (.mk k t o b [])) = t.length := by
 rw [gp, cntP, sizP, gpL, cntL, sizL]
 omega
theorem node (k : Nat) (t : Str) (o : Nat) (b : Bool) (ps : List Part) : cntP (gp (.mk k t o b ps)) = 1 + cntL (gpL ps) ∧ sizP (gp (.mk k t o b ps)) = t.length + sizL (gpL ps) := by
 rw [gp, cntP, sizP]
 omega
theorem wt_leaf {st : St} {k : Nat} {t : Str} {o : Nat} {b : Bool} {e : Nat} (h : t.length + st.a ≤ e) (h1 : st.a < e) : Wt st (add (.mk k t o b []) e st) := by
 obtain ⟨h2, h3⟩ := leaf k t o b
 exact wt_add (by omega) (by omega)
theorem braced3_wt {N : Nest} {c : Ctx} {st : St} (hN : WtN c.s (st.a + 1) N) {e k o z : Nat} {colon : Bool} {p : Part} {j : Nat} (hk : st.a + 2 ≤ e) (hk2 : e ≤ k) (hz : k + z ≤ c.s.length) (h : braced3 N c st e k o z colon = .ok (p, j)) : cntP (gp p) + st.a ≤ j ∧ sizP (gp p) + st.a ≤ j := by
 unfold braced3 at h
 split at h
 ·cases h
 split at h
 ·cases h
 split at h
 ·cases h
 split at h
 ·cases h
 ·rename_i ps x hn
  injection h with h
  injection h with h1 h2
  obtain ⟨h5, h6⟩ := hN ⟨c.s, c.pl, true, c.lv + 1, st.a⟩ (k + z) ps x rfl (show (0 : Int) ≤ (st.a : Int) by omega) (by omega) hz hn
  obtain ⟨h7, h8⟩ := node 4 (cut c.s (st.a + 2) e) o colon ps
  have := cutLen c.s (st.a + 2) e
  rw [← h1, ← h2]
  omega
theorem braced_wt {N : Nest} {c : Ctx} {st : St} (hN : WtN c.s (st.a + 1) N) (ha : st.a + 2 ≤ c.s.length) {p : Part} {j : Nat} (h : braced N c st = .ok (p, j)) : cntP (gp p) + st.a ≤ j ∧ sizP (gp p) + st.a ≤ j := by
 have hp := parameter_le' ha
 have hop : ∀ (t : Str) (colon : Bool), (operator t colon).2 ≤ t.length := by
  intro t colon
  unfold operator
  have h22 : ∀ {a b : UInt8}, Lib.hasPrefix t [a, b] = true → 2 ≤ t.length := by
   intro a b hx
   obtain ⟨r, hr⟩ := LX.has2 hx
   rw [hr]
   simp
  by_cases h0 : t = []
  ·rw [if_pos h0]; exact Nat.zero_le _
  ·have := List.length_pos_iff.2 h0
   rw [if_neg h0]
   repeat' split
   all_goals first | omega | (dsimp only; omega) | exact h22 (by assumption)
 unfold braced at h
 split at h
 ·cases h
 ·rename_i r hr
  injection h with h
  unfold braced1 at hr
  split at hr
  ·rename_i hc
   split at hr
   ·cases hr
   split at hr
   ·cases hr
   split at hr
   ·injection hr with hr
    injection hr with hr
    rw [h] at hr
    injection hr with h1 h2
    obtain ⟨h7, h8⟩ := leaf 4 (cut c.s (st.a + 3) (parameter c.s (st.a + 3))) 5 false
    have := cutLen c.s (st.a + 3) (parameter c.s (st.a + 3))
    rw [← h1, ← h2]
    omega
   split at hr
   ·cases hr
   ·injection hr with hr; cases hr
  ·injection hr with hr; cases hr
 ·unfold braced2 at h
  split at h
  ·cases h
  split at h
  ·cases h
  split at h
  ·injection h with h
   injection h with h1 h2
   obtain ⟨h7, h8⟩ := leaf 4 (cut c.s (st.a + 2) (parameter c.s (st.a + 2))) 0 false
   have := cutLen c.s (st.a + 2) (parameter c.s (st.a + 2))
   rw [← h1, ← h2]
   omega
  split at h
  ·rename_i h58
   obtain ⟨r, hr⟩ := LX.has1 h58
   have h7 := (LX.drop_head hr).1
   have h8 := hop (c.s.drop (parameter c.s (st.a + 2) + 1)) true
   rw [List.length_drop] at h8
   exact braced3_wt hN (by omega) (by omega) (by omega) h
  ·have h8 := hop (c.s.drop (parameter c.s (st.a + 2))) false
   rw [List.length_drop] at h8
   exact braced3_wt hN (by omega) (by omega) (by omega) h
theorem dollar_wt {N : Nest} {c : Ctx} {st st' : St} (hN : WtN c.s (st.a + 1) N) (hb : bt c.s st.a = 36) (h : dollar N c st = .ok st') : Wt st st' := by
 unfold dollar at h
 split at h
 ·rename_i h40
  split at h
  ·cases h
  split at h
  ·cases h
  ·rename_i ps e hn
   injection h with h
   subst h
   obtain ⟨r, hr⟩ := LX.has2 h40
   have d1 := LX.drop_head hr
   have d2 := LX.drop_head d1.2.2
   obtain ⟨h5, h6⟩ := hN ⟨c.s, 2, false, c.lv + 1, st.a⟩ (st.a + 3) _ _ rfl (show (0 : Int) ≤ (st.a : Int) by omega) (by omega) (by omega) hn
   obtain ⟨h7, h8⟩ := node 6 [] 0 false ps
   exact wt_add (by omega) (by rw [h8, List.length_nil]; omega)
 split at h
 ·rename_i hn40 h40
  split at h
  ·cases h
  ·rename_i e he
   injection h with h
   subst h
   obtain ⟨he1, he2⟩ := cls_le he
   obtain ⟨r, hr⟩ := LX.has1 h40
   have d1 := LX.drop_head hr
   have := LX.close_cmd hb d1.2.1 (LX.has_not3 (by simpa using hn40)) he1
   have := cutLen c.s (st.a + 2) (e - 1)
   exact wt_leaf (by omega) (by omega)
 split at h
 ·rename_i h123
  split at h
  ·cases h
  ·rename_i p e hbr
   injection h with h
   subst h
   obtain ⟨r, hr⟩ := LX.has1 h123
   have d1 := LX.drop_head hr
   obtain ⟨h5, h6⟩ := braced_wt hN (by omega) hbr
   exact wt_add h5 h6
 split at h
 ·injection h with h
  subst h
  have := cutLen c.s (st.a + 1) (st.a + 2)
  exact wt_leaf (by omega) (by omega)
 split at h
 ·rename_i hp
  split at h
  ·cases h
  ·injection h with h
   subst h
   have := cutLen c.s (st.a + 1) (parameter c.s (st.a + 1))
   exact wt_leaf (by omega) (by omega)
 split at h
 ·cases h
 ·injection h with h
  subst h
  exact wt_lit _ _ (Nat.le_refl _)
theorem next_wt {N : Nest} {c : Ctx} {st st' : St} (hN : WtN c.s (st.a + 1) N) (ha : st.a < c.s.length) (h : next N c st = .ok st') : Wt st st' := by
 unfold next at h
 split at h
 ·unfold backslash at h
  split at h
  ·split at h
   ·injection h with h; subst h; exact wt_lit _ _ (Nat.le_refl _)
   ·cases h
  split at h
  ·injection h with h
   subst h
   refine ⟨?_, ?_⟩
   ·show wc st + st.a ≤ wc st + (st.a + 2); omega
   ·show ws st + st.a ≤ ws st + (st.a + 2); omega
  split at h
  ·injection h with h
   subst h
   have := cutLen c.s (st.a + 1) (st.a + 2)
   exact wt_leaf (by omega) (by omega)
  split at h
  ·injection h with h; subst h; exact wt_lit _ _ (by decide)
  split at h
  ·cases h
  ·injection h with h
   subst h
   obtain ⟨h1, h2⟩ := wt_lit 92 (m := 1) st (Nat.le_refl _)
   obtain ⟨h3, h4⟩ := wt_lit (by8 (bt c.s (st.a + 1))) (m := 1) (lit 92 1 st) (Nat.le_refl _)
   exact ⟨by omega, by omega⟩
 split at h
 ·rename_i hb; exact dollar_wt hN hb h
 split at h
 ·rename_i hb
  unfold backquoted at h
  split at h
  ·cases h
  ·rename_i e he
   obtain ⟨he1, he2⟩ := cls_le he
   have := LX.close_back hb he1
   have h5 := cutLen c.s (st.a + 1) (e - 1)
   have h6 := unqLen _ (cut c.s (st.a + 1) (e - 1)) (Nat.le_refl _)
   have h7 : (bqText (unq (cut c.s (st.a + 1) (e - 1)))).length ≤ (unq (cut c.s (st.a + 1) (e - 1))).length + 1 := by unfold bqText; split <;> simp
   split at h
   ·injection h with h; subst h; exact wt_leaf (by omega) (by omega)
   split at h
   ·injection h with h; subst h; exact wt_leaf (by rw [List.length_append, List.length_singleton]; omega) (by omega)
   ·cases h
 split at h
 ·unfold unquoted at h
  split at h
  ·rename_i hb
   split at h
   ·cases h
   ·rename_i e he
    obtain ⟨he1, he2⟩ := cls_le he
    have := LX.close_single hb he1
    have := cutLen c.s (st.a + 1) (e - 1)
    injection h with h; subst h; exact wt_leaf (by omega) (by omega)
  split at h
  ·split at h
   ·cases h
   split at h
   ·cases h
   ·rename_i ps e hn
    obtain ⟨h5, h6⟩ := hN ⟨c.s, 1, false, c.lv + 1, st.a⟩ (st.a + 1) _ _ rfl (show (0 : Int) ≤ (st.a : Int) by omega) (by omega) (by omega) hn
    obtain ⟨h7, h8⟩ := node 3 [] 0 false ps
    injection h with h; subst h; exact wt_add (by omega) (by rw [h8, List.length_nil]; omega)
  split at h
  ·split at h
   ·injection h with h; subst h; exact wt_lit _ _ (Nat.le_refl _)
   ·cases h
  split at h
  ·injection h with h; subst h; exact wt_leaf (by rw [List.length_nil]; omega) (by omega)
  ·injection h with h; subst h; exact wt_lit _ _ (Nat.le_refl _)
 split at h
 ·cases h
 ·injection h with h
  subst h
  exact wt_lit (by8 (bt c.s st.a)) (m := 1) { st with dep := depth c st } (Nat.le_refl _)
theorem run_wt : ∀ (f : Nat) (c : Ctx) (st st' : St), Inv c st → run f c st = .ok st' → Wt st st' ∧ st'.a ≤ c.s.length := by
 intro f
 induction f using Nat.strongRecOn with
 | ind f ih =>
  intro c st st' hi h
  cases f with
  | zero => rw [run] at h; cases h
  | succ f =>
   rw [run_succ] at h
   cases he : ended c st with
   | error y => rw [he] at h; cases h
   | ok b =>
    rw [he] at h
    cases b with
    | true =>
     injection h with h
     subst h
     obtain ⟨h1, h2, -⟩ := flush_w st
     have := flush_a' st
     have := hi.le
     exact ⟨⟨by omega, by omega⟩, by omega⟩
    | false =>
     dsimp only at h
     have hlt : st.a < c.s.length := by
      rcases Nat.lt_or_ge st.a c.s.length with h' | h'
      ·exact h'
      ·have := hi.le
       unfold ended at he
       rw [if_pos (by omega)] at he
       split at he <;> cases he
     have hN : WtN c.s (st.a + 1) (nest f) := by
      intro c' k ps e hc _ _ hk hn
      unfold nest at hn
      cases hr : run f c' ⟨k, 0, [], []⟩ with
      | error z => rw [hr] at hn; cases hn
      | ok z =>
       rw [hr] at hn
       injection hn with hn
       injection hn with h1 h2
       obtain ⟨⟨h3, h4⟩, -⟩ := ih f (Nat.lt_succ_self _) c' ⟨k, 0, [], []⟩ z ⟨by rw [hc]; exact hk, by simp, by simp⟩ hr
       rw [← h1, ← h2]
       have e1 : wc ⟨k, 0, [], []⟩ = 0 := rfl
       have e2 : ws ⟨k, 0, [], []⟩ = 0 := rfl
       rw [e1] at h3
       rw [e2] at h4
       unfold wc at h3
       unfold ws at h4
       dsimp only at h3 h4
       exact ⟨by omega, by omega⟩
     cases hn : next (nest f) c st with
     | error y => rw [hn] at h; cases h
     | ok y =>
      rw [hn] at h
      have hg := next_good (nest_good f c.s) hi hlt hn
      obtain ⟨h1, h2⟩ := next_wt hN hlt hn
      obtain ⟨⟨h3, h4⟩, h5⟩ := ih f (Nat.lt_succ_self _) c y st' hg.2 h
      exact ⟨⟨by omega, by omega⟩, h5⟩
/-- What Parse gives is no more, and no longer, than its source. -/
theorem parse_wt {s : Str} {pl : Nat} {ps : List Part} (h : parse s pl = .ok ps) : cntL (gpL ps) ≤ s.length ∧ sizL (gpL ps) ≤ s.length := by
 unfold parse at h
 split at h
 ·cases h
 ·cases hr : run (s.length + 1) ⟨s, pl, false, 1, -1⟩ ⟨0, 0, [], []⟩ with
  | error y => rw [hr] at h; cases h
  | ok y =>
   rw [hr] at h
   injection h with h
   subst h
   obtain ⟨⟨h1, h2⟩, hle⟩ := run_wt _ _ _ _ ⟨Nat.zero_le _, by simp, Nat.le_refl _⟩ hr
   replace hle : y.a ≤ s.length := hle
   have e1 : wc ⟨0, 0, [], []⟩ = 0 := rfl
   have e2 : ws ⟨0, 0, [], []⟩ = 0 := rfl
   rw [e1] at h1
   rw [e2] at h2
   unfold wc at h1
   unfold ws at h2
   dsimp only at h1 h2
   exact ⟨by omega, by omega⟩
end WP
end Go.Proofs.YtcbdhheelddgeaaGreatDoor
