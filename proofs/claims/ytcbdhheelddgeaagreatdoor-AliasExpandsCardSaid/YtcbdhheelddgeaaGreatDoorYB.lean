/- Several texts in one: R08p R08n R08a R08b R08l. -/
import Derived.Test.YtcbdhheelddgeaaGreatDoorYA
import Derived.Test.YtcbdhheelddgeaaGreatDoorP08b
import Derived.Test.YtcbdhheelddgeaaGreatDoorZA
import Derived.Test.YtcbdhheelddgeaaGreatDoorW08a
namespace Go.Proofs.YtcbdhheelddgeaaGreatDoor
open K
namespace RP
open WP (Part Ctx Str)
/-- Parts and the offset behind them, or a failure. -/
abbrev Res := Option (List Part × Nat)
abbrev NestR := Ctx → Nat → Res
def big (s : Str) (a : Nat) (q d : Bool) : Nat × Int := LX.pas (3 * s.length + 4) s a q d
def leaf (k : Nat) (t : Str) (j : Nat) : Res := some ([.mk k t 0 false []], j)
def closed (t : Str) : Bool := decide (big (36 :: 40 :: (t ++ [41])) 0 false false = (t.length + 3, 0)) && decide (t = [] ∨ ¬ bt t 0 = 40)
def unq : Nat → Str → Nat → Nat → Str
  | 0, _, _, _ => []
  | f + 1, s, i, e =>
    if i < e then
      if bt s i = 92 ∧ (bt s (i + 1) = 96 ∨ bt s (i + 1) = 92 ∨ bt s (i + 1) = 36) then cut s (i + 1) (i + 2) ++ unq f s (i + 2) e
      else cut s i (i + 1) ++ unq f s (i + 1) e
    else []
def sp (t : Str) : Str := if ¬ t = [] ∧ bt t 0 = 40 then 32 :: t else t
def command (t : Str) (k : Nat) : Res := if closed t = true then leaf 5 t k else if closed (t ++ [10]) = true then leaf 5 (t ++ [10]) k else none
def backquoted (s : Str) (a : Nat) : Res :=
  if (big s a false false).2 = 0 then command (sp (unq (s.length + 1) s (a + 1) ((big s a false false).1 - 1))) (big s a false false).1 else none
def backslash (c : Ctx) (a : Nat) : Res :=
  if a + 1 = c.s.length then none
  else if bt c.s (a + 1) = 10 then some ([], a + 2)
  else if c.pl = 0 then leaf 2 (cut c.s (a + 1) (a + 2)) (a + 2)
  else if WP.escapes c.pl (bt c.s (a + 1)) c.op = true then leaf 1 (cut c.s (a + 1) (a + 2)) (a + 2)
  else if c.pl = 2 ∧ c.op = false ∧ (bt c.s (a + 1) = 40 ∨ bt c.s (a + 1) = 41) then none
  else leaf 1 (cut c.s a (a + 2)) (a + 2)
def digEnd : Nat → Str → Nat → Nat → Nat
  | 0, _, _, e => e
  | f + 1, s, i, e => if e < s.length ∧ P.dg (bt s e) = true then (if P.digits (cut s i (e + 1)) = none then e else digEnd f s i (e + 1)) else e
def param (s : Str) (i : Nat) : Nat :=
  if s.length ≤ i then i
  else if P.dg (bt s i) = true then digEnd (s.length + 1) s i (i + 1)
  else if P.wd (bt s i) = true then LX.nameEnd s i
  else if LX.spec (bt s i) = true then i + 1
  else i
/-- The operator at an offset behind a colon or not: its number, its colon, its length. -/
def oper2 (s : Str) (i : Nat) (colon : Bool) (n : Nat) : Nat × Bool × Nat :=
  if bt s i = 45 then (1, colon, n)
  else if bt s i = 61 then (2, colon, n)
  else if bt s i = 63 then (3, colon, n)
  else if bt s i = 43 then (4, colon, n)
  else if colon = true then (0, false, 0)
  else if bt s i = 37 ∧ i + 1 < s.length ∧ bt s (i + 1) = 37 then (7, false, 2)
  else if bt s i = 37 then (6, false, 1)
  else if bt s i = 35 ∧ i + 1 < s.length ∧ bt s (i + 1) = 35 then (9, false, 2)
  else if bt s i = 35 then (8, false, 1)
  else (0, false, 0)
def oper (s : Str) (a : Nat) : Nat × Bool × Nat :=
  if bt s a = 58 then (if s.length ≤ a + 1 then (0, false, 0) else oper2 s (a + 1) true 2) else oper2 s a false 1
def braced3 (N : NestR) (c : Ctx) (a e : Nat) (o : Nat × Bool × Nat) : Res :=
  if o.1 = 0 then none
  else if 32 ≤ c.lv then none
  else if LX.joins c.s (e + o.2.2) = true then none
  else match N ⟨c.s, c.pl, true, c.lv + 1, a⟩ (e + o.2.2) with
    | none => none
    | some (ps, j) => some ([.mk 4 (cut c.s (a + 2) e) o.1 o.2.1 ps], j + 1)
def braced2 (N : NestR) (c : Ctx) (a e : Nat) : Res :=
  if 32 < e - (a + 2) then none
  else if a + 2 = c.s.length ∨ e = c.s.length then none
  else if e = a + 2 then none
  else if bt c.s e = 125 then leaf 4 (cut c.s (a + 2) e) (e + 1)
  else braced3 N c a e (oper c.s e)
def braced (N : NestR) (c : Ctx) (a : Nat) : Res :=
  if a + 2 < c.s.length ∧ bt c.s (a + 2) = 35 then
    if 32 < param c.s (a + 3) - (a + 3) then none
    else if a + 3 < param c.s (a + 3) ∧ param c.s (a + 3) < c.s.length ∧ bt c.s (param c.s (a + 3)) = 125 then some ([.mk 4 (cut c.s (a + 3) (param c.s (a + 3))) 5 false []], param c.s (a + 3) + 1)
    else if a + 3 < param c.s (a + 3) ∧ param c.s (a + 3) = c.s.length then none
    else braced2 N c a (param c.s (a + 2))
  else braced2 N c a (param c.s (a + 2))
def marks (pl : Nat) : Bool × Bool := (decide (pl ≠ 0), decide (pl = 1))
def expansion (N : NestR) (c : Ctx) (a : Nat) : Res :=
  if bt c.s (a + 1) = 123 then braced N c a
  else if bt c.s (a + 1) = 40 ∧ a + 2 < c.s.length ∧ bt c.s (a + 2) = 40 then
    if 32 ≤ c.lv then none
    else match N ⟨c.s, 2, false, c.lv + 1, a⟩ (a + 3) with
      | none => none
      | some (ps, e) => some ([.mk 6 [] 0 false ps], e + 2)
  else if bt c.s (a + 1) = 40 then
    if (big c.s a (marks c.pl).1 (marks c.pl).2).2 = 0 then leaf 5 (cut c.s (a + 2) ((big c.s a (marks c.pl).1 (marks c.pl).2).1 - 1)) (big c.s a (marks c.pl).1 (marks c.pl).2).1 else none
  else if LX.spec (bt c.s (a + 1)) = true then leaf 4 (cut c.s (a + 1) (a + 2)) (a + 2)
  else if 32 < LX.nameEnd c.s (a + 1) - a - 1 then none
  else leaf 4 (cut c.s (a + 1) (LX.nameEnd c.s (a + 1))) (LX.nameEnd c.s (a + 1))
def dollar (N : NestR) (c : Ctx) (a : Nat) : Res :=
  if LX.dollar c.s (a + 1) = true then expansion N c a
  else if c.pl = 0 ∧ (a + 1 < c.s.length ∧ bt c.s (a + 1) = 96 ∨ LX.joins c.s (a + 1) = true) then none
  else leaf 1 [36] (a + 1)
def quoted (N : NestR) (c : Ctx) (a : Nat) : Res :=
  if bt c.s a = 39 then
    if (big c.s a false false).2 = 0 then leaf 2 (cut c.s (a + 1) ((big c.s a false false).1 - 1)) (big c.s a false false).1 else none
  else if 32 ≤ c.lv then none
  else match N ⟨c.s, 1, false, c.lv + 1, a⟩ (a + 1) with
    | none => none
    | some (ps, e) => some ([.mk 3 [] 0 false ps], e + 1)
def part (N : NestR) (c : Ctx) (a : Nat) : Res :=
  if bt c.s a = 92 then backslash c a
  else if bt c.s a = 96 then backquoted c.s a
  else if bt c.s a = 36 then dollar N c a
  else if c.pl = 0 ∧ (bt c.s a = 39 ∨ bt c.s a = 34) then quoted N c a
  else if c.pl = 0 ∧ c.op = false ∧ LX.divides (bt c.s a) = true then none
  else if c.pl = 1 ∧ c.op = true ∧ bt c.s a = 34 then none
  else leaf 1 (cut c.s a (a + 1)) (a + 1)
def ends (c : Ctx) (a dep : Nat) : Bool :=
  if c.op = true then decide (bt c.s a = 125)
  else if c.pl = 1 then decide (bt c.s a = 34)
  else if c.pl = 2 then decide (bt c.s a = 41 ∧ dep = 0)
  else false
/-- Behind joined lines. -/
def over : Nat → Str → Nat → Nat
  | 0, _, i => i
  | f + 1, s, i => if LX.joins s i = true then over f s (i + 2) else i
def tilde (c : Ctx) (a : Nat) : Bool :=
  decide (c.pl = 0) && decide (bt c.s a = 126) && (decide (c.s.length ≤ over (c.s.length + 1) c.s (a + 1)) || decide (bt c.s (over (c.s.length + 1) c.s (a + 1)) = 47) || (c.op && decide (bt c.s (over (c.s.length + 1) c.s (a + 1)) = 125)))
def depth (c : Ctx) (a dep : Nat) : Nat :=
  if c.pl = 2 ∧ c.op = false then (if bt c.s a = 40 then dep + 1 else if bt c.s a = 41 then dep - 1 else dep) else dep
/-- A list with a literal text behind it. -/
def withT (l : List Part) (t : Str) : List Part :=
  match l.getLast? with
  | some (.mk 1 u _ _ _) => l.dropLast ++ [.mk 1 (u ++ t) 0 false []]
  | _ => l ++ [.mk 1 t 0 false []]
def app1 (l : List Part) : Part → List Part
  | .mk k t o b ps => if k = 1 then withT l t else l ++ [.mk k t o b ps]
def apps (l xs : List Part) : List Part := xs.foldl app1 l
def run : Nat → Ctx → List Part → Nat → Nat → Res
  | 0, _, _, _, _ => none
  | f + 1, c, l, a, dep =>
    if a < c.s.length then
      if ends c a dep = true then
        if c.pl = 2 ∧ c.op = false ∧ (a + 1 = c.s.length ∨ ¬ bt c.s (a + 1) = 41) then none else some (l, a)
      else if l = [] ∧ tilde c a = true then run f c (l ++ [.mk 7 [] 0 false []]) (a + 1) dep
      else match part (fun c' k => run f c' [] k 0) c a with
        | none => none
        | some (xs, k) => run f c (apps l xs) k (depth c a dep)
    else if c.pl = 0 ∧ c.op = false then some (l, a) else none
def nest (f : Nat) : NestR := fun c' k => run f c' [] k 0
theorem run_succ (f : Nat) (c : Ctx) (l : List Part) (a dep : Nat) : run (f + 1) c l a dep = if a < c.s.length then
      if ends c a dep = true then
        if c.pl = 2 ∧ c.op = false ∧ (a + 1 = c.s.length ∨ ¬ bt c.s (a + 1) = 41) then none else some (l, a)
      else if l = [] ∧ tilde c a = true then run f c (l ++ [.mk 7 [] 0 false []]) (a + 1) dep
      else match part (nest f) c a with
        | none => none
        | some (xs, k) => run f c (apps l xs) k (depth c a dep)
    else if c.pl = 0 ∧ c.op = false then some (l, a) else none := by rw [run]; rfl
def parse (s : Str) : Option (List Part) := if 16384 < s.length then none else (run (s.length + 1) ⟨s, 0, false, 1, 0⟩ [] 0 0).map Prod.fst

/-- What a nested reading is good for. -/
def GoodN (s : Str) (N : NestR) : Prop := ∀ (c : Ctx) (k : Nat) (ps : List Part) (e : Nat), c.s = s → ¬ (c.pl = 0 ∧ c.op = false) → k ≤ s.length → N c k = some (ps, e) → k ≤ e ∧ e < s.length ∧ (c.pl = 2 → c.op = false → e + 1 < s.length)
theorem leaf_eq {k : Nat} {t : Str} {j : Nat} {xs : List Part} {e : Nat} (h : leaf k t j = some (xs, e)) : xs = [.mk k t 0 false []] ∧ e = j := by
  injection h with h
  injection h with h1 h2
  exact ⟨h1.symm, h2.symm⟩
theorem big_good (s : Str) (a : Nat) (q d : Bool) (h : a < s.length) : LX.Good s.length a (big s a q d) := LX.pas_good _ s a q d h
theorem digEnd_le : ∀ (f : Nat) (s : Str) (i e : Nat), e ≤ s.length → e ≤ digEnd f s i e ∧ digEnd f s i e ≤ s.length
  | 0, s, i, e, h => ⟨Nat.le_refl _, h⟩
  | f + 1, s, i, e, h => by
    rw [digEnd]
    by_cases h1 : e < s.length ∧ P.dg (bt s e) = true
    · rw [if_pos h1]
      by_cases h2 : P.digits (cut s i (e + 1)) = none
      · rw [if_pos h2]; exact ⟨Nat.le_refl _, h⟩
      · rw [if_neg h2]; have := digEnd_le f s i (e + 1) h1.1; omega
    · rw [if_neg h1]; exact ⟨Nat.le_refl _, h⟩
theorem param_le (s : Str) {i : Nat} (h : i ≤ s.length) : i ≤ param s i ∧ param s i ≤ s.length := by
  unfold param
  split
  · exact ⟨Nat.le_refl _, h⟩
  · rename_i h1
    split
    · have := digEnd_le (s.length + 1) s i (i + 1) (by omega); omega
    · split
      · exact ⟨LX.nameEnd_ge s i, LX.nameEnd_le s h⟩
      · split <;> omega
theorem oper2_le (s : Str) {i : Nat} (colon : Bool) {n : Nat} (h : (oper2 s i colon n).1 ≠ 0) : (oper2 s i colon n).2.2 = n ∨ ((oper2 s i colon n).2.2 = 2 ∧ i + 1 < s.length ∧ colon = false) ∨ ((oper2 s i colon n).2.2 = 1 ∧ colon = false) := by
  unfold oper2 at h ⊢
  repeat' split
  all_goals simp_all
theorem oper_le (s : Str) {a : Nat} (ha : a < s.length) (h : (oper s a).1 ≠ 0) : a + (oper s a).2.2 ≤ s.length ∧ (oper s a).2.2 ≤ 2 ∧ 0 < (oper s a).2.2 := by
  unfold oper at h ⊢
  by_cases h1 : bt s a = 58
  · rw [if_pos h1] at h ⊢
    by_cases h2 : s.length ≤ a + 1
    · rw [if_pos h2] at h; exact absurd rfl h
    · rw [if_neg h2] at h ⊢
      rcases oper2_le s true h with e | ⟨_, _, e⟩ | ⟨_, e⟩
      · omega
      · cases e
      · cases e
  · rw [if_neg h1] at h ⊢
    rcases oper2_le s false h with e | ⟨e, e2, _⟩ | ⟨e, _⟩ <;> omega
theorem braced3_good {N : NestR} {c : Ctx} {a e : Nat} {o : Nat × Bool × Nat} {xs : List Part} {k : Nat} (hN : GoodN c.s N) (h2 : a + 2 ≤ e) (hz : o.1 ≠ 0 → e + o.2.2 ≤ c.s.length) (h : braced3 N c a e o = some (xs, k)) : a < k ∧ k ≤ c.s.length := by
  unfold braced3 at h
  by_cases h1 : o.1 = 0
  · rw [if_pos h1] at h; cases h
  rw [if_neg h1] at h
  by_cases h3 : 32 ≤ c.lv
  · rw [if_pos h3] at h; cases h
  rw [if_neg h3] at h
  by_cases h4 : LX.joins c.s (e + o.2.2) = true
  · rw [if_pos h4] at h; cases h
  rw [if_neg h4] at h
  cases hn : N ⟨c.s, c.pl, true, c.lv + 1, a⟩ (e + o.2.2) with
  | none => rw [hn] at h; cases h
  | some r =>
    obtain ⟨ps, j⟩ := r
    rw [hn] at h
    injection h with h
    injection h with _ h
    obtain ⟨g1, g2, _⟩ := hN ⟨c.s, c.pl, true, c.lv + 1, a⟩ _ ps j rfl (fun e => Bool.noConfusion e.2) (hz h1) hn
    omega
theorem braced2_good {N : NestR} {c : Ctx} {a e : Nat} {xs : List Part} {k : Nat} (hN : GoodN c.s N) (h2 : a + 2 ≤ e) (hle : e ≤ c.s.length) (h : braced2 N c a e = some (xs, k)) : a < k ∧ k ≤ c.s.length := by
  unfold braced2 at h
  by_cases h1 : 32 < e - (a + 2)
  · rw [if_pos h1] at h; cases h
  rw [if_neg h1] at h
  by_cases h3 : a + 2 = c.s.length ∨ e = c.s.length
  · rw [if_pos h3] at h; cases h
  rw [if_neg h3] at h
  by_cases h4 : e = a + 2
  · rw [if_pos h4] at h; cases h
  rw [if_neg h4] at h
  by_cases h5 : bt c.s e = 125
  · rw [if_pos h5] at h
    obtain ⟨_, rfl⟩ := leaf_eq h
    omega
  rw [if_neg h5] at h
  exact braced3_good hN h2 (fun h => (oper_le c.s (by omega) h).1) h
theorem braced_good {N : NestR} {c : Ctx} {a : Nat} {xs : List Part} {k : Nat} (hN : GoodN c.s N) (h2 : a + 2 ≤ c.s.length) (h : braced N c a = some (xs, k)) : a < k ∧ k ≤ c.s.length := by
  unfold braced at h
  have hp := param_le c.s h2
  by_cases h1 : a + 2 < c.s.length ∧ bt c.s (a + 2) = 35
  · rw [if_pos h1] at h
    by_cases h3 : 32 < param c.s (a + 3) - (a + 3)
    · rw [if_pos h3] at h; cases h
    rw [if_neg h3] at h
    by_cases h4 : a + 3 < param c.s (a + 3) ∧ param c.s (a + 3) < c.s.length ∧ bt c.s (param c.s (a + 3)) = 125
    · rw [if_pos h4] at h
      injection h with h
      injection h with _ h
      omega
    rw [if_neg h4] at h
    by_cases h5 : a + 3 < param c.s (a + 3) ∧ param c.s (a + 3) = c.s.length
    · rw [if_pos h5] at h; cases h
    rw [if_neg h5] at h
    exact braced2_good hN hp.1 hp.2 h
  · rw [if_neg h1] at h
    exact braced2_good hN hp.1 hp.2 h
theorem expansion_good {N : NestR} {c : Ctx} {a : Nat} {xs : List Part} {k : Nat} (hN : GoodN c.s N) (h2 : a + 1 < c.s.length) (h : expansion N c a = some (xs, k)) : a < k ∧ k ≤ c.s.length := by
  unfold expansion at h
  by_cases h1 : bt c.s (a + 1) = 123
  · rw [if_pos h1] at h; exact braced_good hN (by omega) h
  rw [if_neg h1] at h
  by_cases h3 : bt c.s (a + 1) = 40 ∧ a + 2 < c.s.length ∧ bt c.s (a + 2) = 40
  · rw [if_pos h3] at h
    by_cases h4 : 32 ≤ c.lv
    · rw [if_pos h4] at h; cases h
    rw [if_neg h4] at h
    cases hn : N ⟨c.s, 2, false, c.lv + 1, a⟩ (a + 3) with
    | none => rw [hn] at h; cases h
    | some r =>
      obtain ⟨ps, j⟩ := r
      rw [hn] at h
      injection h with h
      injection h with _ h
      obtain ⟨g1, g2, g3⟩ := hN ⟨c.s, 2, false, c.lv + 1, a⟩ _ ps j rfl (fun e => Nat.noConfusion e.1) (by omega) hn
      have := g3 rfl rfl
      omega
  rw [if_neg h3] at h
  by_cases h4 : bt c.s (a + 1) = 40
  · rw [if_pos h4] at h
    by_cases h5 : (big c.s a (marks c.pl).1 (marks c.pl).2).2 = 0
    · rw [if_pos h5] at h
      obtain ⟨_, rfl⟩ := leaf_eq h
      have := big_good c.s a (marks c.pl).1 (marks c.pl).2 (by omega)
      exact ⟨this.2.1 h5, this.1⟩
    · rw [if_neg h5] at h; cases h
  rw [if_neg h4] at h
  by_cases h5 : LX.spec (bt c.s (a + 1)) = true
  · rw [if_pos h5] at h
    obtain ⟨_, rfl⟩ := leaf_eq h
    omega
  rw [if_neg h5] at h
  by_cases h6 : 32 < LX.nameEnd c.s (a + 1) - a - 1
  · rw [if_pos h6] at h; cases h
  rw [if_neg h6] at h
  obtain ⟨_, rfl⟩ := leaf_eq h
  have g1 := LX.nameEnd_ge c.s (a + 1)
  have g2 := LX.nameEnd_le c.s (i := a + 1) (by omega)
  omega
theorem part_good {N : NestR} {c : Ctx} {a : Nat} {xs : List Part} {k : Nat} (hN : GoodN c.s N) (ha : a < c.s.length) (h : part N c a = some (xs, k)) : a < k ∧ k ≤ c.s.length := by
  unfold part at h
  by_cases h92 : bt c.s a = 92
  · rw [if_pos h92] at h
    unfold backslash at h
    by_cases h1 : a + 1 = c.s.length
    · rw [if_pos h1] at h; cases h
    rw [if_neg h1] at h
    split at h
    · injection h with h
      injection h with _ h
      omega
    split at h
    · obtain ⟨_, rfl⟩ := leaf_eq h; omega
    split at h
    · obtain ⟨_, rfl⟩ := leaf_eq h; omega
    split at h
    · cases h
    · obtain ⟨_, rfl⟩ := leaf_eq h; omega
  rw [if_neg h92] at h
  by_cases h96 : bt c.s a = 96
  · rw [if_pos h96] at h
    unfold backquoted at h
    have g := big_good c.s a false false ha
    by_cases h1 : (big c.s a false false).2 = 0
    · rw [if_pos h1] at h
      unfold command at h
      have g2 := g.2.1 h1
      have g1 := g.1
      split at h
      · obtain ⟨_, rfl⟩ := leaf_eq h; omega
      split at h
      · obtain ⟨_, rfl⟩ := leaf_eq h; omega
      · cases h
    · rw [if_neg h1] at h; cases h
  rw [if_neg h96] at h
  by_cases h36 : bt c.s a = 36
  · rw [if_pos h36] at h
    unfold dollar at h
    by_cases h1 : LX.dollar c.s (a + 1) = true
    · rw [if_pos h1] at h
      refine expansion_good hN ?_ h
      unfold LX.dollar at h1
      rw [Bool.and_eq_true, decide_eq_true_eq] at h1
      exact h1.1
    · rw [if_neg h1] at h
      split at h
      · cases h
      · obtain ⟨_, rfl⟩ := leaf_eq h; omega
  rw [if_neg h36] at h
  split at h
  · unfold quoted at h
    by_cases h39 : bt c.s a = 39
    · rw [if_pos h39] at h
      have g := big_good c.s a false false ha
      by_cases h1 : (big c.s a false false).2 = 0
      · rw [if_pos h1] at h
        obtain ⟨_, rfl⟩ := leaf_eq h
        exact ⟨g.2.1 h1, g.1⟩
      · rw [if_neg h1] at h; cases h
    · rw [if_neg h39] at h
      by_cases h4 : 32 ≤ c.lv
      · rw [if_pos h4] at h; cases h
      rw [if_neg h4] at h
      cases hn : N ⟨c.s, 1, false, c.lv + 1, a⟩ (a + 1) with
      | none => rw [hn] at h; cases h
      | some r =>
        obtain ⟨ps, j⟩ := r
        rw [hn] at h
        injection h with h
        injection h with _ h
        obtain ⟨g1, g2, g3⟩ := hN ⟨c.s, 1, false, c.lv + 1, a⟩ _ ps j rfl (fun e => Nat.noConfusion e.1) (by omega) hn
        omega
  split at h
  · cases h
  split at h
  · cases h
  · obtain ⟨_, rfl⟩ := leaf_eq h; omega
theorem run_good : ∀ (f : Nat) (c : Ctx) (l : List Part) (a dep : Nat) (ps : List Part) (j : Nat), a ≤ c.s.length → run f c l a dep = some (ps, j) → a ≤ j ∧ j ≤ c.s.length ∧ (¬ (c.pl = 0 ∧ c.op = false) → j < c.s.length ∧ (c.pl = 2 → c.op = false → j + 1 < c.s.length))
  | 0, c, l, a, dep, ps, j, _, h => by rw [run] at h; cases h
  | f + 1, c, l, a, dep, ps, j, ha, h => by
    have hN : GoodN c.s (nest f) := fun c' k ps e hc hp hk hn => by
      have := run_good f c' [] k 0 ps e (by rw [hc]; exact hk) hn
      rw [hc] at this
      exact ⟨this.1, (this.2.2 hp).1, (this.2.2 hp).2⟩
    rw [run_succ] at h
    by_cases hlt : a < c.s.length
    · rw [if_pos hlt] at h
      by_cases he : ends c a dep = true
      · rw [if_pos he] at h
        by_cases h1 : c.pl = 2 ∧ c.op = false ∧ (a + 1 = c.s.length ∨ ¬ bt c.s (a + 1) = 41)
        · rw [if_pos h1] at h; cases h
        · rw [if_neg h1] at h
          injection h with h
          injection h with _ h
          subst h
          refine ⟨Nat.le_refl _, ha, fun _ => ⟨hlt, fun h2 h3 => ?_⟩⟩
          rcases Nat.lt_or_ge (a + 1) c.s.length with h4 | h4
          · exact h4
          · exact absurd ⟨h2, h3, .inl (by omega)⟩ h1
      · rw [if_neg he] at h
        by_cases ht : l = [] ∧ tilde c a = true
        · rw [if_pos ht] at h
          have := run_good f c _ (a + 1) dep ps j (by omega) h
          exact ⟨by omega, this.2⟩
        · rw [if_neg ht] at h
          cases hp : part (nest f) c a with
          | none => rw [hp] at h; cases h
          | some r =>
            obtain ⟨xs, k⟩ := r
            rw [hp] at h
            have g := part_good hN hlt hp
            have := run_good f c _ k _ ps j g.2 h
            exact ⟨by omega, this.2⟩
    · rw [if_neg hlt] at h
      by_cases h1 : c.pl = 0 ∧ c.op = false
      · rw [if_pos h1] at h
        injection h with h
        injection h with _ h
        subst h
        exact ⟨Nat.le_refl _, ha, fun h2 => absurd h1 h2⟩
      · rw [if_neg h1] at h; cases h
theorem nest_good (f : Nat) (s : Str) : GoodN s (nest f) := fun c' k ps e hc hp hk hn => by
  have := run_good f c' [] k 0 ps e (by rw [hc]; exact hk) hn
  rw [hc] at this
  exact ⟨this.1, (this.2.2 hp).1, (this.2.2 hp).2⟩
end RP
end Go.Proofs.YtcbdhheelddgeaaGreatDoor
namespace Go.Proofs.YtcbdhheelddgeaaGreatDoor
open Go.RowKit K
namespace W

/-- A number or nothing, as Go returns it. -/
def optInt (o : Option Int) : Ending := .returned (.tuple #[.int .i64 (o.getD 0), .bool o.isSome])
theorem optInt_none {o : Option Int} (h : o = none) : Ending.returned (.tuple #[.int .i64 0, .bool false]) = optInt o := by rw [h]; rfl
theorem optInt_some {o : Option Int} {n : Int} (h : o = some n) : Ending.returned (.tuple #[.int .i64 n, .bool true]) = optInt o := by rw [h]; rfl

theorem Digits_ref (l : List UInt8) (w : World) (hl : l.length ≤ 1000000000) :
    Calls Tryz.prog 182 #[.string ⟨l.toArray⟩] w fun e w' => e = optInt (P.digits l) ∧ w = w' := by
  by_cases h0 : l = []
  · subst h0
    go_enter Tryz.func182, Tryz.ntmps182
    go_wp2
    go_ret2
    exact ⟨rfl, rfl⟩
  have hpos : 0 < l.length := by cases l; simp at h0; simp
  have hne : l.isEmpty = false := by cases l; simp at h0; simp
  rcases Nat.lt_or_ge 10 l.length with h10 | h10
  · go_enter Tryz.func182, Tryz.ntmps182
    go_wp2
    go_ret2
    exact ⟨optInt_none (by simp [P.digits, h10]), rfl⟩
  obtain ⟨c, hc⟩ : ∃ c, bt l 0 = c := ⟨_, rfl⟩
  have HC := Lib.hid hc
  by_cases hz : c = 48 ∧ 1 < l.length
  · have hz1 : (bt l 0 == 48) = true := by rw [hc]; simp [hz.1]
    have hz2 : 1 < l.length := hz.2
    have HG : Hid (P.digits l = none) := by show P.digits l = none; unfold P.digits; rw [if_pos]; simp [hz1, hz2]
    clear hc hz
    go_enter Tryz.func182, Tryz.ntmps182
    go_wp2
    go_ret2
    exact ⟨optInt_none HG.out, rfl⟩
  have HG : Hid (P.digits l = P.rloop 0 l) := by
    show P.digits l = _
    unfold P.digits
    rw [if_neg]
    simp [hne, hc]
    omega
  have main : ∀ (b1 : Bool), (bt l 0 == 48) = b1 → (b1 = true → l.length ≤ 1) → ∀ (o : Option Int), o = P.digits l → Calls Tryz.prog 182 #[.string ⟨l.toArray⟩] w fun e w' => e = optInt o ∧ w = w' := by
    intro b1 e1 e2 o ho
    clear hz hc
    have HO := Lib.hid ho
    clear ho
    cases b1
    case' true =>
      have e3 := e2 rfl
      have e4 : ¬ (1 < (l.length : Int)) := by omega
    all_goals
        clear e2
        go_enter Tryz.func182, Tryz.ntmps182
        go_wp2
        go_loop [4, 5] (fun n i => ∃ (k : Nat) (m : Int), k ≤ l.length ∧ i = .int .i64 k ∧ n = .int .i64 m ∧ 0 ≤ m ∧ m + 1 ≤ P.bd k ∧ o = P.rloop m (l.drop k)) (fun _ i => l.length - (intOf i).toNat)
        case atStart => exact ⟨0, 0, by omega, rfl, rfl, by omega, by simp [P.bd], by rw [HO.out, HG.out]; rfl⟩
        case round =>
          obtain ⟨k, m, hk, rfl, rfl, hm0, hm1, hno⟩ := hrel
          have HN := Lib.hid hno
          clear hno
          have hbd := P.bd_le k (by omega)
          have hms := P.bd_step k m hm1
          have HM := Lib.hid hms
          clear hms
          by_cases hlt : k < l.length
          · obtain ⟨x, hx, hb, _⟩ := drop_cons l k hlt
            have hb0 := bt_nonneg l k
            have hb1 := bt_le l k
            have HX := Lib.hid hx
            have HB := Lib.hid hb
            clear hx hb
            by_cases hd : P.dg (bt l k) = true
            · have hd2 := (P.dg_iff _).1 hd
              go_wp2_with (go_at_call 109; refine (Digit_any _ _).mono ?_; rintro e w' ⟨rfl, rfl⟩)
              go_round
              case rel =>
                refine ⟨k + 1, 10 * m + (bt l k - 48), by omega, by go_num, by go_num, by omega, by have := HM.out (bt l k - 48) (by omega); omega, ?_⟩
                rw [HN.out, HX.out, P.rloop_yes HB.out.symm hd]
              case measure => simp [intOf]; omega
            · have hd' : P.dg (bt l k) = false := by simpa using hd
              clear hd
              go_wp2_with (go_at_call 109; refine (Digit_any _ _).mono ?_; rintro e w' ⟨rfl, rfl⟩)
              go_ret2
              exact ⟨optInt_none (by rw [HN.out, HX.out, P.rloop_no HB.out.symm hd']), rfl⟩
          · have HE : Hid (l.drop k = []) := List.drop_eq_nil_of_le (by omega)
            by_cases hb : 2147483647 < m
            · go_wp2
              go_ret2
              exact ⟨optInt_none (by rw [HN.out, HE.out]; simp [P.rloop, hb]), rfl⟩
            · go_wp2
              go_ret2
              exact ⟨optInt_some (by rw [HN.out, HE.out]; simp [P.rloop]; omega), rfl⟩
  refine main _ rfl ?_ _ rfl
  intro h; rw [hc] at h; simp at h; omega

end W
end Go.Proofs.YtcbdhheelddgeaaGreatDoor
namespace Go.Proofs.YtcbdhheelddgeaaGreatDoor
open Go.RowKit K
namespace RP
/-- The reference's places, as the program's place and operand. -/
def PlC (p : Int) (pl : Nat) (op : Bool) : Prop := (p = 0 ∧ pl = 0 ∧ op = false) ∨ (p = 1 ∧ pl = 0 ∧ op = true) ∨ (p = 2 ∧ pl = 1 ∧ op = false) ∨ (p = 3 ∧ pl = 1 ∧ op = true) ∨ (p = 4 ∧ pl = 2 ∧ op = false) ∨ (p = 6 ∧ pl = 2 ∧ op = true)
def quot (pl : Nat) : Int := if pl = 0 then 0 else if pl = 1 then 1 else 2
def inner (pl : Nat) : Int := if pl = 0 then 1 else if pl = 1 then 3 else 6
theorem quot_pl {p : Int} {pl : Nat} {op : Bool} (h : PlC p pl op) : LX.PL (quot pl) (marks pl).1 (marks pl).2 := by
  rcases h with ⟨_, rfl, _⟩ | ⟨_, rfl, _⟩ | ⟨_, rfl, _⟩ | ⟨_, rfl, _⟩ | ⟨_, rfl, _⟩ | ⟨_, rfl, _⟩
  · exact .inl ⟨rfl, rfl, rfl⟩
  · exact .inl ⟨rfl, rfl, rfl⟩
  · exact .inr (.inl ⟨rfl, rfl, rfl⟩)
  · exact .inr (.inl ⟨rfl, rfl, rfl⟩)
  · exact .inr (.inr ⟨rfl, rfl, rfl⟩)
  · exact .inr (.inr ⟨rfl, rfl, rfl⟩)
theorem inner_pl {p : Int} {pl : Nat} {op : Bool} (h : PlC p pl op) : PlC (inner pl) pl true := by
  rcases h with ⟨_, rfl, _⟩ | ⟨_, rfl, _⟩ | ⟨_, rfl, _⟩ | ⟨_, rfl, _⟩ | ⟨_, rfl, _⟩ | ⟨_, rfl, _⟩
  · exact .inr (.inl ⟨rfl, rfl, rfl⟩)
  · exact .inr (.inl ⟨rfl, rfl, rfl⟩)
  · exact .inr (.inr (.inr (.inl ⟨rfl, rfl, rfl⟩)))
  · exact .inr (.inr (.inr (.inl ⟨rfl, rfl, rfl⟩)))
  · exact .inr (.inr (.inr (.inr (.inr ⟨rfl, rfl, rfl⟩))))
  · exact .inr (.inr (.inr (.inr (.inr ⟨rfl, rfl, rfl⟩))))
end RP
namespace W
set_option maxRecDepth 100000
theorem rw_outside (p : Int) (pl : Nat) (op : Bool) (hp : RP.PlC p pl op) (w : World) : Calls Tryz.prog 147 #[.int .i64 p] w fun e w' => e = .returned (.bool (decide (pl = 0))) ∧ w = w' := by
  rcases hp with ⟨rfl, rfl, _⟩ | ⟨rfl, rfl, _⟩ | ⟨rfl, rfl, _⟩ | ⟨rfl, rfl, _⟩ | ⟨rfl, rfl, _⟩ | ⟨rfl, rfl, _⟩
  all_goals
    go_enter Tryz.func147, Tryz.ntmps147
    go_wp2
    go_ret
    exact ⟨rfl, rfl⟩
theorem rw_quotes (p : Int) (pl : Nat) (op : Bool) (hp : RP.PlC p pl op) (w : World) : Calls Tryz.prog 174 #[.int .i64 p] w fun e w' => e = .returned (.int .i64 (RP.quot pl)) ∧ w = w' := by
  rcases hp with ⟨rfl, rfl, _⟩ | ⟨rfl, rfl, _⟩ | ⟨rfl, rfl, _⟩ | ⟨rfl, rfl, _⟩ | ⟨rfl, rfl, _⟩ | ⟨rfl, rfl, _⟩
  all_goals
    go_enter Tryz.func174, Tryz.ntmps174
    go_wp2
    go_ret
    exact ⟨rfl, rfl⟩
theorem rw_within (p : Int) (pl : Nat) (op : Bool) (hp : RP.PlC p pl op) (w : World) : Calls Tryz.prog 181 #[.int .i64 p] w fun e w' => e = .returned (.int .i64 (RP.inner pl)) ∧ w = w' := by
  rcases hp with ⟨rfl, rfl, _⟩ | ⟨rfl, rfl, _⟩ | ⟨rfl, rfl, _⟩ | ⟨rfl, rfl, _⟩ | ⟨rfl, rfl, _⟩ | ⟨rfl, rfl, _⟩
  all_goals
    go_enter Tryz.func181, Tryz.ntmps181
    go_wp2
    go_ret
    exact ⟨rfl, rfl⟩
theorem rw_joined (s : List UInt8) (i : Nat) (w : World) (_hl : s.length ≤ 100000) (_hi : i ≤ 100001) : Calls Tryz.prog 148 #[.string ⟨s.toArray⟩, .int .i64 i] w fun e w' => e = .returned (.bool (LX.joins s i)) ∧ w = w' := by
  have HR := Lib.hid (@LX.joins_iff s i)
  by_cases h1 : i + 1 < s.length
  · have h1' : ((i : Int) + 1 < (s.length : Int)) = True := eq_true (by omega)
    by_cases h2 : bt s i = 92
    · by_cases h3 : bt s (i + 1) = 10
      · have HX := Lib.hid (HR.out.2 ⟨h2, h3, by omega⟩)
        go_enter Tryz.func148, Tryz.ntmps148
        go_wp2
        go_ret
        exact ⟨ret_bool (by rw [HX.out]), rfl⟩
      · have h3' := beq_f h3
        have HX := Lib.hid (show LX.joins s i = false by rw [Bool.eq_false_iff]; exact fun e => h3 (HR.out.1 e).2.1)
        go_enter Tryz.func148, Tryz.ntmps148
        go_wp2
        go_ret
        exact ⟨ret_bool (by rw [HX.out]), rfl⟩
    · have HX := Lib.hid (show LX.joins s i = false by rw [Bool.eq_false_iff]; exact fun e => h2 (HR.out.1 e).1)
      go_enter Tryz.func148, Tryz.ntmps148
      go_wp2
      all_goals go_ret
      all_goals exact ⟨ret_bool HX.out.symm, rfl⟩
  · have HX := Lib.hid (show LX.joins s i = false by rw [Bool.eq_false_iff]; exact fun e => h1 (by have := (HR.out.1 e).2.2; omega))
    have h1' : ((i : Int) + 1 < (s.length : Int)) = False := eq_false (by omega)
    go_enter Tryz.func148, Tryz.ntmps148
    go_wp2
    go_ret
    exact ⟨ret_bool HX.out.symm, rfl⟩
theorem rw_escapes (c : Int) (p : Int) (pl : Nat) (op : Bool) (hp : RP.PlC p pl op) (h0 : ¬ pl = 0) (w : World) : Calls Tryz.prog 160 #[.int .u8 c, .int .i64 p] w fun e w' => e = .returned (.bool (WP.escapes pl c op)) ∧ w = w' := by
  have h0' := decide_eq_true (p := ¬ pl = 0) h0
  have H0 := Lib.hid h0'
  rcases hp with ⟨rfl, rfl, _⟩ | ⟨rfl, rfl, _⟩ | ⟨rfl, rfl, rfl⟩ | ⟨rfl, rfl, rfl⟩ | ⟨rfl, rfl, rfl⟩ | ⟨rfl, rfl, rfl⟩
  · exact absurd rfl h0
  · exact absurd rfl h0
  all_goals
    clear h0 h0' H0
    by_cases h1 : c = 36
    · subst h1
      go_enter Tryz.func160, Tryz.ntmps160
      go_wp2
      go_ret
      exact ⟨rfl, rfl⟩
    have e1 := beq_f h1
    by_cases h2 : c = 96
    · subst h2
      go_enter Tryz.func160, Tryz.ntmps160
      go_wp2
      go_ret
      exact ⟨rfl, rfl⟩
    have e2 := beq_f h2
    by_cases h3 : c = 92
    · subst h3
      go_enter Tryz.func160, Tryz.ntmps160
      go_wp2
      go_ret
      exact ⟨rfl, rfl⟩
    have e3 := beq_f h3
    by_cases h4 : c = 34
    · subst h4
      go_enter Tryz.func160, Tryz.ntmps160
      go_wp2
      go_ret
      exact ⟨rfl, rfl⟩
    have e4 := beq_f h4
    by_cases h5 : c = 125
    · subst h5
      go_enter Tryz.func160, Tryz.ntmps160
      go_wp2
      go_ret
      exact ⟨rfl, rfl⟩
    have e5 := beq_f h5
    have HE := Lib.hid (show ∀ pl op, WP.escapes pl c op = false from fun pl op => by
      unfold WP.escapes
      rw [if_neg (by rintro (h | h | h); exact h1 h; exact h2 h; exact h3 h), if_neg h4, if_neg h5])
    go_enter Tryz.func160, Tryz.ntmps160
    go_wp2
    go_ret
    exact ⟨ret_bool (HE.out _ _).symm, rfl⟩
theorem rw_ends (c : WP.Ctx) (a dep : Nat) (p : Int) (hp : RP.PlC p c.pl c.op) (w : World) (hl : c.s.length ≤ 100000) (ha : a < c.s.length) : Calls Tryz.prog 128 #[.string ⟨c.s.toArray⟩, .int .i64 a, .int .i64 p, .int .i64 dep] w fun e w' => e = .returned (.bool (RP.ends c a dep)) ∧ w = w' := by
  obtain ⟨s, pl, op, lv, opn⟩ := c
  dsimp only at *
  have h0 : ((a : Int) < (s.length : Int)) = True := eq_true (by omega)
  rcases hp with ⟨rfl, rfl, rfl⟩ | ⟨rfl, rfl, rfl⟩ | ⟨rfl, rfl, rfl⟩ | ⟨rfl, rfl, rfl⟩ | ⟨rfl, rfl, rfl⟩ | ⟨rfl, rfl, rfl⟩
  · go_enter Tryz.func128, Tryz.ntmps128
    go_wp2
    go_ret
    exact ⟨rfl, rfl⟩
  · have HX := Lib.hid (show RP.ends ⟨s, 0, true, lv, opn⟩ a dep = (bt s a == 125) by rw [Bool.eq_iff_iff]; simp [RP.ends])
    go_enter Tryz.func128, Tryz.ntmps128
    go_wp2
    go_ret
    exact ⟨ret_bool HX.out.symm, rfl⟩
  · have HX := Lib.hid (show RP.ends ⟨s, 1, false, lv, opn⟩ a dep = (bt s a == 34) by rw [Bool.eq_iff_iff]; simp [RP.ends])
    go_enter Tryz.func128, Tryz.ntmps128
    go_wp2
    go_ret
    exact ⟨ret_bool HX.out.symm, rfl⟩
  · have HX := Lib.hid (show RP.ends ⟨s, 1, true, lv, opn⟩ a dep = (bt s a == 125) by rw [Bool.eq_iff_iff]; simp [RP.ends])
    go_enter Tryz.func128, Tryz.ntmps128
    go_wp2
    go_ret
    exact ⟨ret_bool HX.out.symm, rfl⟩
  · have HX := Lib.hid (show RP.ends ⟨s, 2, false, lv, opn⟩ a dep = decide (bt s a = 41 ∧ dep = 0) by rw [Bool.eq_iff_iff]; simp [RP.ends])
    by_cases h41 : bt s a = 41
    · by_cases hd : dep = 0
      · subst hd
        have HY := Lib.hid (show decide (bt s a = 41 ∧ 0 = 0) = true from decide_eq_true ⟨h41, rfl⟩)
        go_enter Tryz.func128, Tryz.ntmps128
        go_wp2
        go_ret
        exact ⟨ret_bool (by rw [HX.out, HY.out]), rfl⟩
      · have HY := Lib.hid (show decide (bt s a = 41 ∧ dep = 0) = false from decide_eq_false fun h => hd h.2)
        have hd' : ((dep : Int) == 0) = false := by rw [beq_eq_false_iff_ne]; omega
        have hd2 : (dep == 0) = false := by rw [beq_eq_false_iff_ne]; exact hd
        go_enter Tryz.func128, Tryz.ntmps128
        go_wp2
        go_ret
        exact ⟨ret_bool (by rw [HX.out, HY.out]), rfl⟩
    · have HY := Lib.hid (show decide (bt s a = 41 ∧ dep = 0) = false from decide_eq_false fun h => h41 h.1)
      have e41 := beq_f h41
      go_enter Tryz.func128, Tryz.ntmps128
      go_wp2
      go_ret
      exact ⟨ret_bool (by rw [HX.out, HY.out]), rfl⟩
  · have HX := Lib.hid (show RP.ends ⟨s, 2, true, lv, opn⟩ a dep = (bt s a == 125) by rw [Bool.eq_iff_iff]; simp [RP.ends])
    go_enter Tryz.func128, Tryz.ntmps128
    go_wp2
    go_ret
    exact ⟨ret_bool HX.out.symm, rfl⟩
end W
end Go.Proofs.YtcbdhheelddgeaaGreatDoor
namespace Go.Proofs.YtcbdhheelddgeaaGreatDoor
open Go.RowKit K
namespace RP
theorem over_far : ∀ (f g : Nat) (s : List UInt8) (i : Nat), s.length - i + 1 ≤ f → s.length - i + 1 ≤ g → over f s i = over g s i
  | 0, g, s, i, h, _ => absurd h (by omega)
  | f + 1, 0, s, i, _, h => absurd h (by omega)
  | f + 1, g + 1, s, i, h1, h2 => by
    rw [over, over]
    by_cases h : LX.joins s i = true
    · rw [if_pos h, if_pos h]
      have := (LX.joins_iff.1 h).2.2
      exact over_far f g s (i + 2) (by omega) (by omega)
    · rw [if_neg h, if_neg h]
theorem over_ge : ∀ (f : Nat) (s : List UInt8) (i : Nat), i ≤ over f s i
  | 0, _, _ => Nat.le_refl _
  | f + 1, s, i => by
    rw [over]
    split
    · exact Nat.le_trans (by omega) (over_ge f s (i + 2))
    · exact Nat.le_refl _
end RP
namespace W
set_option maxRecDepth 100000
set_option maxHeartbeats 1000000 in
theorem rw_tilde (c : WP.Ctx) (a : Nat) (p : Int) (hp : RP.PlC p c.pl c.op) (w : World) (hl : c.s.length ≤ 100000) (ha : a < c.s.length) : Calls Tryz.prog 130 #[.string ⟨c.s.toArray⟩, .int .i64 a, .int .i64 p] w fun e w' => e = .returned (.bool (RP.tilde c a)) ∧ w = w' := by
  obtain ⟨s, pl, op, lv, opn⟩ := c
  dsimp only at *
  have h0 : ((s.length : Int) ≤ (a : Int)) = False := eq_false (by omega)
  have HO := Lib.hid (fun v => rw_outside p pl op hp v)
  by_cases hpl : pl = 0
  · have H1 := Lib.hid (show (p == 1) = op by rcases hp with ⟨rfl, _, rfl⟩ | ⟨rfl, _, rfl⟩ | ⟨_, rfl, _⟩ | ⟨_, rfl, _⟩ | ⟨_, rfl, _⟩ | ⟨_, rfl, _⟩; rfl; rfl; all_goals cases hpl)
    rw [decide_eq_true hpl] at HO
    by_cases h126 : bt s a = 126
    · have HR := Lib.hid (show RP.tilde ⟨s, pl, op, lv, opn⟩ a = (decide (s.length ≤ RP.over (s.length + 1) s (a + 1)) || decide (bt s (RP.over (s.length + 1) s (a + 1)) = 47) || (op && decide (bt s (RP.over (s.length + 1) s (a + 1)) = 125))) by
        unfold RP.tilde; dsimp only; rw [decide_eq_true hpl, decide_eq_true h126]; rfl)
      obtain ⟨o, ho⟩ : ∃ o, RP.over (s.length + 1) s (a + 1) = o := ⟨_, rfl⟩
      rw [ho] at HR
      have HV := Lib.hid ho
      have h1 := H1.out
      clear ho hp H1 hpl
      have e126 : (bt s a == 126) = true := by rw [beq_iff_eq]; exact h126
      have n126 : (bt s a != 126) = false := by rw [bne, e126]; rfl
      go_enter Tryz.func130, Tryz.ntmps130
      go_wp2_with (go_at_call 147; refine (HO.out _).mono ?_; rintro e w' ⟨rfl, rfl⟩)
      go_loop [7] (fun v => ∃ i g : Nat, v = .int .i64 i ∧ i ≤ s.length + 1 ∧ Hid (s.length - i + 1 ≤ g ∧ RP.over g s i = o)) (fun v => s.length + 1 - (intOf v).toNat)
      case atStart => exact ⟨a + 1, s.length + 1, by go_num, by omega, by omega, HV.out⟩
      case round =>
        obtain ⟨i, g, rfl, hi, HG⟩ := hrel
        obtain ⟨g, rfl⟩ : ∃ g', g = g' + 1 := ⟨g - 1, by have := HG.out; omega⟩
        have HE := HG.out.2
        rw [RP.over] at HE
        have HJ := Lib.hid (fun v => rw_joined s i v hl (by omega))
        cases hj : LX.joins s i with
        | true =>
          rw [if_pos hj] at HE
          rw [hj] at HJ
          have hj2 := (LX.joins_iff.1 hj).2.2
          replace HE := Lib.hid HE
          clear hj
          go_wp2_with (go_at_call 148; refine (HJ.out _).mono ?_; rintro e w' ⟨rfl, rfl⟩)
          go_round
          case rel => exact ⟨i + 2, g, by go_num, by omega, by have := HG.out.1; omega, HE.out⟩
          case measure => simp [intOf]; omega
        | false =>
          rw [if_neg (by rw [hj]; simp)] at HE
          subst HE
          rw [hj] at HJ
          clear hj
          by_cases hle : s.length ≤ i
          · have hle' : ((s.length : Int) ≤ (i : Int)) = True := eq_true (by omega)
            go_wp2_with (go_at_call 148; refine (HJ.out _).mono ?_; rintro e w' ⟨rfl, rfl⟩)
            all_goals
              go_ret
              exact ⟨ret_bool (by rw [HR.out, decide_eq_true hle]; rfl), rfl⟩
          · have hle' : ((s.length : Int) ≤ (i : Int)) = False := eq_false (by omega)
            by_cases h47 : bt s i = 47
            · go_wp2_with (go_at_call 148; refine (HJ.out _).mono ?_; rintro e w' ⟨rfl, rfl⟩)
              all_goals
                go_ret
                exact ⟨ret_bool (by rw [HR.out, decide_eq_true h47]; simp), rfl⟩
            · have e47 := beq_f h47
              cases op
              · go_wp2_with (go_at_call 148; refine (HJ.out _).mono ?_; rintro e w' ⟨rfl, rfl⟩)
                all_goals
                  go_ret
                  exact ⟨ret_bool (by rw [HR.out, decide_eq_false hle, decide_eq_false h47]; simp), rfl⟩
              · by_cases h125 : bt s i = 125
                · go_wp2_with (go_at_call 148; refine (HJ.out _).mono ?_; rintro e w' ⟨rfl, rfl⟩)
                  all_goals
                    go_ret
                    exact ⟨ret_bool (by rw [HR.out, decide_eq_true h125]; simp), rfl⟩
                · have e125 := beq_f h125
                  go_wp2_with (go_at_call 148; refine (HJ.out _).mono ?_; rintro e w' ⟨rfl, rfl⟩)
                  all_goals
                    go_ret
                    exact ⟨ret_bool (by rw [HR.out, decide_eq_false hle, decide_eq_false h47, decide_eq_false h125]; simp), rfl⟩
    · have HR := Lib.hid (show RP.tilde ⟨s, pl, op, lv, opn⟩ a = false by unfold RP.tilde; dsimp only; rw [decide_eq_false h126]; simp)
      have e126 := beq_f h126
      have n126 : (bt s a != 126) = true := by rw [bne, e126]; rfl
      clear hp H1 hpl
      go_enter Tryz.func130, Tryz.ntmps130
      go_wp2_with (go_at_call 147; refine (HO.out _).mono ?_; rintro e w' ⟨rfl, rfl⟩)
      go_ret
      exact ⟨ret_bool HR.out.symm, rfl⟩
  · rw [decide_eq_false hpl] at HO
    have HR := Lib.hid (show RP.tilde ⟨s, pl, op, lv, opn⟩ a = false by unfold RP.tilde; dsimp only; rw [decide_eq_false hpl]; simp)
    clear hp hpl
    go_enter Tryz.func130, Tryz.ntmps130
    go_wp2_with (go_at_call 147; refine (HO.out _).mono ?_; rintro e w' ⟨rfl, rfl⟩)
    go_ret
    exact ⟨ret_bool HR.out.symm, rfl⟩
def Trip (r : Nat × Bool × Nat) : Ending := .returned (.tuple #[.int .i64 r.1, .bool r.2.1, .int .i64 r.2.2])
theorem trip {r : Nat × Bool × Nat} {a : Nat} {b : Bool} {n : Nat} {x y : Int} (h : r = (a, b, n)) (hx : x = (a : Int)) (hy : y = (n : Int)) : Ending.returned (.tuple #[.int .i64 x, .bool b, .int .i64 y]) = Trip r := by subst h hx hy; rfl
set_option maxHeartbeats 2000000 in
theorem rw_operator (s : List UInt8) (a : Nat) (w : World) (hl : s.length ≤ 100000) (ha : a < s.length) : Calls Tryz.prog 180 #[.string ⟨s.toArray⟩, .int .i64 a] w fun e w' => e = Trip (RP.oper s a) ∧ w = w' := by
  have h0 : ((a : Int) < (s.length : Int)) = True := eq_true (by omega)
  by_cases h58 : bt s a = 58
  · have HR := Lib.hid (show RP.oper s a = if s.length ≤ a + 1 then (0, false, 0) else RP.oper2 s (a + 1) true 2 by unfold RP.oper; rw [if_pos h58])
    by_cases hle : s.length ≤ a + 1
    · have hle' : ((s.length : Int) ≤ (a : Int) + 1) = True := eq_true (by omega)
      go_enter Tryz.func180, Tryz.ntmps180
      go_wp2
      exact bodyPost_ret (v := .tuple #[.int .i64 0, .bool false, .int .i64 0]) (by simp [results, Tryz.results180, go_sem]) rfl ⟨trip (by rw [HR.out, if_pos hle]) rfl rfl, rfl⟩
    · have hle' : ((s.length : Int) ≤ (a : Int) + 1) = False := eq_false (by omega)
      have HQ := Lib.hid (show RP.oper s a = RP.oper2 s (a + 1) true 2 by rw [HR.out, if_neg hle])
      have HU := Lib.hid (show RP.oper2 s (a + 1) true 2 = if bt s (a + 1) = 45 then (1, true, 2) else if bt s (a + 1) = 61 then (2, true, 2) else if bt s (a + 1) = 63 then (3, true, 2) else if bt s (a + 1) = 43 then (4, true, 2) else (0, false, 0) from rfl)
      clear HR
      by_cases h1 : bt s (a + 1) = 45
      · go_enter Tryz.func180, Tryz.ntmps180
        go_wp2
        exact bodyPost_ret (v := .tuple #[.int .i64 1, .bool true, .int .i64 2]) (by simp [results, Tryz.results180, go_sem]; omega) rfl ⟨trip (by rw [HQ.out, HU.out, if_pos h1]) rfl rfl, rfl⟩
      have e1 := beq_f h1
      by_cases h2 : bt s (a + 1) = 61
      · go_enter Tryz.func180, Tryz.ntmps180
        go_wp2
        exact bodyPost_ret (v := .tuple #[.int .i64 2, .bool true, .int .i64 2]) (by simp [results, Tryz.results180, go_sem]; omega) rfl ⟨trip (by rw [HQ.out, HU.out, if_neg h1, if_pos h2]) rfl rfl, rfl⟩
      have e2 := beq_f h2
      by_cases h3 : bt s (a + 1) = 63
      · go_enter Tryz.func180, Tryz.ntmps180
        go_wp2
        exact bodyPost_ret (v := .tuple #[.int .i64 3, .bool true, .int .i64 2]) (by simp [results, Tryz.results180, go_sem]; omega) rfl ⟨trip (by rw [HQ.out, HU.out, if_neg h1, if_neg h2, if_pos h3]) rfl rfl, rfl⟩
      have e3 := beq_f h3
      by_cases h4 : bt s (a + 1) = 43
      · go_enter Tryz.func180, Tryz.ntmps180
        go_wp2
        exact bodyPost_ret (v := .tuple #[.int .i64 4, .bool true, .int .i64 2]) (by simp [results, Tryz.results180, go_sem]; omega) rfl ⟨trip (by rw [HQ.out, HU.out, if_neg h1, if_neg h2, if_neg h3, if_pos h4]) rfl rfl, rfl⟩
      have e4 := beq_f h4
      go_enter Tryz.func180, Tryz.ntmps180
      go_wp2
      exact bodyPost_ret (v := .tuple #[.int .i64 0, .bool false, .int .i64 0]) (by simp [results, Tryz.results180, go_sem]) rfl ⟨trip (by rw [HQ.out, HU.out, if_neg h1, if_neg h2, if_neg h3, if_neg h4]) rfl rfl, rfl⟩
  have e58 := beq_f h58
  have h0' : ((s.length : Int) ≤ (a : Int)) = False := eq_false (by omega)
  have HU := Lib.hid (show RP.oper s a = if bt s a = 45 then (1, false, 1) else if bt s a = 61 then (2, false, 1) else if bt s a = 63 then (3, false, 1) else if bt s a = 43 then (4, false, 1) else if bt s a = 37 ∧ a + 1 < s.length ∧ bt s (a + 1) = 37 then (7, false, 2)
      else if bt s a = 37 then (6, false, 1) else if bt s a = 35 ∧ a + 1 < s.length ∧ bt s (a + 1) = 35 then (9, false, 2) else if bt s a = 35 then (8, false, 1) else (0, false, 0) by unfold RP.oper; rw [if_neg h58]; rfl)
  by_cases h1 : bt s a = 45
  · go_enter Tryz.func180, Tryz.ntmps180
    go_wp2
    exact bodyPost_ret (v := .tuple #[.int .i64 1, .bool false, .int .i64 1]) (by simp [results, Tryz.results180, go_sem]) rfl ⟨trip (by rw [HU.out, if_pos h1]) rfl rfl, rfl⟩
  have e1 := beq_f h1
  by_cases h2 : bt s a = 61
  · go_enter Tryz.func180, Tryz.ntmps180
    go_wp2
    exact bodyPost_ret (v := .tuple #[.int .i64 2, .bool false, .int .i64 1]) (by simp [results, Tryz.results180, go_sem]) rfl ⟨trip (by rw [HU.out, if_neg h1, if_pos h2]) rfl rfl, rfl⟩
  have e2 := beq_f h2
  by_cases h3 : bt s a = 63
  · go_enter Tryz.func180, Tryz.ntmps180
    go_wp2
    exact bodyPost_ret (v := .tuple #[.int .i64 3, .bool false, .int .i64 1]) (by simp [results, Tryz.results180, go_sem]) rfl ⟨trip (by rw [HU.out, if_neg h1, if_neg h2, if_pos h3]) rfl rfl, rfl⟩
  have e3 := beq_f h3
  by_cases h4 : bt s a = 43
  · go_enter Tryz.func180, Tryz.ntmps180
    go_wp2
    exact bodyPost_ret (v := .tuple #[.int .i64 4, .bool false, .int .i64 1]) (by simp [results, Tryz.results180, go_sem]) rfl ⟨trip (by rw [HU.out, if_neg h1, if_neg h2, if_neg h3, if_pos h4]) rfl rfl, rfl⟩
  have e4 := beq_f h4
  replace HU := Lib.hid (show RP.oper s a = if bt s a = 37 ∧ a + 1 < s.length ∧ bt s (a + 1) = 37 then (7, false, 2)
      else if bt s a = 37 then (6, false, 1) else if bt s a = 35 ∧ a + 1 < s.length ∧ bt s (a + 1) = 35 then (9, false, 2) else if bt s a = 35 then (8, false, 1) else (0, false, 0) by rw [HU.out, if_neg h1, if_neg h2, if_neg h3, if_neg h4])
  by_cases h5 : bt s a = 37
  · by_cases h6 : a + 1 < s.length
    · have h6' : ((a : Int) + 1 < (s.length : Int)) = True := eq_true (by omega)
      by_cases h7 : bt s (a + 1) = 37
      · go_enter Tryz.func180, Tryz.ntmps180
        go_wp2
        exact bodyPost_ret (v := .tuple #[.int .i64 7, .bool false, .int .i64 2]) (by simp [results, Tryz.results180, go_sem]) rfl ⟨trip (by rw [HU.out, if_pos ⟨h5, h6, h7⟩]) rfl rfl, rfl⟩
      · have e7 := beq_f h7
        go_enter Tryz.func180, Tryz.ntmps180
        go_wp2
        exact bodyPost_ret (v := .tuple #[.int .i64 6, .bool false, .int .i64 1]) (by simp [results, Tryz.results180, go_sem]) rfl ⟨trip (by rw [HU.out, if_neg (fun e => h7 e.2.2), if_pos h5]) rfl rfl, rfl⟩
    · have h6' : ((a : Int) + 1 < (s.length : Int)) = False := eq_false (by omega)
      go_enter Tryz.func180, Tryz.ntmps180
      go_wp2
      exact bodyPost_ret (v := .tuple #[.int .i64 6, .bool false, .int .i64 1]) (by simp [results, Tryz.results180, go_sem]) rfl ⟨trip (by rw [HU.out, if_neg (fun e => h6 e.2.1), if_pos h5]) rfl rfl, rfl⟩
  have e5 := beq_f h5
  by_cases h8 : bt s a = 35
  · by_cases h6 : a + 1 < s.length
    · have h6' : ((a : Int) + 1 < (s.length : Int)) = True := eq_true (by omega)
      by_cases h7 : bt s (a + 1) = 35
      · go_enter Tryz.func180, Tryz.ntmps180
        go_wp2
        exact bodyPost_ret (v := .tuple #[.int .i64 9, .bool false, .int .i64 2]) (by simp [results, Tryz.results180, go_sem]) rfl ⟨trip (by rw [HU.out, if_neg (fun e => h5 e.1), if_neg h5, if_pos ⟨h8, h6, h7⟩]) rfl rfl, rfl⟩
      · have e7 := beq_f h7
        go_enter Tryz.func180, Tryz.ntmps180
        go_wp2
        exact bodyPost_ret (v := .tuple #[.int .i64 8, .bool false, .int .i64 1]) (by simp [results, Tryz.results180, go_sem]) rfl ⟨trip (by rw [HU.out, if_neg (fun e => h5 e.1), if_neg h5, if_neg (fun e => h7 e.2.2), if_pos h8]) rfl rfl, rfl⟩
    · have h6' : ((a : Int) + 1 < (s.length : Int)) = False := eq_false (by omega)
      go_enter Tryz.func180, Tryz.ntmps180
      go_wp2
      exact bodyPost_ret (v := .tuple #[.int .i64 8, .bool false, .int .i64 1]) (by simp [results, Tryz.results180, go_sem]) rfl ⟨trip (by rw [HU.out, if_neg (fun e => h5 e.1), if_neg h5, if_neg (fun e => h6 e.2.1), if_pos h8]) rfl rfl, rfl⟩
  have e8 := beq_f h8
  go_enter Tryz.func180, Tryz.ntmps180
  go_wp2
  exact bodyPost_ret (v := .tuple #[.int .i64 0, .bool false, .int .i64 0]) (by simp [results, Tryz.results180, go_sem]) rfl ⟨trip (by rw [HU.out, if_neg (fun e => h5 e.1), if_neg h5, if_neg (fun e => h8 e.1), if_neg h8]) rfl rfl, rfl⟩
set_option maxHeartbeats 1000000 in
theorem rw_param (s : List UInt8) (a : Nat) (w : World) (hl : s.length ≤ 100000) (_ha : a ≤ 100001) : Calls Tryz.prog 179 #[.string ⟨s.toArray⟩, .int .i64 a] w fun e w' => e = .returned (.int .i64 (RP.param s a)) ∧ w = w' := by
  by_cases h1 : s.length ≤ a
  · have h1' : ((s.length : Int) ≤ (a : Int)) = True := eq_true (by omega)
    have HR := Lib.hid (show RP.param s a = a by unfold RP.param; rw [if_pos h1])
    go_enter Tryz.func179, Tryz.ntmps179
    go_wp2
    go_ret
    exact ⟨ret_int (by rw [HR.out]), rfl⟩
  have h1' : ((s.length : Int) ≤ (a : Int)) = False := eq_false (by omega)
  have HR := Lib.hid (show RP.param s a = if P.dg (bt s a) = true then RP.digEnd (s.length + 1) s a (a + 1) else if P.wd (bt s a) = true then LX.nameEnd s a else if LX.spec (bt s a) = true then a + 1 else a by unfold RP.param; rw [if_neg h1])
  have HD := Lib.hid (fun k v => Digit_any (bt s k) v)
  have HW := Lib.hid (fun v => Word_any (bt s a) v)
  have HS := Lib.hid (fun v => show Calls Tryz.prog 142 #[.int .u8 (bt s a)] v (fun e w' => e = .returned (.bool (LX.spec (bt s a))) ∧ v = w') from rx_special (bt s a) v)
  have HN := Lib.hid (fun v => rx_name s a v (by omega) hl)
  obtain ⟨b1, hb1⟩ : ∃ b, P.dg (bt s a) = b := ⟨_, rfl⟩
  obtain ⟨b2, hb2⟩ : ∃ b, P.wd (bt s a) = b := ⟨_, rfl⟩
  obtain ⟨b3, hb3⟩ : ∃ b, LX.spec (bt s a) = b := ⟨_, rfl⟩
  have HD1 := Lib.hid (fun v => HD.out a v)
  rw [hb1] at HR HD1
  rw [hb2] at HR HW
  rw [hb3] at HR HS
  clear hb1 hb2 hb3
  cases b1
  · cases b2
    · cases b3
      · go_enter Tryz.func179, Tryz.ntmps179
        go_wp2_with (first | (go_at_call 109; refine (HD1.out _).mono ?_; rintro e w' ⟨rfl, rfl⟩) | (go_at_call 101; refine (HW.out _).mono ?_; rintro e w' ⟨rfl, rfl⟩) | (go_at_call 142; refine (HS.out _).mono ?_; rintro e w' ⟨rfl, rfl⟩))
        go_ret
        exact ⟨ret_int (by rw [HR.out]; rfl), rfl⟩
      · go_enter Tryz.func179, Tryz.ntmps179
        go_wp2_with (first | (go_at_call 109; refine (HD1.out _).mono ?_; rintro e w' ⟨rfl, rfl⟩) | (go_at_call 101; refine (HW.out _).mono ?_; rintro e w' ⟨rfl, rfl⟩) | (go_at_call 142; refine (HS.out _).mono ?_; rintro e w' ⟨rfl, rfl⟩))
        go_ret
        exact ⟨ret_int (by rw [HR.out]; rfl), rfl⟩
    · go_enter Tryz.func179, Tryz.ntmps179
      go_wp2_with (first | (go_at_call 109; refine (HD1.out _).mono ?_; rintro e w' ⟨rfl, rfl⟩) | (go_at_call 101; refine (HW.out _).mono ?_; rintro e w' ⟨rfl, rfl⟩) | (go_at_call 146; refine (HN.out _).mono ?_; rintro e w' ⟨rfl, rfl⟩))
      go_ret
      exact ⟨ret_int (by rw [HR.out]; rfl), rfl⟩
  · obtain ⟨o, ho⟩ : ∃ o, RP.digEnd (s.length + 1) s a (a + 1) = o := ⟨_, rfl⟩
    have HV := Lib.hid ho
    replace HR := Lib.hid (show RP.param s a = o by rw [HR.out, ← ho]; rfl)
    have HG := Lib.hid (fun e v => Digits_ref (cut s a e) v (by have := cut_length s a e; omega))
    clear ho
    go_enter Tryz.func179, Tryz.ntmps179
    go_wp2_with (go_at_call 109; refine (HD1.out _).mono ?_; rintro e w' ⟨rfl, rfl⟩)
    go_loop [5] (fun v => ∃ i g : Nat, v = .int .i64 i ∧ a < i ∧ i ≤ s.length ∧ Hid (s.length - i + 1 ≤ g ∧ RP.digEnd g s a i = o)) (fun v => s.length - (intOf v).toNat)
    case atStart => exact ⟨a + 1, s.length + 1, by go_num, by omega, by omega, by omega, HV.out⟩
    case round =>
      obtain ⟨i, g, rfl, hi0, hi, HGG⟩ := hrel
      obtain ⟨g, rfl⟩ : ∃ g', g = g' + 1 := ⟨g - 1, by have := HGG.out; omega⟩
      have HE := HGG.out.2
      rw [RP.digEnd] at HE
      have HDi := Lib.hid (fun v => HD.out i v)
      by_cases hlt : i < s.length
      · cases hd : P.dg (bt s i) with
        | false =>
          rw [if_neg (by rw [hd]; simp)] at HE
          subst HE
          rw [hd] at HDi
          clear hd
          go_wp2_with (go_at_call 109; refine (HDi.out _).mono ?_; rintro e w' ⟨rfl, rfl⟩)
          go_ret
          exact ⟨ret_int (by rw [HR.out]), rfl⟩
        | true =>
          rw [if_pos ⟨hlt, hd⟩] at HE
          rw [hd] at HDi
          have h2 : ((i : Int) + 1 ≤ (s.length : Int)) = True := eq_true (by omega)
          clear hd
          cases hq : P.digits (cut s a (i + 1)) with
          | none =>
            rw [if_pos hq] at HE
            subst HE
            have HGi := Lib.hid (fun v => show Calls Tryz.prog 182 #[.string ⟨(cut s a (i + 1)).toArray⟩] v (fun e w' => e = .returned (.tuple #[.int .i64 0, .bool false]) ∧ v = w') from by
              have := HG.out (i + 1) v
              rw [hq] at this
              exact this)
            clear hq
            go_wp2_with (first | (go_at_call 109; refine (HDi.out _).mono ?_; rintro e w' ⟨rfl, rfl⟩) | (go_at_call 182; refine (HGi.out _).mono ?_; rintro e w' ⟨rfl, rfl⟩))
            go_ret
            exact ⟨ret_int (by rw [HR.out]), rfl⟩
          | some q =>
            rw [if_neg (by rw [hq]; simp)] at HE
            have HGi := Lib.hid (fun v => show Calls Tryz.prog 182 #[.string ⟨(cut s a (i + 1)).toArray⟩] v (fun e w' => e = .returned (.tuple #[.int .i64 q, .bool true]) ∧ v = w') from by
              have := HG.out (i + 1) v
              rw [hq] at this
              exact this)
            replace HE := Lib.hid HE
            clear hq
            go_wp2_with (first | (go_at_call 109; refine (HDi.out _).mono ?_; rintro e w' ⟨rfl, rfl⟩) | (go_at_call 182; refine (HGi.out _).mono ?_; rintro e w' ⟨rfl, rfl⟩))
            go_round
            case rel => exact ⟨i + 1, g, by go_num, by omega, by omega, by have := HGG.out.1; omega, HE.out⟩
            case measure => simp [intOf]; omega
      · rw [if_neg (fun e => hlt e.1)] at HE
        subst HE
        go_wp2
        go_ret
        exact ⟨ret_int (by rw [HR.out]), rfl⟩
set_option maxHeartbeats 1000000 in
theorem rw_closed (t : List UInt8) (w : World) (hl : t.length ≤ 50000) : Calls Tryz.prog 161 #[.string ⟨t.toArray⟩] w fun e w' => e = .returned (.bool (RP.closed t)) ∧ w = w' := by
  obtain ⟨k, x, hkx⟩ : ∃ k x, RP.big (36 :: 40 :: (t ++ [41])) 0 false false = (k, x) := ⟨_, _, rfl⟩
  have HC := Lib.hid (fun v => Pass_any (36 :: 40 :: (t ++ [41])) 0 0 false false v k x (.inl ⟨rfl, rfl, rfl⟩) (by simp; omega) (by simp) hkx)
  have HS := Lib.hid (show RP.closed t = (decide (x = 0) && decide (k = t.length + 3) && decide (t = [] ∨ ¬ bt t 0 = 40)) by
    unfold RP.closed
    rw [hkx]
    congr 1
    rw [Bool.eq_iff_iff, decide_eq_true_eq, Bool.and_eq_true, decide_eq_true_eq, decide_eq_true_eq, Prod.mk.injEq]
    exact And.comm)
  clear hkx
  by_cases h0 : x = 0
  · subst h0
    by_cases hk : k = t.length + 3
    · have e1 : ((k : Int) == (t.length : Int) + 1 + 1 + 1) = true := by rw [beq_iff_eq]; omega
      have e2 : ((k : Int) == (t.length : Int) + 3) = true := by rw [beq_iff_eq]; omega
      by_cases ht : t = []
      · subst ht
        rw [show RP.closed [] = true by rw [HS.out, decide_eq_true hk]; rfl]
        subst hk
        clear HS
        go_enter Tryz.func161, Tryz.ntmps161
        go_wp2_with fail
        refine (HC.out _).mono ?_
        rintro e w1 ⟨rfl, rfl⟩
        go_wp2
        all_goals
          go_ret
          exact ⟨rfl, rfl⟩
      · have e3 : (t == []) = false := by rw [beq_eq_false_iff_ne]; exact ht
        have hpos := List.length_pos_iff.2 ht
        by_cases h40 : bt t 0 = 40
        · rw [show RP.closed t = false by rw [HS.out, decide_eq_false (p := t = [] ∨ ¬ bt t 0 = 40) (by rintro (h | h); exact ht h; exact h h40)]; simp]
          have e4 : (bt t 0 == 40) = true := by rw [beq_iff_eq]; exact h40
          have e5 : (bt t 0 != 40) = false := by rw [bne, e4]; rfl
          clear hk HS ht
          go_enter Tryz.func161, Tryz.ntmps161
          go_wp2_with fail
          refine (HC.out _).mono ?_
          rintro e w1 ⟨rfl, rfl⟩
          go_wp2
          all_goals
            go_ret
            exact ⟨rfl, rfl⟩
        · rw [show RP.closed t = true by rw [HS.out, decide_eq_true hk, decide_eq_true (p := t = [] ∨ ¬ bt t 0 = 40) (.inr h40)]; rfl]
          have e4 := beq_f h40
          have e5 : (bt t 0 != 40) = true := by rw [bne, e4]; rfl
          clear hk HS ht
          go_enter Tryz.func161, Tryz.ntmps161
          go_wp2_with fail
          refine (HC.out _).mono ?_
          rintro e w1 ⟨rfl, rfl⟩
          go_wp2
          all_goals
            go_ret
            exact ⟨rfl, rfl⟩
    · rw [show RP.closed t = false by rw [HS.out, decide_eq_false hk]; simp]
      have e1 : ((k : Int) == (t.length : Int) + 1 + 1 + 1) = false := by rw [beq_eq_false_iff_ne]; omega
      have e2 : ¬ (k : Int) = (t.length : Int) + 1 + 1 + 1 := by omega
      clear hk HS
      go_enter Tryz.func161, Tryz.ntmps161
      go_wp2_with fail
      refine (HC.out _).mono ?_
      rintro e w1 ⟨rfl, rfl⟩
      go_wp2
      all_goals
        go_ret
        exact ⟨rfl, rfl⟩
  · rw [show RP.closed t = false by rw [HS.out, decide_eq_false h0]; simp]
    have e1 := beq_f h0
    clear HS
    go_enter Tryz.func161, Tryz.ntmps161
    go_wp2_with fail
    refine (HC.out _).mono ?_
    rintro e w1 ⟨rfl, rfl⟩
    go_wp2
    all_goals
      go_ret
      exact ⟨rfl, rfl⟩
end W
end Go.Proofs.YtcbdhheelddgeaaGreatDoor
namespace Go.Proofs.YtcbdhheelddgeaaGreatDoor
open K
namespace RP
open WP (Part Ctx Str)
def PS (a : Nat) (R : Res) : Prop := ∀ xs k, R = some (xs, k) → xs.length ≤ 1 ∧ ∀ t o b ps, Part.mk 1 t o b ps ∈ xs → a + t.length ≤ k
theorem PS.none (a : Nat) : PS a none := fun _ _ h => by cases h
theorem PS.other {a kd o j : Nat} {t : Str} {b : Bool} {ps : List Part} (h : kd ≠ 1) : PS a (some ([.mk kd t o b ps], j)) := fun xs k e => by
  injection e with e
  injection e with e _
  subst e
  refine ⟨Nat.le_refl _, fun t o b ps hm => ?_⟩
  rw [List.mem_singleton] at hm
  injection hm with hm
  exact absurd hm.symm h
theorem PS.text {a j : Nat} {t : Str} (h : a + t.length ≤ j) : PS a (leaf 1 t j) := fun xs k e => by
  obtain ⟨h1, h2⟩ := leaf_eq e
  subst h1 h2
  refine ⟨Nat.le_refl _, fun t' o b ps hm => ?_⟩
  rw [List.mem_singleton] at hm
  injection hm with _ hm
  rw [hm]
  exact h
theorem PS.nil {a j : Nat} : PS a (some ([], j)) := fun xs k e => by
  injection e with e
  injection e with e _
  subst e
  exact ⟨Nat.zero_le _, fun _ _ _ _ hm => by cases hm⟩
theorem PS.leaf {a kd j : Nat} {t : Str} (h : kd ≠ 1) : PS a (leaf kd t j) := PS.other h
theorem backslash_ps (c : Ctx) (a : Nat) : PS a (backslash c a) := by
  unfold backslash
  split
  · exact PS.none a
  split
  · exact PS.nil
  split
  · exact PS.leaf (by decide)
  split
  · exact PS.text (by rw [cut_length]; omega)
  split
  · exact PS.none a
  · exact PS.text (by rw [cut_length]; omega)
theorem backquoted_ps (s : Str) (a : Nat) : PS a (backquoted s a) := by
  unfold backquoted command
  split
  · split
    · exact PS.leaf (by decide)
    · split
      · exact PS.leaf (by decide)
      · exact PS.none a
  · exact PS.none a
theorem braced3_ps (N : NestR) (c : Ctx) (a e : Nat) (o : Nat × Bool × Nat) : PS a (braced3 N c a e o) := by
  unfold braced3
  split
  · exact PS.none a
  split
  · exact PS.none a
  split
  · exact PS.none a
  split
  · exact PS.none a
  · exact PS.other (by decide)
theorem braced2_ps (N : NestR) (c : Ctx) (a e : Nat) : PS a (braced2 N c a e) := by
  unfold braced2
  split
  · exact PS.none a
  split
  · exact PS.none a
  split
  · exact PS.none a
  split
  · exact PS.leaf (by decide)
  · exact braced3_ps N c a e _
theorem braced_ps (N : NestR) (c : Ctx) (a : Nat) : PS a (braced N c a) := by
  unfold braced
  split
  · split
    · exact PS.none a
    split
    · exact PS.other (by decide)
    split
    · exact PS.none a
    · exact braced2_ps N c a _
  · exact braced2_ps N c a _
theorem expansion_ps (N : NestR) (c : Ctx) (a : Nat) : PS a (expansion N c a) := by
  unfold expansion
  split
  · exact braced_ps N c a
  split
  · split
    · exact PS.none a
    split
    · exact PS.none a
    · exact PS.other (by decide)
  split
  · split
    · exact PS.leaf (by decide)
    · exact PS.none a
  split
  · exact PS.leaf (by decide)
  split
  · exact PS.none a
  · exact PS.leaf (by decide)
theorem part_ps (N : NestR) (c : Ctx) (a : Nat) : PS a (part N c a) := by
  unfold part
  split
  · exact backslash_ps c a
  split
  · exact backquoted_ps c.s a
  split
  · unfold dollar
    split
    · exact expansion_ps N c a
    split
    · exact PS.none a
    · exact PS.text (by simp)
  split
  · unfold quoted
    split
    · split
      · exact PS.leaf (by decide)
      · exact PS.none a
    split
    · exact PS.none a
    split
    · exact PS.none a
    · exact PS.other (by decide)
  split
  · exact PS.none a
  split
  · exact PS.none a
  · exact PS.text (by rw [cut_length]; omega)
/-- The text that a further one would be joined to is no longer than what was read. -/
def T1 (l : List Part) (a : Nat) : Prop := ∀ u o b ps, l.getLast? = some (.mk 1 u o b ps) → u.length ≤ a
theorem T1.nil (a : Nat) : T1 [] a := fun _ _ _ _ e => by cases e
theorem withT_T1 {l : List Part} {t : Str} {a k : Nat} (h : T1 l a) (hk : a + t.length ≤ k) : T1 (withT l t) k ∧ (withT l t).length ≤ l.length + 1 := by
  unfold withT
  split
  · rename_i u o b ps hl
    have := h u o b ps hl
    refine ⟨fun u' o' b' ps' e => ?_, ?_⟩
    · rw [List.getLast?_concat] at e
      injection e with e
      injection e with _ e
      subst e
      rw [List.length_append]
      omega
    · rw [List.length_append, List.length_dropLast, List.length_singleton]
      omega
  · refine ⟨fun u' o' b' ps' e => ?_, by rw [List.length_append, List.length_singleton]; omega⟩
    rw [List.getLast?_concat] at e
    injection e with e
    injection e with _ e
    subst e
    omega
theorem app1_T1 {l : List Part} {p : Part} {a k : Nat} (h : T1 l a) (hk : ∀ t o b ps, p = .mk 1 t o b ps → a + t.length ≤ k) : T1 (app1 l p) k ∧ (app1 l p).length ≤ l.length + 1 := by
  obtain ⟨kd, t, o, b, ps⟩ := p
  unfold app1
  dsimp only
  by_cases h1 : kd = 1
  · rw [if_pos h1]
    exact withT_T1 h (hk t o b ps (by rw [h1]))
  · rw [if_neg h1]
    refine ⟨fun u' o' b' ps' e => ?_, by rw [List.length_append, List.length_singleton]; omega⟩
    rw [List.getLast?_concat] at e
    injection e with e
    injection e with e
    exact absurd e h1
theorem apps_T1 {l xs : List Part} {a k : Nat} (h : T1 l a) (hak : a ≤ k) (hx : xs.length ≤ 1) (hk : ∀ t o b ps, Part.mk 1 t o b ps ∈ xs → a + t.length ≤ k) : T1 (apps l xs) k ∧ (apps l xs).length ≤ l.length + 1 := by
  match xs, hx with
  | [], _ => exact ⟨fun u o b ps e => Nat.le_trans (h u o b ps e) hak, Nat.le_succ _⟩
  | [p], _ => exact app1_T1 h fun t o b ps e => hk t o b ps (by rw [e]; exact List.mem_singleton.2 rfl)
  | _ :: _ :: _, hx => simp at hx
end RP
end Go.Proofs.YtcbdhheelddgeaaGreatDoor
