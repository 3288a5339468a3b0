/- Chapter 8 in plain Lean: parts of any kind, and what Show, Literal, Quoted, Same and Params say of them. -/
import Derived.Test.YtijibooneochjaaP08q
namespace Go.Proofs.Ytijibooneochjaa
open K
namespace WP
/-- A part whatever its kind. -/
inductive GP where
  | mk (kind : Int) (text : Str) (op : Int) (colon : Bool) (parts : List GP)
mutual
def gp : Part → GP
  | .mk k t o c ps => .mk k t o c (gpL ps)
def gpL : List Part → List GP
  | [] => []
  | p :: r => gp p :: gpL r
end
theorem gpL_length : ∀ l : List Part, (gpL l).length = l.length
  | [] => rfl
  | p :: r => by rw [gpL, List.length_cons, List.length_cons, gpL_length r]
theorem gpL_append : ∀ a b : List Part, gpL (a ++ b) = gpL a ++ gpL b
  | [], b => rfl
  | p :: r, b => by rw [List.cons_append, gpL, gpL, gpL_append r b]; rfl
namespace GP
def kind : GP → Int | .mk k _ _ _ _ => k
def text : GP → Str | .mk _ t _ _ _ => t
def op : GP → Int | .mk _ _ o _ _ => o
def colon : GP → Bool | .mk _ _ _ c _ => c
def parts : GP → List GP | .mk _ _ _ _ ps => ps
end GP
def escT (pl : Nat) (op : Bool) : Str → Str
  | [] => []
  | x :: r => (if escapes pl x.toNat op = true then [92, x] else [x]) ++ escT pl op r
theorem escT_append (pl : Nat) (op : Bool) : ∀ a b : Str, escT pl op (a ++ b) = escT pl op a ++ escT pl op b
  | [], b => rfl
  | x :: r, b => by rw [List.cons_append, escT, escT, escT_append pl op r b, List.append_assoc]
theorem escT_len (pl : Nat) (op : Bool) : ∀ a : Str, (escT pl op a).length ≤ 2 * a.length
  | [] => Nat.le_refl _
  | x :: r => by
    have := escT_len pl op r
    rw [escT, List.length_append, List.length_cons]
    split <;> simp <;> omega
/-- Whether a parameter's name wants braces ahead of a byte. -/
def braces (t : Str) (nx : Int) : Bool := (LX.number t && decide (1 < t.length)) || (decide (t ≠ []) && (LX.starts (bt t 0) && (LX.starts nx || LX.digit nx)))
def symbol (o : Int) : Option Str :=
  if o = 1 then some [45] else if o = 2 then some [61] else if o = 3 then some [63] else if o = 4 then some [43] else if o = 6 then some [37] else if o = 7 then some [37, 37] else if o = 8 then some [35] else if o = 9 then some [35, 35] else none
def nextB : List GP → Int
  | .mk k (x :: _) _ _ _ :: _ => if k = 1 then x.toNat else 0
  | _ => 0
mutual
/-- What the writer writes for a part. -/
def outP (pl : Nat) (op : Bool) (nx : Int) : GP → Str
  | .mk k t o c ps =>
    if k = 7 then [126]
    else if k = 1 then escT pl op t
    else if k = 2 then (if t = [39] then [92, 39] else 39 :: (t ++ [39]))
    else if k = 3 then 34 :: (outL 1 false ps ++ [34])
    else if k = 5 then 36 :: 40 :: (t ++ [41])
    else if k = 6 then 36 :: 40 :: 40 :: (outL 2 false ps ++ [41, 41])
    else if k = 4 then
      (if o = 0 then (if braces t nx = true then 36 :: 123 :: (t ++ [125]) else 36 :: t)
      else if o = 5 then 36 :: 123 :: 35 :: (t ++ [125])
      else match symbol o with
        | none => []
        | some y => 36 :: 123 :: (t ++ ((if c = true then 58 :: y else y) ++ (outL pl true ps ++ [125]))))
    else []
def outL (pl : Nat) (op : Bool) : List GP → Str
  | [] => []
  | p :: r => outP pl op (nextB r) p ++ outL pl op r
end
mutual
/-- Whether the writer finds no source. -/
def badP : GP → Bool
  | .mk k _ o _ ps =>
    if k = 3 ∨ k = 6 then badL ps
    else if k = 4 then (if o = 0 ∨ o = 5 then false else if symbol o = none then true else badL ps)
    else decide (¬ (k = 7 ∨ k = 1 ∨ k = 2 ∨ k = 5))
def badL : List GP → Bool
  | [] => false
  | p :: r => badP p || badL r
end
mutual
/-- The number of parts, and the bytes of their texts. -/
def cntP : GP → Nat
  | .mk _ _ _ _ ps => 1 + cntL ps
def cntL : List GP → Nat
  | [] => 0
  | p :: r => cntP p + cntL r
end
mutual
def sizP : GP → Nat
  | .mk _ t _ _ ps => t.length + sizL ps
def sizL : List GP → Nat
  | [] => 0
  | p :: r => sizP p + sizL r
end
mutual
def sameP : GP → GP → Bool
  | .mk k t o c ps, .mk k' t' o' c' qs => decide (k = k' ∧ t = t' ∧ o = o' ∧ c = c') && sameL ps qs
def sameL : List GP → List GP → Bool
  | [], [] => true
  | p :: r, q :: s => sameP p q && sameL r s
  | _, _ => false
end
def glitIn : List GP → Option Str
  | [] => some []
  | p :: r => if p.kind = 1 then (glitIn r).map (p.text ++ ·) else none
def glit1 : GP → Option Str
  | .mk k t _ _ ps => if k = 1 ∨ k = 2 then some t else if k = 3 then glitIn ps else none
def glit : List GP → Option Str
  | [] => some []
  | p :: r => (glit1 p).bind fun a => (glit r).map (a ++ ·)
def isQ (k : Int) : Bool := decide (k = 2 ∨ k = 3)
def gquoted (l : List GP) : Bool := l.any fun p => isQ p.kind
mutual
/-- The texts of the parts of a kind, in order. -/
def txtP (K : Int) : GP → List Str
  | .mk k t _ _ ps => (if k = K then [t] else []) ++ txtL K ps
def txtL (K : Int) : List GP → List Str
  | [] => []
  | p :: r => txtP K p ++ txtL K r
end
/-- What valid says: the source, and whether Parse returns the parts for it. -/
def validG (l : List GP) : Str × Bool :=
  if badL l = true then ([], false)
  else (outL 0 false l, match parse (outL 0 false l) 0 with | .error _ => false | .ok ps => sameL l (gpL ps))
def showG (l : List GP) : Str × Int := if (validG l).2 = true then ((validG l).1, 0) else ([], 1)
theorem litIn_gp : ∀ l : List Part, glitIn (gpL l) = litIn l
  | [] => rfl
  | .mk k t o c ps :: r => by
    rw [gpL, gp, glitIn, litIn, litIn_gp r]
    show (if (k : Int) = 1 then _ else _) = _
    by_cases h : k = 1
    · rw [if_pos h, if_pos (by omega)]; rfl
    · rw [if_neg h, if_neg (by omega)]
theorem lit1_gp (p : Part) : glit1 (gp p) = lit1 p := by
  obtain ⟨k, t, o, c, ps⟩ := p
  rw [gp, glit1, lit1, litIn_gp]
  by_cases h : k = 1 ∨ k = 2
  · rw [if_pos h, if_pos (by omega)]
  · rw [if_neg h, if_neg (by omega)]
    by_cases h3 : k = 3
    · rw [if_pos h3, if_pos (by omega)]
    · rw [if_neg h3, if_neg (by omega)]
theorem lit_gp : ∀ l : List Part, glit (gpL l) = litA l
  | [] => rfl
  | p :: r => by rw [gpL, glit, litA, lit1_gp, lit_gp r]
theorem quoted_gp : ∀ l : List Part, gquoted (gpL l) = quotedB l
  | [] => rfl
  | p :: r => by
    have := quoted_gp r
    unfold gquoted quotedB at this ⊢
    rw [gpL, List.any_cons, List.any_cons, this]
    congr 1
    obtain ⟨k, t, o, c, ps⟩ := p
    rw [gp]
    show isQ (k : Int) = decide (k = 2 ∨ k = 3)
    unfold isQ
    exact decide_eq_decide.2 (by omega)
mutual
theorem sameP_refl : ∀ p : GP, sameP p p = true
  | .mk k t o c ps => by rw [sameP, sameL_refl ps]; simp
theorem sameL_refl : ∀ l : List GP, sameL l l = true
  | [] => by rw [sameL]
  | p :: r => by rw [sameL, sameP_refl p, sameL_refl r]; rfl
end
mutual
theorem sameP_eq : ∀ p q : GP, sameP p q = true → p = q
  | .mk k t o c ps, .mk k' t' o' c' qs, h => by
    rw [sameP, Bool.and_eq_true] at h
    obtain ⟨h1, h2, h3, h4⟩ := of_decide_eq_true h.1
    rw [h1, h2, h3, h4, sameL_eq ps qs h.2]
theorem sameL_eq : ∀ l m : List GP, sameL l m = true → l = m
  | [], [], _ => rfl
  | [], _ :: _, h => by rw [sameL] at h <;> first | cases h | simp
  | _ :: _, [], h => by rw [sameL] at h <;> first | cases h | simp
  | p :: r, q :: s, h => by
    rw [sameL, Bool.and_eq_true] at h
    rw [sameP_eq p q h.1, sameL_eq r s h.2]
end
theorem sameL_iff (l m : List GP) : sameL l m = true ↔ l = m := ⟨sameL_eq l m, fun h => h ▸ sameL_refl l⟩
theorem sameL_len : ∀ {l m : List GP}, l.length ≠ m.length → sameL l m = false := by
  intro l m h
  cases hs : sameL l m with
  | false => rfl
  | true => exact absurd (congrArg List.length (sameL_eq l m hs)) h
mutual
theorem outP_len (pl : Nat) (op : Bool) (nx : Int) : ∀ p : GP, (outP pl op nx p).length ≤ 2 * sizP p + 8 * cntP p
  | .mk k t o c ps => by
    have h1 := outL_len 1 false ps
    have h2 := outL_len 2 false ps
    have h3 := outL_len pl true ps
    have h4 := escT_len pl op t
    rw [outP, sizP, cntP]
    split
    · simp; omega
    split
    · omega
    split
    · split <;> simp <;> omega
    split
    · simp; omega
    split
    · simp; omega
    split
    · simp; omega
    split
    · split
      · split <;> simp <;> omega
      · split
        · simp; omega
        · cases hy : symbol o with
          | none => simp
          | some y =>
            have hyl : y.length ≤ 2 := by
              unfold symbol at hy
              repeat' split at hy
              all_goals first | (injection hy with hy; subst hy; simp) | cases hy
            dsimp only
            have : ((if c = true then 58 :: y else y) : Str).length ≤ 3 := by
              split
              · rw [List.length_cons]; omega
              · omega
            simp only [List.length_cons, List.length_append]
            simp only [List.length_nil]
            omega
    · simp
theorem outL_len (pl : Nat) (op : Bool) : ∀ l : List GP, (outL pl op l).length ≤ 2 * sizL l + 8 * cntL l
  | [] => by rw [outL]; simp
  | p :: r => by
    have h1 := outP_len pl op (nextB r) p
    have h2 := outL_len pl op r
    rw [outL, sizL, cntL, List.length_append]
    omega
end
end WP
end Go.Proofs.Ytijibooneochjaa
