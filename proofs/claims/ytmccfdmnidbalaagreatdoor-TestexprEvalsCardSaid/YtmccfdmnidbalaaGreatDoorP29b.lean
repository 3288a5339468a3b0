/- Chapter 29 in plain Lean: what Eval of testexpr computes. -/
import Derived.Test.YtmccfdmnidbalaaGreatDoorP29a
namespace Go.Proofs.YtmccfdmnidbalaaGreatDoor
open K
namespace P
abbrev Str := List UInt8
def isUn (s : Str) : Bool := s == [45, 101] || s == [45, 102] || s == [45, 100] || s == [45, 115] || s == [45, 110] || s == [45, 122]
def isBin (s : Str) : Bool := s == [61] || s == [33, 61] || s == [45, 101, 113] || s == [45, 110, 101] || s == [45, 108, 116] || s == [45, 108, 101] || s == [45, 103, 116] || s == [45, 103, 101]
def cmpV (op : Str) (m n : Int) : Bool :=
  if op = [45, 108, 116] then decide (m < n) else if op = [45, 103, 101] then decide (n ≤ m) else if op = [45, 103, 116] then decide (n < m)
  else if op = [45, 108, 101] then decide (m ≤ n) else if op = [45, 110, 101] then decide (m ≠ n) else decide (m = n)
def text? (op : Str) : Bool := op == [61] || op == [33, 61]
def binV (a op b : Str) : Bool :=
  if op = [61] then a == b else if op = [33, 61] then a != b else match intP a, intP b with
    | some m, some n => cmpV op m n
    | _, _ => false
def binI (a op b : Str) : Bool := !(text? op) && (decide (intP a = none) || decide (intP b = none))
/-- The value of a unary operator; F: whether the file is a directory, and its contents. -/
def unV (F : Str → Option (Bool × Str)) (op x : Str) : Bool :=
  if op = [45, 110] then x != [] else if op = [45, 122] then x == [] else match F x with
    | none => false
    | some (d, c) => if op = [45, 115] then c != [] && !d else if op = [45, 102] then !d else if op = [45, 100] then d else true
structure PR where
  v : Bool
  rest : List Str
  u : Bool
  i : Bool
mutual
def notP (F : Str → Option (Bool × Str)) : Nat → Bool → List Str → PR
  | 0, _, r => ⟨false, r, true, false⟩
  | _ + 1, _, [] => ⟨false, [], true, false⟩
  | f + 1, neg, a :: r =>
    if 2 ≤ r.length ∧ isBin (r.getD 0 []) = true then ⟨binV a (r.getD 0 []) (r.getD 1 []) != neg, r.drop 2, false, binI a (r.getD 0 []) (r.getD 1 [])⟩
    else if 1 ≤ r.length ∧ a = [33] then notP F f (!neg) r
    else if a = [40] then
      let q := orP F f r
      if q.rest.head? = some [41] then ⟨q.v != neg, q.rest.drop 1, q.u, q.i⟩ else ⟨q.v != neg, q.rest, true, q.i⟩
    else if 1 ≤ r.length ∧ isUn a = true then ⟨unV F a (r.getD 0 []) != neg, r.drop 1, false, false⟩
    else ⟨(a != []) != neg, r, false, false⟩
def andP (F : Str → Option (Bool × Str)) : Nat → List Str → PR
  | 0, r => ⟨false, r, true, false⟩
  | f + 1, r => andL F f (notP F f false r)
def andL (F : Str → Option (Bool × Str)) : Nat → PR → PR
  | 0, q => ⟨q.v, q.rest, true, q.i⟩
  | f + 1, q => if q.rest.head? = some [45, 97] then
      let p := notP F f false (q.rest.drop 1)
      andL F f ⟨q.v && p.v, p.rest, q.u || p.u, q.i || p.i⟩
    else q
def orP (F : Str → Option (Bool × Str)) : Nat → List Str → PR
  | 0, r => ⟨false, r, true, false⟩
  | f + 1, r => orL F f (andP F f r)
def orL (F : Str → Option (Bool × Str)) : Nat → PR → PR
  | 0, q => ⟨q.v, q.rest, true, q.i⟩
  | f + 1, q => if q.rest.head? = some [45, 111] then
      let p := andP F f (q.rest.drop 1)
      orL F f ⟨q.v || p.v, p.rest, q.u || p.u, q.i || p.i⟩
    else q
end
/-- Value, whether the expression is malformed, whether an operand is no integer. -/
structure VR where
  v : Bool
  u : Bool
  i : Bool
def twoP (F : Str → Option (Bool × Str)) (a b : Str) : VR :=
  if a = [33] then ⟨b == [], false, false⟩ else if isUn a = true then ⟨unV F a b, false, false⟩ else ⟨false, true, false⟩
def threeP (F : Str → Option (Bool × Str)) (a op b : Str) : VR :=
  if isBin op = true then ⟨binV a op b, false, binI a op b⟩
  else if op = [45, 97] then ⟨a != [] && b != [], false, false⟩
  else if op = [45, 111] then ⟨a != [] || b != [], false, false⟩
  else if a = [33] then ⟨!(twoP F op b).v, (twoP F op b).u, (twoP F op b).i⟩
  else if a = [40] ∧ b = [41] then ⟨op != [], false, false⟩
  else ⟨false, true, false⟩
def fuelP (args : List Str) : Nat := 4 * args.length + 3
def generalP (F : Str → Option (Bool × Str)) (args : List Str) : VR :=
  let q := orP F (fuelP args) args
  ⟨q.v, q.u || q.rest != [], q.i⟩
def wholeP (F : Str → Option (Bool × Str)) (args : List Str) : VR :=
  match args with
  | [] => ⟨false, false, false⟩
  | [a] => ⟨a != [], false, false⟩
  | [a, b] => twoP F a b
  | [a, b, c] => threeP F a b c
  | [a, b, c, d] => if a = [33] then ⟨!(threeP F b c d).v, (threeP F b c d).u, (threeP F b c d).i⟩ else if a = [40] ∧ d = [41] then twoP F b c else generalP F [a, b, c, d]
  | a :: b :: c :: d :: e :: r => generalP F (a :: b :: c :: d :: e :: r)
def ends (q : VR) : Bool × Int := if q.u then (false, 27) else if q.i then (false, 1) else (q.v, 0)
def evalP (F : Str → Option (Bool × Str)) (args : List Str) : Bool × Int := ends (wholeP F args)
/-- What is left gets shorter. -/
theorem notP_len (F : Str → Option (Bool × Str)) : ∀ f, (∀ neg r, (notP F f neg r).rest.length ≤ r.length) ∧ (∀ r, (andP F f r).rest.length ≤ r.length) ∧ (∀ q, (andL F f q).rest.length ≤ q.rest.length) ∧ (∀ r, (orP F f r).rest.length ≤ r.length) ∧ (∀ q, (orL F f q).rest.length ≤ q.rest.length) := by
  intro f
  induction f with
  | zero =>
    refine ⟨fun neg r => ?_, fun r => ?_, fun q => ?_, fun r => ?_, fun q => ?_⟩
    · simp [notP]
    · simp [andP]
    · simp [andL]
    · simp [orP]
    · simp [orL]
  | succ f ih =>
    obtain ⟨h1, h2, h3, h4, h5⟩ := ih
    refine ⟨fun neg r => ?_, fun r => ?_, fun q => ?_, fun r => ?_, fun q => ?_⟩
    · cases r with
      | nil => simp [notP]
      | cons a r =>
        rw [notP]
        split
        · simp; omega
        · split
          · have := h1 (!neg) r; simp; omega
          · split
            · simp only
              have := h4 r
              split
              · simp; omega
              · simp; omega
            · split
              · simp; omega
              · simp
    · rw [andP]
      exact Nat.le_trans (h3 _) (h1 _ _)
    · rw [andL]
      split
      · simp only
        have := h3 ⟨q.v && (notP F f false (q.rest.drop 1)).v, (notP F f false (q.rest.drop 1)).rest, q.u || (notP F f false (q.rest.drop 1)).u, q.i || (notP F f false (q.rest.drop 1)).i⟩
        have h6 := h1 false (q.rest.drop 1)
        simp only [List.length_drop] at h6
        simp only at this
        omega
      · exact Nat.le_refl _
    · rw [orP]
      exact Nat.le_trans (h5 _) (h2 _)
    · rw [orL]
      split
      · simp only
        have := h5 ⟨q.v || (andP F f (q.rest.drop 1)).v, (andP F f (q.rest.drop 1)).rest, q.u || (andP F f (q.rest.drop 1)).u, q.i || (andP F f (q.rest.drop 1)).i⟩
        have h6 := h2 (q.rest.drop 1)
        simp only [List.length_drop] at h6
        simp only at this
        omega
      · exact Nat.le_refl _
theorem notP_less (F : Str → Option (Bool × Str)) (f : Nat) (neg : Bool) (a : Str) (r : List Str) : (notP F (f + 1) neg (a :: r)).rest.length ≤ r.length := by
  have ⟨h1, _, _, h4, _⟩ := notP_len F f
  rw [notP]
  split
  · simp
  · split
    · exact h1 _ _
    · split
      · simp only
        have := h4 r
        split
        · simp; omega
        · exact this
      · split
        · simp
        · simp
end P
end Go.Proofs.YtmccfdmnidbalaaGreatDoor
