/- Chapter 29 in plain Lean: the reference's Eval, and that the two agree. -/
import Derived.Test.YtmccfdmnidbalaaGreatDoorP29b
namespace Go.Proofs.YtmccfdmnidbalaaGreatDoor
open K
namespace P
def sgnI (z : Int) : Int := if z < 0 then -1 else if 0 < z then 1 else 0
def cmpR (a b : Str) : Int := match intP a, intP b with
  | some m, some n => sgnI (m - n)
  | _, _ => 0
def tabR (op : Str) (n : Int) : Bool :=
  if op = [45, 101, 113] then decide (n = 0) else if op = [45, 110, 101] then decide (n ≠ 0) else if op = [45, 108, 116] then decide (n < 0)
  else if op = [45, 108, 101] then decide (n ≤ 0) else if op = [45, 103, 116] then decide (0 < n) else decide (0 ≤ n)
def binW (a op b : Str) : Bool := if text? op then (a == b) == (op == [61]) else tabR op (cmpR a b)
theorem sgn_lt (m n : Int) : sgnI (m - n) < 0 ↔ m < n := by unfold sgnI; split <;> (try split) <;> omega
theorem sgn_gt (m n : Int) : 0 < sgnI (m - n) ↔ n < m := by unfold sgnI; split <;> (try split) <;> omega
theorem sgn_eq (m n : Int) : sgnI (m - n) = 0 ↔ m = n := by unfold sgnI; split <;> (try split) <;> omega
theorem binW_eq {a op b : Str} (hop : isBin op = true) (h : binI a op b = false) : binW a op b = binV a op b := by
  unfold binW binV
  unfold binI at h
  by_cases h1 : op = [61]
  · subst h1; simp [text?]
  · by_cases h2 : op = [33, 61]
    · subst h2; simp [text?, bne]
    · have ht : text? op = false := by simp [text?, h1, h2]
      rw [ht] at h ⊢
      simp only [Bool.not_false, Bool.true_and, Bool.or_eq_false_iff, decide_eq_false_iff_not] at h
      rw [if_neg h1, if_neg h2]
      simp only [Bool.false_eq_true, if_false]
      unfold cmpR
      cases ha : intP a with
      | none => exact absurd ha h.1
      | some m =>
        cases hb : intP b with
        | none => exact absurd hb h.2
        | some n =>
          simp only
          unfold tabR cmpV
          have e1 := sgn_lt m n
          have e2 := sgn_gt m n
          have e3 := sgn_eq m n
          generalize sgnI (m - n) = z at e1 e2 e3
          unfold isBin at hop
          simp only [Bool.or_eq_true, beq_iff_eq] at hop
          rcases hop with ((((((h | h) | h) | h) | h) | h) | h) | h
          · exact absurd h h1
          · exact absurd h h2
          · subst h; simp only [if_true]; simp; exact e3
          · subst h; simp only [if_true]; simp; exact e3
          · subst h; simp; exact e1
          · subst h; simp; omega
          · subst h; simp; exact e2
          · subst h; simp; omega
structure RR where
  v : Bool
  rest : List Str
  e : Bool
  o : Bool
mutual
def notR (F : Str → Option (Bool × Str)) : Nat → List Str → RR
  | 0, r => ⟨false, r, true, false⟩
  | _ + 1, [] => ⟨false, [], true, false⟩
  | f + 1, a :: r =>
    if 2 ≤ r.length ∧ isBin (r.getD 0 []) = true then ⟨binW a (r.getD 0 []) (r.getD 1 []), r.drop 2, false, binI a (r.getD 0 []) (r.getD 1 [])⟩
    else if 1 ≤ r.length ∧ a = [33] then
      let q := notR F f r
      ⟨!q.v, q.rest, q.e, q.o⟩
    else if a = [40] then
      let q := orR F f r
      if q.rest.head? = some [41] then ⟨q.v, q.rest.drop 1, q.e, q.o⟩ else ⟨false, q.rest, true, q.o⟩
    else if 1 ≤ r.length ∧ isUn a = true then ⟨unV F a (r.getD 0 []), r.drop 1, false, false⟩
    else ⟨a != [], r, false, false⟩
def andR (F : Str → Option (Bool × Str)) : Nat → List Str → RR
  | 0, r => ⟨false, r, true, false⟩
  | f + 1, r => andRL F f (notR F f r)
def andRL (F : Str → Option (Bool × Str)) : Nat → RR → RR
  | 0, q => ⟨q.v, q.rest, true, q.o⟩
  | f + 1, q => if q.e = false ∧ q.rest.head? = some [45, 97] then
      let p := notR F f (q.rest.drop 1)
      andRL F f ⟨q.v && p.v, p.rest, p.e, q.o || p.o⟩
    else q
def orR (F : Str → Option (Bool × Str)) : Nat → List Str → RR
  | 0, r => ⟨false, r, true, false⟩
  | f + 1, r => orRL F f (andR F f r)
def orRL (F : Str → Option (Bool × Str)) : Nat → RR → RR
  | 0, q => ⟨q.v, q.rest, true, q.o⟩
  | f + 1, q => if q.e = false ∧ q.rest.head? = some [45, 111] then
      let p := andR F f (q.rest.drop 1)
      orRL F f ⟨q.v || p.v, p.rest, p.e, q.o || p.o⟩
    else q
end
def RelN (neg : Bool) (p : PR) (q : RR) : Prop := (p.u = true ∧ q.e = true) ∨ (p.u = false ∧ q.e = false ∧ p.rest = q.rest ∧ p.i = q.o ∧ (p.i = false → p.v = (q.v != neg)))
theorem andL_u (F : Str → Option (Bool × Str)) : ∀ f q, q.u = true → (andL F f q).u = true
  | 0, q, h => by rw [andL]
  | f + 1, q, h => by
    rw [andL]
    split
    · exact andL_u F f _ (by simp [h])
    · exact h
theorem orL_u (F : Str → Option (Bool × Str)) : ∀ f q, q.u = true → (orL F f q).u = true
  | 0, q, h => by rw [orL]
  | f + 1, q, h => by
    rw [orL]
    split
    · exact orL_u F f _ (by simp [h])
    · exact h
theorem andRL_e (F : Str → Option (Bool × Str)) : ∀ f q, q.e = true → (andRL F f q).e = true
  | 0, q, h => by rw [andRL]
  | f + 1, q, h => by
    rw [andRL, if_neg (by rw [h]; simp)]
    exact h
theorem orRL_e (F : Str → Option (Bool × Str)) : ∀ f q, q.e = true → (orRL F f q).e = true
  | 0, q, h => by rw [orRL]
  | f + 1, q, h => by
    rw [orRL, if_neg (by rw [h]; simp)]
    exact h
theorem rel_all (F : Str → Option (Bool × Str)) : ∀ f, (∀ neg r, RelN neg (notP F f neg r) (notR F f r)) ∧ (∀ r, RelN false (andP F f r) (andR F f r)) ∧ (∀ p q, RelN false p q → RelN false (andL F f p) (andRL F f q)) ∧ (∀ r, RelN false (orP F f r) (orR F f r)) ∧ (∀ p q, RelN false p q → RelN false (orL F f p) (orRL F f q)) := by
  intro f
  induction f with
  | zero =>
    refine ⟨fun neg r => ?_, fun r => ?_, fun p q h => ?_, fun r => ?_, fun p q h => ?_⟩
    · rw [notP, notR]; exact .inl ⟨rfl, rfl⟩
    · rw [andP, andR]; exact .inl ⟨rfl, rfl⟩
    · rw [andL, andRL]; exact .inl ⟨rfl, rfl⟩
    · rw [orP, orR]; exact .inl ⟨rfl, rfl⟩
    · rw [orL, orRL]; exact .inl ⟨rfl, rfl⟩
  | succ f ih =>
    obtain ⟨h1, h2, h3, h4, h5⟩ := ih
    refine ⟨fun neg r => ?_, fun r => ?_, fun p q h => ?_, fun r => ?_, fun p q h => ?_⟩
    · cases r with
      | nil => rw [notP, notR]; exact .inl ⟨rfl, rfl⟩
      | cons a r =>
        rw [notP, notR]
        by_cases c1 : 2 ≤ r.length ∧ isBin (r.getD 0 []) = true
        · rw [if_pos c1, if_pos c1]
          exact .inr ⟨rfl, rfl, rfl, rfl, fun h => by show (_ != _) = (_ != _); rw [binW_eq c1.2 h]⟩
        · rw [if_neg c1, if_neg c1]
          by_cases c2 : 1 ≤ r.length ∧ a = [33]
          · rw [if_pos c2, if_pos c2]
            simp only
            rcases h1 (!neg) r with ⟨x, y⟩ | ⟨x, y, z, t, v⟩
            · exact .inl ⟨x, y⟩
            · exact .inr ⟨x, y, z, t, fun h => by rw [v h]; cases (notR F f r).v <;> cases neg <;> rfl⟩
          · rw [if_neg c2, if_neg c2]
            by_cases c3 : a = [40]
            · rw [if_pos c3, if_pos c3]
              simp only
              rcases h4 r with ⟨x, y⟩ | ⟨x, y, z, t, v⟩
              · refine .inl ⟨?_, ?_⟩
                · split
                  · exact x
                  · rfl
                · split
                  · exact y
                  · rfl
              · rw [z]
                split
                · exact .inr ⟨x, y, rfl, t, fun h => by show (_ != _) = _; rw [v h]; simp⟩
                · exact .inl ⟨rfl, rfl⟩
            · rw [if_neg c3, if_neg c3]
              by_cases c4 : 1 ≤ r.length ∧ isUn a = true
              · rw [if_pos c4, if_pos c4]
                exact .inr ⟨rfl, rfl, rfl, rfl, fun _ => rfl⟩
              · rw [if_neg c4, if_neg c4]
                exact .inr ⟨rfl, rfl, rfl, rfl, fun _ => rfl⟩
    · rw [andP, andR]
      exact h3 _ _ (h1 false r)
    · rw [andL, andRL]
      rcases h with ⟨x, y⟩ | ⟨x, y, z, t, v⟩
      · refine .inl ⟨?_, ?_⟩
        · split
          · exact andL_u F f _ (by simp [x])
          · exact x
        · rw [if_neg (by rw [y]; simp)]
          exact y
      · rw [z]
        by_cases c : q.rest.head? = some [45, 97]
        · rw [if_pos c, if_pos ⟨y, c⟩]
          simp only
          have hrel := h1 false (q.rest.drop 1)
          generalize notP F f false (q.rest.drop 1) = P1 at hrel ⊢
          generalize notR F f (q.rest.drop 1) = Q1 at hrel ⊢
          refine h3 _ _ ?_
          rcases hrel with ⟨x', y'⟩ | ⟨x', y', z', t', v'⟩
          · exact .inl ⟨by simp [x'], y'⟩
          · refine .inr ⟨by simp [x, x'], y', z', by simp [t, t'], fun h => ?_⟩
            simp only [Bool.or_eq_false_iff] at h
            simp [v h.1, v' h.2]
        · rw [if_neg c, if_neg (by rintro ⟨_, h⟩; exact c h)]
          exact .inr ⟨x, y, z, t, v⟩
    · rw [orP, orR]
      exact h5 _ _ (h2 r)
    · rw [orL, orRL]
      rcases h with ⟨x, y⟩ | ⟨x, y, z, t, v⟩
      · refine .inl ⟨?_, ?_⟩
        · split
          · exact orL_u F f _ (by simp [x])
          · exact x
        · rw [if_neg (by rw [y]; simp)]
          exact y
      · rw [z]
        by_cases c : q.rest.head? = some [45, 111]
        · rw [if_pos c, if_pos ⟨y, c⟩]
          simp only
          have hrel := h2 (q.rest.drop 1)
          generalize andP F f (q.rest.drop 1) = P1 at hrel ⊢
          generalize andR F f (q.rest.drop 1) = Q1 at hrel ⊢
          refine h5 _ _ ?_
          rcases hrel with ⟨x', y'⟩ | ⟨x', y', z', t', v'⟩
          · exact .inl ⟨by simp [x'], y'⟩
          · refine .inr ⟨by simp [x, x'], y', z', by simp [t, t'], fun h => ?_⟩
            simp only [Bool.or_eq_false_iff] at h
            simp [v h.1, v' h.2]
        · rw [if_neg c, if_neg (by rintro ⟨_, h⟩; exact c h)]
          exact .inr ⟨x, y, z, t, v⟩
def threeR (F : Str → Option (Bool × Str)) (a op b : Str) : VR :=
  if isBin op = true then ⟨binW a op b, false, binI a op b⟩
  else if op = [45, 97] then ⟨a != [] && b != [], false, false⟩
  else if op = [45, 111] then ⟨a != [] || b != [], false, false⟩
  else if a = [33] then ⟨!(twoP F op b).v, (twoP F op b).u, (twoP F op b).i⟩
  else if a = [40] ∧ b = [41] then ⟨op != [], false, false⟩
  else ⟨false, true, false⟩
def generalR (F : Str → Option (Bool × Str)) (args : List Str) : VR :=
  let q := orR F (fuelP args) args
  ⟨q.v, q.e || q.rest != [], q.o⟩
def wholeR (F : Str → Option (Bool × Str)) (args : List Str) : VR :=
  match args with
  | [] => ⟨false, false, false⟩
  | [a] => ⟨a != [], false, false⟩
  | [a, b] => twoP F a b
  | [a, b, c] => threeR F a b c
  | [a, b, c, d] => if a = [33] then ⟨!(threeR F b c d).v, (threeR F b c d).u, (threeR F b c d).i⟩ else if a = [40] ∧ d = [41] then twoP F b c else generalR F [a, b, c, d]
  | a :: b :: c :: d :: e :: r => generalR F (a :: b :: c :: d :: e :: r)
def RelV (p q : VR) : Prop := p.u = q.u ∧ (p.u = false → p.i = q.i ∧ (p.i = false → p.v = q.v))
theorem RelV.refl (p : VR) : RelV p p := ⟨rfl, fun _ => ⟨rfl, fun _ => rfl⟩⟩
theorem RelV.ends {p q : VR} (h : RelV p q) : P.ends p = P.ends q := by
  obtain ⟨h1, h2⟩ := h
  unfold P.ends
  rw [← h1]
  cases hu : p.u with
  | true => rfl
  | false =>
    obtain ⟨h3, h4⟩ := h2 hu
    rw [← h3]
    cases hi : p.i with
    | true => rfl
    | false => rw [h4 hi]
theorem three_rel (F : Str → Option (Bool × Str)) (a op b : Str) : RelV (threeP F a op b) (threeR F a op b) := by
  unfold threeP threeR
  by_cases h : isBin op = true
  · rw [if_pos h, if_pos h]
    exact ⟨rfl, fun _ => ⟨rfl, fun hi => (binW_eq h hi).symm⟩⟩
  · rw [if_neg h, if_neg h]
    exact RelV.refl _
theorem general_rel (F : Str → Option (Bool × Str)) (args : List Str) : RelV (generalP F args) (generalR F args) := by
  unfold generalP generalR
  simp only
  rcases (rel_all F (fuelP args)).2.2.2.1 args with ⟨x, y⟩ | ⟨x, y, z, t, v⟩
  · exact ⟨by simp [x, y], fun h => by simp [x] at h⟩
  · exact ⟨by simp [x, y, z], fun _ => ⟨t, fun h => by rw [v h]; simp⟩⟩
theorem whole_rel (F : Str → Option (Bool × Str)) (args : List Str) : RelV (wholeP F args) (wholeR F args) := by
  match args with
  | [] => exact RelV.refl _
  | [a] => exact RelV.refl _
  | [a, b] => exact RelV.refl _
  | [a, b, c] => exact three_rel F a b c
  | [a, b, c, d] =>
    unfold wholeP wholeR
    simp only
    by_cases h : a = [33]
    · rw [if_pos h, if_pos h]
      obtain ⟨h1, h2⟩ := three_rel F b c d
      exact ⟨h1, fun hu => ⟨(h2 hu).1, fun hi => by show (!_) = (!_); rw [(h2 hu).2 hi]⟩⟩
    · rw [if_neg h, if_neg h]
      by_cases h2 : a = [40] ∧ d = [41]
      · rw [if_pos h2, if_pos h2]
        exact RelV.refl _
      · rw [if_neg h2, if_neg h2]
        exact general_rel F _
  | a :: b :: c :: d :: e :: r => exact general_rel F _
def evalR (F : Str → Option (Bool × Str)) (args : List Str) : Bool × Int := ends (wholeR F args)
theorem eval_eq (F : Str → Option (Bool × Str)) (args : List Str) : evalP F args = evalR F args := (whole_rel F args).ends
end P
end Go.Proofs.YtmccfdmnidbalaaGreatDoor
