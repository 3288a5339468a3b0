/- Chapter 29 in plain Lean: a leading ! negates. -/
import Derived.Test.YtmccfdmnidbalaaDoorP29c
namespace Go.Proofs.YtmccfdmnidbalaaDoor
open K
namespace P
/-- Two results of which the second is the first one's opposite, with the same error. -/
def Opp (p q : Bool × Int) : Prop := (∃ z : Int, z ≠ 0 ∧ p = (false, z) ∧ q = (false, z)) ∨ ∃ v, p = (v, 0) ∧ q = (!v, 0)
theorem ends_opp (q : VR) : Opp (ends q) (ends ⟨!q.v, q.u, q.i⟩) := by
  obtain ⟨v, u, i⟩ := q
  cases u with
  | true => exact .inl ⟨27, by decide, rfl, rfl⟩
  | false =>
    cases i with
    | true => exact .inl ⟨1, by decide, rfl, rfl⟩
    | false => exact .inr ⟨v, rfl, rfl⟩
theorem negates (F : Str → Option (Bool × Str)) (ls : List Str) (h1 : 1 ≤ ls.length) (h3 : ls.length ≤ 3) (h2 : ls.length = 2 → isBin (ls.getD 0 []) = false ∧ ls.getD 0 [] ≠ [45, 97] ∧ ls.getD 0 [] ≠ [45, 111]) : Opp (evalP F ls) (evalP F ([33] :: ls)) := by
  match ls, h1, h3, h2 with
  | [a], _, _, _ =>
    refine .inr ⟨a != [], rfl, ?_⟩
    show ends (twoP F [33] a) = _
    unfold twoP
    rw [if_pos rfl]
    cases a <;> rfl
  | [a, b], _, _, h2 =>
    obtain ⟨x, y, z⟩ := h2 rfl
    have : threeP F [33] a b = ⟨!(twoP F a b).v, (twoP F a b).u, (twoP F a b).i⟩ := by
      have x' : ¬ isBin a = true := by rw [show isBin a = false from x]; decide
      have y' : ¬ a = [45, 97] := y
      have z' : ¬ a = [45, 111] := z
      unfold threeP
      rw [if_neg x', if_neg y', if_neg z', if_pos rfl]
    show Opp (ends (twoP F a b)) (ends (threeP F [33] a b))
    rw [this]
    exact ends_opp _
  | [a, b, c], _, _, _ =>
    have : wholeP F [[33], a, b, c] = ⟨!(threeP F a b c).v, (threeP F a b c).u, (threeP F a b c).i⟩ := by
      unfold wholeP
      simp
    show Opp (ends (threeP F a b c)) (ends (wholeP F [[33], a, b, c]))
    rw [this]
    exact ends_opp _
  | a :: b :: c :: d :: r, _, h3, _ => simp at h3
/-- The strings that the law leaves out as first of two. -/
def barred (s : Str) : Prop := s = [61] ∨ s = [33, 61] ∨ s = [45, 101, 113] ∨ s = [45, 110, 101] ∨ s = [45, 108, 116] ∨ s = [45, 108, 101] ∨ s = [45, 103, 116] ∨ s = [45, 103, 101] ∨ s = [45, 97] ∨ s = [45, 111]
theorem not_barred {s : Str} (h : ¬ barred s) : (s == [61]) = false ∧ (s == [33, 61]) = false ∧ (s == [45, 101, 113]) = false ∧ (s == [45, 110, 101]) = false ∧ (s == [45, 108, 116]) = false ∧ (s == [45, 108, 101]) = false ∧ (s == [45, 103, 116]) = false ∧ (s == [45, 103, 101]) = false ∧ (s == [45, 97]) = false ∧ (s == [45, 111]) = false := by
  unfold barred at h
  simp only [not_or] at h
  simpa using h
theorem open_barred {s : Str} (h : ¬ barred s) : isBin s = false ∧ s ≠ [45, 97] ∧ s ≠ [45, 111] := by
  obtain ⟨h1, h2, h3, h4, h5, h6, h7, h8, h9, h10⟩ := not_barred h
  refine ⟨by unfold isBin; rw [h1, h2, h3, h4, h5, h6, h7, h8]; rfl, by simpa using h9, by simpa using h10⟩
end P
end Go.Proofs.YtmccfdmnidbalaaDoor
