/- Chapter 29 in plain Lean: the reference's integers. -/
import Derived.Test.YtmccfdmnidbalaaGreatDoorP29c
import Derived.Lib.MinMaxS
namespace Go.Proofs.YtmccfdmnidbalaaGreatDoor
open K
namespace P
def mostP : Str := [57, 50, 50, 51, 51, 55, 50, 48, 51, 54, 56, 53, 52, 55, 55, 53, 56, 48, 55]
def mostN : Str := [57, 50, 50, 51, 51, 55, 50, 48, 51, 54, 56, 53, 52, 55, 55, 53, 56, 48, 56]
def most (n : Bool) : Str := if n then mostN else mostP
theorem mostP_val : decV mostP = 9223372036854775807 := by decide
theorem mostN_val : decV mostN = 9223372036854775808 := by decide
theorem most_dig (n : Bool) : (most n).all isDig = true := by cases n <;> decide
theorem most_canon (n : Bool) : canon (most n) = true := by cases n <;> decide
theorem most_len (n : Bool) : (most n).length = 19 := by cases n <;> rfl
theorem bl_lt (a b : Str) : Op.bytesLess a b = decide (a < b) := Proofs.bytesLess_eq a b
/-- The digits of an integer, without zeros ahead. -/
def dg (s : Str) : Str := strip0 (body s)
def overB (s : Str) : Bool := decide (decV (most (neg? s)) < decV (dg s))
def okR (s : Str) : Bool := digits? s && !overB s
def negR (s : Str) : Bool := okR s && neg? s && dg s != [48]
def digR (s : Str) : Str := if okR s then dg s else []
theorem okR_intP (s : Str) : okR s = (intP s).isSome := by
  unfold okR intP overB dg
  rw [strip0_val]
  cases hd : digits? s with
  | false => simp
  | true =>
    simp only [Bool.true_and, if_true]
    unfold most
    cases hn : neg? s with
    | true =>
      simp only [if_true, mostN_val]
      have hl : lim = 9223372036854775808 := rfl
      by_cases h : decV (body s) ≤ lim
      · rw [if_pos h]; simp; omega
      · rw [if_neg h]; simp; omega
    | false =>
      simp only [Bool.false_eq_true, if_false, mostP_val]
      have hl : lim = 9223372036854775808 := rfl
      by_cases h : decV (body s) < lim
      · rw [if_pos h]; simp; omega
      · rw [if_neg h]; simp; omega
theorem digits_parts {s : Str} (h : digits? s = true) : body s ≠ [] ∧ (body s).all isDig = true := by
  unfold digits? at h
  simpa using h
theorem dg_dig {s : Str} (h : digits? s = true) : (dg s).all isDig = true := strip0_dig (digits_parts h).2
theorem dg_canon {s : Str} (h : digits? s = true) : canon (dg s) = true := strip0_canon (digits_parts h).1
theorem over_iff {s : Str} (h : digits? s = true) : overB s = true ↔ (19 < (dg s).length ∨ ((dg s).length = 19 ∧ most (neg? s) < dg s)) := by
  unfold overB
  rw [decide_eq_true_eq, ← dig_lt (most_dig _) (dg_dig h) (most_canon _) (dg_canon h), most_len]
  constructor
  · rintro (h | ⟨h1, h2⟩)
    · exact .inl h
    · exact .inr ⟨h1.symm, h2⟩
  · rintro (h | ⟨h1, h2⟩)
    · exact .inl h
    · exact .inr ⟨h1.symm, h2⟩
theorem dg_zero {s : Str} (h : digits? s = true) : decV (dg s) = 0 ↔ dg s = [48] := by
  constructor
  · intro h0
    exact ((dig_eq (b := [48]) (dg_dig h) (by decide) (dg_canon h) (by decide)).2 (by rw [h0]; decide))
  · intro h0; rw [h0]; decide
/-- The value by its sign and digits. -/
theorem val_R {s : Str} (h : okR s = true) : (intP s) = some (if negR s then -(decV (digR s) : Int) else (decV (digR s) : Int)) ∧ (digR s).all isDig = true ∧ canon (digR s) = true ∧ (negR s = true → 0 < decV (digR s)) := by
  have hk := h
  unfold okR at hk
  simp only [Bool.and_eq_true, Bool.not_eq_true'] at hk
  obtain ⟨hd, ho⟩ := hk
  have hs := okR_intP s
  rw [h] at hs
  unfold digR negR
  rw [if_pos h, h]
  refine ⟨?_, dg_dig hd, dg_canon hd, ?_⟩
  · unfold intP at hs ⊢
    rw [if_pos hd] at hs ⊢
    have hv : decV (dg s) = decV (body s) := strip0_val _
    cases hn : neg? s with
    | true =>
      rw [hn] at hs
      simp only [if_true] at hs ⊢
      by_cases hx : decV (body s) ≤ lim
      · rw [if_pos hx, hv]
        by_cases hz : dg s = [48]
        · have := (dg_zero hd).2 hz
          rw [hz]
          simp
          omega
        · simp [hz]
      · rw [if_neg hx] at hs; simp at hs
    | false =>
      rw [hn] at hs
      simp only [Bool.false_eq_true, if_false] at hs ⊢
      by_cases hx : decV (body s) < lim
      · rw [if_pos hx, hv]
        simp
      · rw [if_neg hx] at hs; simp at hs
  · intro hn
    simp only [Bool.true_and, Bool.and_eq_true, bne_iff_ne, ne_eq] at hn
    have : decV (dg s) ≠ 0 := fun h0 => hn.2 ((dg_zero hd).1 h0)
    omega
def ltD (a b : Str) : Bool := decide (a.length < b.length) || (a.length == b.length && decide (a < b))
/-- What compare returns. -/
def cmpD (an bn : Bool) (ad bd : Str) : Int :=
  if an != bn then (if an then -1 else 1) else
    let n : Int := if ltD ad bd then -1 else if ad != bd then 1 else 0
    if an then -n else n
theorem cmpD_eq {a b : Str} (ha : okR a = true) (hb : okR b = true) : cmpD (negR a) (negR b) (digR a) (digR b) = cmpR a b := by
  obtain ⟨ea, a1, a2, a3⟩ := val_R ha
  obtain ⟨eb, b1, b2, b3⟩ := val_R hb
  have hlt : ltD (digR a) (digR b) = decide (decV (digR a) < decV (digR b)) := by
    have := dig_lt a1 b1 a2 b2
    unfold ltD
    rw [Bool.eq_iff_iff]
    simpa using this
  have hne : (digR a != digR b) = decide (decV (digR a) ≠ decV (digR b)) := by
    have := dig_eq a1 b1 a2 b2
    rw [Bool.eq_iff_iff]
    simp [this]
  unfold cmpD cmpR
  rw [ea, eb, hlt, hne]
  simp only
  generalize decV (digR a) = x at *
  generalize decV (digR b) = y at *
  unfold sgnI
  cases hna : negR a <;> cases hnb : negR b <;> simp [hna, hnb] at a3 b3 ⊢
  all_goals
    clear hlt hne ea eb
    repeat' split
    all_goals first | rfl | omega
theorem cmpR_none {a b : Str} (h : (okR a && okR b) = false) : cmpR a b = 0 := by
  rw [okR_intP, okR_intP] at h
  unfold cmpR
  cases ha : intP a <;> cases hb : intP b <;> simp_all
theorem binI_ok (a op b : Str) : binI a op b = (!(text? op) && !(okR a && okR b)) := by
  rw [okR_intP, okR_intP]
  unfold binI
  cases ha : intP a <;> cases hb : intP b <;> simp
end P
end Go.Proofs.YtmccfdmnidbalaaGreatDoor
