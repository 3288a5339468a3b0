/- Chapter 29 in plain Lean: decimal integers. -/
import Derived.Test.YtmccfdmnidbalaaGreatDoorK
import Derived.Lib.ParseIntB
namespace Go.Proofs.YtmccfdmnidbalaaGreatDoor
open K
namespace P
def isDig (c : UInt8) : Bool := decide (48 ≤ c.toNat) && decide (c.toNat ≤ 57)
def dv (c : UInt8) : Nat := c.toNat - 48
def decV (l : List UInt8) : Nat := l.foldl (fun a c => a * 10 + dv c) 0
theorem foldl_decV (l : List UInt8) : ∀ a, l.foldl (fun a c => a * 10 + dv c) a = a * 10 ^ l.length + decV l := by
  induction l with
  | nil => intro a; simp [decV]
  | cons c r ih =>
    intro a
    unfold decV
    rw [List.foldl_cons, List.foldl_cons, ih, ih (0 * 10 + dv c), List.length_cons, Nat.pow_succ]
    rw [Nat.zero_mul, Nat.zero_add, Nat.add_mul, Nat.mul_assoc, Nat.mul_comm 10 (10 ^ r.length)]
    omega
theorem decV_cons (c : UInt8) (r : List UInt8) : decV (c :: r) = dv c * 10 ^ r.length + decV r := by
  have := foldl_decV r (0 * 10 + dv c)
  rw [Nat.zero_mul, Nat.zero_add] at this
  unfold decV
  rw [List.foldl_cons, Nat.zero_mul, Nat.zero_add, this]
  rfl
theorem dv_le {c : UInt8} (h : isDig c = true) : dv c ≤ 9 := by
  unfold isDig at h
  unfold dv
  simp at h
  omega
theorem decV_lt : ∀ {l : List UInt8}, l.all isDig = true → decV l < 10 ^ l.length
  | [], _ => by simp [decV]
  | c :: r, h => by
    rw [List.all_cons, Bool.and_eq_true] at h
    have ih := decV_lt h.2
    have hc := dv_le h.1
    rw [decV_cons, List.length_cons, Nat.pow_succ]
    have : dv c * 10 ^ r.length ≤ 9 * 10 ^ r.length := Nat.mul_le_mul_right _ hc
    omega
theorem decV_ge {c : UInt8} {r : List UInt8} (h : isDig c = true) (h0 : c ≠ 48) : 10 ^ r.length ≤ decV (c :: r) := by
  rw [decV_cons]
  have : 1 ≤ dv c := by
    unfold isDig at h
    simp at h
    unfold dv
    have : c.toNat ≠ 48 := fun e => h0 (UInt8.toNat_inj.1 e)
    omega
  have := Nat.mul_le_mul_right (10 ^ r.length) this
  omega
/-- No zero ahead of other digits. -/
def canon (l : List UInt8) : Bool := decide (l ≠ []) && (l.length == 1 || l.head? != some 48)
theorem decV_len {a b : List UInt8} (ha : a.all isDig = true) (hb : b.all isDig = true) (hc : canon b = true) (h : a.length < b.length) (ha0 : a ≠ []) : decV a < decV b := by
  cases b with
  | nil => simp at h
  | cons c r =>
    have hr : r ≠ [] := by rintro rfl; cases a with | nil => exact ha0 rfl | cons x y => simp at h
    have h0 : c ≠ 48 := by
      rintro rfl
      unfold canon at hc
      simp at hc
      exact hr hc
    rw [List.all_cons, Bool.and_eq_true] at hb
    have h1 := decV_lt ha
    have h2 := decV_ge (r := r) hb.1 h0
    have h3 : 10 ^ a.length ≤ 10 ^ r.length := Nat.pow_le_pow_right (by omega) (by simp at h; omega)
    omega
theorem u8_lt {a b : UInt8} : a < b ↔ a.toNat < b.toNat := UInt8.lt_iff_toNat_lt
theorem decV_lex : ∀ {a b : List UInt8}, a.all isDig = true → b.all isDig = true → a.length = b.length → (a < b ↔ decV a < decV b)
  | [], [], _, _, _ => by simp
  | [], _ :: _, _, _, h => by simp at h
  | _ :: _, [], _, _, h => by simp at h
  | x :: a, y :: b, ha, hb, h => by
    rw [List.all_cons, Bool.and_eq_true] at ha hb
    have hl : a.length = b.length := by simpa using h
    have ih := decV_lex ha.2 hb.2 hl
    have h1 := decV_lt ha.2
    have h2 := decV_lt hb.2
    rw [List.cons_lt_cons_iff, decV_cons, decV_cons, hl]
    rw [hl] at h1
    have d1 := ha.1
    have d2 := hb.1
    unfold isDig at d1 d2
    simp only [Bool.and_eq_true, decide_eq_true_eq] at d1 d2
    generalize 10 ^ b.length = M at h1 h2
    by_cases hxy : x = y
    · subst hxy
      constructor
      · rintro (h3 | ⟨_, h3⟩)
        · exact absurd h3 (by rw [u8_lt]; omega)
        · have := ih.1 h3; omega
      · intro h3
        exact .inr ⟨rfl, ih.2 (by omega)⟩
    · have hne : x.toNat ≠ y.toNat := fun e => hxy (UInt8.toNat_inj.1 e)
      rw [u8_lt]
      unfold dv
      constructor
      · rintro (h3 | ⟨h3, _⟩)
        · have : (x.toNat - 48 + 1) * M ≤ (y.toNat - 48) * M := Nat.mul_le_mul_right _ (by omega)
          rw [Nat.add_mul, Nat.one_mul] at this
          omega
        · exact absurd h3 hxy
      · intro h3
        left
        rcases Nat.lt_or_ge x.toNat y.toNat with h4 | h4
        · exact h4
        · exfalso
          have : (y.toNat - 48 + 1) * M ≤ (x.toNat - 48) * M := Nat.mul_le_mul_right _ (by omega)
          rw [Nat.add_mul, Nat.one_mul] at this
          omega
theorem decV_inj : ∀ {a b : List UInt8}, a.all isDig = true → b.all isDig = true → a.length = b.length → decV a = decV b → a = b := by
  intro a b ha hb h he
  have h1 := decV_lex ha hb h
  have h2 := decV_lex hb ha h.symm
  have n1 : ¬ a < b := fun x => by have := h1.1 x; omega
  have n2 : ¬ b < a := fun x => by have := h2.1 x; omega
  exact List.le_antisymm n2 n1
/-- Without zeros ahead, but one digit at least. -/
def strip0 : List UInt8 → List UInt8
  | [] => []
  | [c] => [c]
  | c :: d :: r => if c = 48 then strip0 (d :: r) else c :: d :: r
theorem strip0_val : ∀ l : List UInt8, decV (strip0 l) = decV l
  | [] => rfl
  | [_] => rfl
  | c :: d :: r => by
    rw [strip0]
    split
    · rename_i h
      rw [strip0_val (d :: r), decV_cons c, h]
      simp [dv]
    · rfl
theorem strip0_dig : ∀ {l : List UInt8}, l.all isDig = true → (strip0 l).all isDig = true
  | [], h => h
  | [_], h => h
  | c :: d :: r, h => by
    rw [strip0]
    split
    · rw [List.all_cons, Bool.and_eq_true] at h
      exact strip0_dig h.2
    · exact h
theorem strip0_canon : ∀ {l : List UInt8}, l ≠ [] → canon (strip0 l) = true
  | [], h => absurd rfl h
  | [_], _ => by simp [strip0, canon]
  | c :: d :: r, _ => by
    rw [strip0]
    split
    · exact strip0_canon (by simp)
    · rename_i h
      simp [canon, h]
theorem canon_ne {l : List UInt8} (h : canon l = true) : l ≠ [] := by
  unfold canon at h
  simp at h
  exact h.1
/-- Order of numbers by their digits. -/
theorem dig_lt {a b : List UInt8} (ha : a.all isDig = true) (hb : b.all isDig = true) (ca : canon a = true) (cb : canon b = true) : (a.length < b.length ∨ (a.length = b.length ∧ a < b)) ↔ decV a < decV b := by
  constructor
  · rintro (h | ⟨h1, h2⟩)
    · exact decV_len ha hb cb h (canon_ne ca)
    · exact (decV_lex ha hb h1).1 h2
  · intro h
    rcases Nat.lt_trichotomy a.length b.length with h1 | h1 | h1
    · exact .inl h1
    · exact .inr ⟨h1, (decV_lex ha hb h1).2 h⟩
    · have := decV_len hb ha ca h1 (canon_ne cb)
      omega
theorem dig_eq {a b : List UInt8} (ha : a.all isDig = true) (hb : b.all isDig = true) (ca : canon a = true) (cb : canon b = true) : a = b ↔ decV a = decV b := by
  constructor
  · rintro rfl; rfl
  · intro h
    rcases Nat.lt_trichotomy a.length b.length with h1 | h1 | h1
    · have := decV_len ha hb cb h1 (canon_ne ca); omega
    · exact decV_inj ha hb h1 h
    · have := decV_len hb ha ca h1 (canon_ne cb); omega
def neg? (s : List UInt8) : Bool := s.head? == some 45
def sgn? (s : List UInt8) : Bool := s.head? == some 45 || s.head? == some 43
def body (s : List UInt8) : List UInt8 := if sgn? s then s.drop 1 else s
def digits? (s : List UInt8) : Bool := decide (body s ≠ []) && (body s).all isDig
def lim : Nat := 9223372036854775808
/-- The integer that a sign and digits denote. -/
def intP (s : List UInt8) : Option Int :=
  if digits? s = true then
    if neg? s = true then (if decV (body s) ≤ lim then some (-(decV (body s) : Int)) else none)
    else (if decV (body s) < lim then some (decV (body s) : Int) else none)
  else none
theorem parseUintM_dig (M : Nat) (hM : M ≤ 18446744073709551615) : ∀ (l : List UInt8) (a : Nat), l.all isDig = true → a ≤ M → Lib.parseUintM M a l = if a * 10 ^ l.length + decV l ≤ M then .ok (a * 10 ^ l.length + decV l) else .range
  | [], a, _, ha => by
    rw [Lib.parseUintM]
    simp [decV, ha]
  | c :: r, a, h, ha => by
    rw [List.all_cons, Bool.and_eq_true] at h
    have hc := h.1
    unfold isDig at hc
    simp only [Bool.and_eq_true, decide_eq_true_eq] at hc
    have e : a * 10 ^ (c :: r).length + decV (c :: r) = (a * 10 + dv c) * 10 ^ r.length + decV r := by
      rw [decV_cons, List.length_cons, Nat.pow_succ, Nat.add_mul, Nat.mul_assoc, Nat.mul_comm 10 (10 ^ r.length)]
      omega
    have hp : 1 ≤ 10 ^ r.length := Nat.one_le_pow _ _ (by omega)
    have hge : a * 10 + dv c ≤ (a * 10 + dv c) * 10 ^ r.length := Nat.le_mul_of_pos_right _ hp
    rw [Lib.parseUintM, if_pos hc, e]
    have ed : c.toNat - 48 = dv c := rfl
    rw [ed]
    by_cases h1 : 1844674407370955162 ≤ a
    · rw [if_pos h1, if_neg (by omega)]
    · rw [if_neg h1]
      by_cases h2 : M < a * 10 + dv c
      · rw [if_pos h2, if_neg (by omega)]
      · rw [if_neg h2]
        exact parseUintM_dig M hM r _ h.2 (by omega)
theorem head_cons (c : UInt8) (r : List UInt8) (x : UInt8) : ((c :: r).head? == some x) = decide (c.toNat = x.toNat) := by
  by_cases h : c = x
  · subst h; simp
  · have : c.toNat ≠ x.toNat := fun e => h (UInt8.toNat_inj.1 e)
    simp [h, this]
theorem parseUintB_dig {l : List UInt8} (h : l.all isDig = true) (h0 : l ≠ []) : Lib.parseUintB 64 l = if decV l ≤ 18446744073709551615 then .ok (decV l) else .range := by
  unfold Lib.parseUintB
  rw [if_neg h0]
  have := parseUintM_dig (2 ^ 64 - 1) (by decide) l 0 h (by omega)
  simpa using this
/-- strconv.ParseInt at a sign and digits. -/
theorem parse_intP {s : List UInt8} (h : digits? s = true) : (∃ v, intP s = some v ∧ Lib.parseIntB 64 s = .ok v) ∨ (intP s = none ∧ Lib.parseIntB 64 s = .range) := by
  have hd := h
  unfold digits? at h
  simp only [Bool.and_eq_true, decide_eq_true_eq] at h
  obtain ⟨h1, h2⟩ := h
  have hu := parseUintB_dig h2 h1
  cases s with
  | nil => simp [body, sgn?] at h1
  | cons c r =>
    have hb : (if c.toNat = 43 ∨ c.toNat = 45 then r else c :: r) = body (c :: r) := by
      unfold body sgn?
      rw [head_cons, head_cons]
      by_cases hx : c.toNat = 43 ∨ c.toNat = 45
      · rw [if_pos hx, if_pos]
        · rfl
        · simp only [Bool.or_eq_true, decide_eq_true_eq]
          rcases hx with hx | hx
          · exact .inr hx
          · exact .inl hx
      · rw [if_neg hx, if_neg]
        simp only [Bool.or_eq_true, decide_eq_true_eq]
        rintro (hy | hy)
        · exact hx (.inr hy)
        · exact hx (.inl hy)
    have hn : neg? (c :: r) = decide (c.toNat = 45) := head_cons c r 45
    unfold intP
    rw [if_pos hd]
    unfold Lib.parseIntB
    simp only
    rw [hb, hu, hn]
    generalize decV (body (c :: r)) = D
    have hl : (2 ^ (64 - 1) : Nat) = lim := by decide
    rw [hl]
    by_cases hD : D ≤ 18446744073709551615
    · rw [if_pos hD]
      simp only
      by_cases hc : c.toNat = 45
      · simp only [hc, decide_true, if_true, not_true, false_and, if_false, true_and]
        by_cases hx : D ≤ lim
        · left
          refine ⟨_, by rw [if_pos hx], ?_⟩
          rw [if_neg (by omega)]
        · right
          rw [if_neg hx, if_pos (by omega)]
          exact ⟨rfl, rfl⟩
      · simp only [hc, decide_false, Bool.false_eq_true, if_false, not_false_iff, true_and, false_and]
        by_cases hx : D < lim
        · left
          refine ⟨_, by rw [if_pos hx], ?_⟩
          rw [if_neg (by omega)]
        · right
          rw [if_neg hx, if_pos (by omega)]
          exact ⟨rfl, rfl⟩
    · rw [if_neg hD]
      right
      refine ⟨?_, rfl⟩
      have hlim : lim = 9223372036854775808 := rfl
      have n1 : ¬ D ≤ lim := by omega
      have n2 : ¬ D < lim := by omega
      rw [if_neg n1, if_neg n2]
      split <;> rfl
end P
end Go.Proofs.YtmccfdmnidbalaaGreatDoor
