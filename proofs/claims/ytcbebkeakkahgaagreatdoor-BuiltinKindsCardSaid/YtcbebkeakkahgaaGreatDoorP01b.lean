/- Chapter 1 in plain Lean: steps of the loops of quoting and unquoting. -/
import Derived.Test.YtcbebkeakkahgaaGreatDoorP01
import Derived.Lib.Replace
import Derived.Lib.ReplaceLaws
import Derived.Lib.IndexBytes
import Derived.Lib.IndexLaws
import Derived.Lib.CountLaws
namespace Go.Proofs.YtcbebkeakkahgaaGreatDoor
open K
namespace P

/-! ### Quote -/
theorem quoteBody_append (a b : List UInt8) : quoteBody (a ++ b) = quoteBody a ++ quoteBody b := by
  induction a with
  | nil => rfl
  | cons x r ih => simp [quoteBody, ih]
theorem quoteBody_none (a : List UInt8) (h : ∀ k : Nat, a[k]? ≠ some 39) : quoteBody a = a := by
  induction a with
  | nil => rfl
  | cons x r ih =>
    have hx : (iv x == 39) = false := by
      have := h 0
      simp at this
      unfold iv
      simp
      intro e
      apply this
      apply UInt8.toNat_inj.1
      have : (39 : UInt8).toNat = 39 := rfl
      omega
    have := ih (fun k => by have := h (k + 1); simpa using this)
    simp [quoteBody, hx, this]
theorem replace_quote : ∀ (n : Nat) (l : List UInt8), l.length ≤ n → Lib.replaceK [39] [39, 92, 39, 39] (Lib.count l [39]) l = quoteBody l := by
  intro n
  induction n with
  | zero =>
    intro l h
    have : l = [] := List.eq_nil_of_length_eq_zero (by omega)
    subst this
    rfl
  | succ n ih =>
    intro l h
    by_cases hi : Lib.index l [39] = -1
    · have hc : Lib.count l [39] = 0 := Lib.count_miss hi
      rw [hc, Lib.replaceK]
      rw [Lib.index_one] at hi
      exact (quoteBody_none l (Lib.indexByte_none hi)).symm
    · obtain ⟨i, he⟩ : ∃ i : Nat, Lib.index l [39] = i := by
        have := Lib.indexByte_ge l 39
        rw [Lib.index_one] at hi
        exact ⟨(Lib.index l [39]).toNat, by rw [Lib.index_one]; omega⟩
      have hb : Lib.indexByte l 39 = i := by rw [← Lib.index_one]; exact he
      obtain ⟨h1, h2⟩ := Lib.indexByte_some hb
      have hlt : i < l.length := (List.getElem?_eq_some_iff.1 h1).1
      have hc : Lib.count l [39] = 1 + Lib.count (l.drop (i + 1)) [39] := by
        have := Lib.countB_hit ⟨l.toArray⟩ ⟨#[39]⟩ i (by decide) (by simpa [Lib.indexB] using he)
        have s1 : (ByteArray.mk l.toArray).size = l.length := by simp [ByteArray.size]
        have s2 : (ByteArray.mk #[39]).size = 1 := rfl
        rw [s1, s2] at this
        simp [Lib.countB] at this
        rw [List.take_of_length_le (by simp)] at this
        exact this
      rw [hc, Nat.add_comm, Lib.replaceK_hit _ _ _ _ i he]
      rw [List.length_singleton, ih (l.drop (i + 1)) (by simp; omega)]
      have e : l = l.take i ++ 39 :: l.drop (i + 1) := by
        have h3 : l[i] = 39 := by
          have := List.getElem?_eq_getElem hlt
          rw [h1] at this
          exact (Option.some.inj this).symm
        rw [← h3, ← List.drop_eq_getElem_cons hlt, List.take_append_drop]
      conv => rhs; rw [e, quoteBody_append]
      rw [quoteBody_none (l.take i) (fun k => by
        by_cases hk : k < i
        · rw [List.getElem?_take_of_lt hk]; exact h2 k hk
        · rw [List.getElem?_eq_none (by simp; omega)]; simp)]
      simp [quoteBody, iv]
theorem replaceAll_quote (l : List UInt8) : Lib.replaceAll l [39] [39, 92, 39, 39] = quoteBody l := by
  unfold Lib.replaceAll Lib.replace
  rw [if_neg (by decide)]
  unfold Lib.replaceNum
  rw [if_pos (by omega)]
  exact replace_quote l.length l (Nat.le_refl _)
theorem quoteBody_le (l : List UInt8) : (quoteBody l).length ≤ 4 * l.length := by
  induction l with
  | nil => simp [quoteBody]
  | cons x r ih =>
    rw [quoteBody, List.length_append, List.length_cons]
    split <;> simp <;> omega
theorem quote_le (l : List UInt8) : (quote l).length ≤ 4 * l.length + 2 := by
  unfold quote; have := quoteBody_le l; split <;> simp <;> omega

/-! ### Unquote -/
theorem sq_hit {acc r : List UInt8} {x : UInt8} (h : iv x = 39) : sq acc (x :: r) = some (acc, r) := by rw [sq, if_pos (by simp [h])]
theorem sq_miss {acc r : List UInt8} {x : UInt8} (h : iv x ≠ 39) : sq acc (x :: r) = sq (acc ++ [x]) r := by rw [sq, if_neg (by simp [h])]
theorem sq_acc (r : List UInt8) : ∀ acc, sq acc r = (sq [] r).map fun p => (acc ++ p.1, p.2) := by
  induction r with
  | nil => intro acc; rfl
  | cons x r ih =>
    intro acc
    by_cases h : iv x = 39
    · rw [sq_hit h, sq_hit h]; simp
    · rw [sq_miss h, sq_miss h, ih (acc ++ [x]), ih ([] ++ [x])]
      cases sq [] r <;> simp
theorem iv_eq {x : UInt8} {n : Nat} (hn : n < 256) (h : iv x = n) : x = UInt8.ofNat n := by
  apply UInt8.toNat_inj.1
  unfold iv at h
  rw [UInt8.toNat_ofNat']
  omega
theorem sq_index (r : List UInt8) : ∀ acc, sq acc r = if Lib.indexByte r 39 < 0 then none else some (acc ++ r.take (Lib.indexByte r 39).toNat, r.drop ((Lib.indexByte r 39).toNat + 1)) := by
  induction r with
  | nil => intro acc; rfl
  | cons x r ih =>
    intro acc
    by_cases h : iv x = 39
    · rw [sq_hit h]
      have : x = 39 := iv_eq (n := 39) (by omega) h
      subst this
      simp [Lib.indexByte]
    · rw [sq_miss h, ih]
      have hne : (x == 39) = false := by
        simp; intro e; subst e; exact h rfl
      have hge := Lib.indexByte_ge r 39
      rw [show Lib.indexByte (x :: r) 39 = if (x == 39) = true then 0 else if Lib.indexByte r 39 == -1 then -1 else Lib.indexByte r 39 + 1 from rfl, hne]
      by_cases hm : Lib.indexByte r 39 = -1
      · simp [hm]
      · have e1 : (Lib.indexByte r 39 == -1) = false := by simpa using hm
        rw [e1]
        obtain ⟨n, hn⟩ : ∃ n : Nat, Lib.indexByte r 39 = n := ⟨(Lib.indexByte r 39).toNat, by omega⟩
        rw [hn]
        have e2 : ((n : Int) + 1).toNat = n + 1 := by omega
        simp only [Bool.false_eq_true, if_false]
        rw [if_neg (by omega), if_neg (by omega), e2]
        simp
theorem dq_close {acc r : List UInt8} {x : UInt8} (h : iv x = 34) : dq acc (x :: r) = .ok (acc, r) := by
  cases r <;> simp [dq, h]
theorem dq_bad {acc r : List UInt8} {x : UInt8} (h : iv x = 36 ∨ iv x = 96) : dq acc (x :: r) = .error 6 := by
  cases r <;> rcases h with h | h <;> simp [dq, h]
theorem dq_lone {acc : List UInt8} {x : UInt8} (h : iv x = 92) : dq acc [x] = .error 7 := by simp [dq, h]
theorem dq_esc {acc r : List UInt8} {x y : UInt8} (h : iv x = 92) : dq acc (x :: y :: r) = dq (acc ++ dqEsc y) r := by simp [dq, h]
theorem dq_other {acc r : List UInt8} {x : UInt8} (h1 : iv x ≠ 34) (h2 : iv x ≠ 36) (h3 : iv x ≠ 96) (h4 : iv x ≠ 92) : dq acc (x :: r) = dq (acc ++ [x]) r := by
  cases r <;> simp [dq, h1, h2, h3, h4]
def mapAcc (acc : List UInt8) : Except Int (List UInt8 × List UInt8) → Except Int (List UInt8 × List UInt8)
  | .ok (a, s) => .ok (acc ++ a, s)
  | .error e => .error e
theorem dq_acc : ∀ (n : Nat) (r : List UInt8), r.length ≤ n → ∀ acc, dq acc r = mapAcc acc (dq [] r) := by
  intro n
  induction n with
  | zero => intro r h acc; have : r = [] := List.eq_nil_of_length_eq_zero (by omega); subst this; rfl
  | succ n ih =>
    intro r h acc
    match r, h with
    | [], _ => rfl
    | x :: r, h =>
      by_cases h1 : iv x = 34
      · rw [dq_close h1, dq_close h1]; simp [mapAcc]
      by_cases h2 : iv x = 36 ∨ iv x = 96
      · rw [dq_bad h2, dq_bad h2]; rfl
      by_cases h4 : iv x = 92
      · match r, h with
        | [], _ => rw [dq_lone h4, dq_lone h4]; rfl
        | y :: r, h =>
          rw [dq_esc h4, dq_esc h4, ih r (by simp at h; omega), ih r (by simp at h; omega) ([] ++ dqEsc y)]
          cases dq [] r <;> simp [mapAcc]
      · rw [dq_other h1 (by omega) (by omega) h4, dq_other h1 (by omega) (by omega) h4, ih r (by simp at h; omega), ih r (by simp at h; omega) ([] ++ [x])]
        cases dq [] r <;> simp [mapAcc]
theorem dq_error_aux : ∀ (n : Nat) (r : List UInt8), r.length ≤ n → ∀ acc z, dq acc r = .error z → z = 6 ∨ z = 7 := by
  intro n
  induction n with
  | zero =>
    intro r h acc z hz
    have : r = [] := List.eq_nil_of_length_eq_zero (by omega)
    subst this
    simp [dq] at hz; omega
  | succ n ih =>
    intro r h acc z hz
    match r, h with
    | [], _ => simp [dq] at hz; omega
    | x :: r, h =>
      by_cases h1 : iv x = 34
      · rw [dq_close h1] at hz; simp at hz
      by_cases h2 : iv x = 36 ∨ iv x = 96
      · rw [dq_bad h2] at hz; simp at hz; omega
      by_cases h4 : iv x = 92
      · match r, h with
        | [], _ => rw [dq_lone h4] at hz; simp at hz; omega
        | y :: r, h => rw [dq_esc h4] at hz; exact ih r (by simp at h; omega) _ _ hz
      · rw [dq_other h1 (by omega) (by omega) h4] at hz; exact ih r (by simp at h; omega) _ _ hz
theorem dq_error {r acc : List UInt8} {z : Int} (h : dq acc r = .error z) : z = 6 ∨ z = 7 := dq_error_aux r.length r (Nat.le_refl _) acc z h
theorem piece_acc (r : List UInt8) (acc : List UInt8) : piece acc r = mapAcc acc (piece [] r) := by
  match r with
  | [] => rfl
  | x :: r =>
    unfold piece
    simp only
    split
    · rw [sq_acc]
      cases sq [] r <;> simp [ofSq, mapAcc]
    · split
      · exact dq_acc r.length r (Nat.le_refl _) acc
      · split
        · cases r with
          | nil => rfl
          | cons y r => simp only; split <;> simp [mapAcc]
        · split <;> simp [mapAcc]
theorem piece_sq {a r : List UInt8} {x : UInt8} (h : iv x = 39) : piece a (x :: r) = ofSq (sq a r) := by
  have h' : (iv x == 39) = true := by simp [h]
  unfold piece
  simp only
  rw [if_pos h']
theorem piece_sqNone {a r : List UInt8} {x : UInt8} (h : iv x = 39) (hi : Lib.indexByte r 39 < 0) : piece a (x :: r) = .error 7 := by
  rw [piece_sq h, sq_index r a, if_pos hi]; rfl
theorem piece_sqSome {a r : List UInt8} {x : UInt8} {n : Nat} (h : iv x = 39) (hi : Lib.indexByte r 39 = n) : piece a (x :: r) = .ok (a ++ r.take n, r.drop (n + 1)) := by
  rw [piece_sq h, sq_index r a, if_neg (by omega), hi, Int.toNat_natCast]; rfl
theorem piece_dq {a r : List UInt8} {x : UInt8} (h : iv x = 34) : piece a (x :: r) = dq a r := by
  unfold piece; simp [h]
theorem piece_lone {a : List UInt8} {x : UInt8} (h : iv x = 92) : piece a [x] = .error 7 := by
  unfold piece; simp [h]
theorem piece_esc {a r : List UInt8} {x y : UInt8} (h : iv x = 92) : piece a (x :: y :: r) = .ok (if iv y == 10 then a else a ++ [y], r) := by
  unfold piece; simp [h]
theorem piece_stop {a r : List UInt8} {x : UInt8} (h : stop (iv x) = true) (h1 : iv x ≠ 39) (h2 : iv x ≠ 34) (h3 : iv x ≠ 92) : piece a (x :: r) = .error 6 := by
  unfold piece; simp [h, h1, h2, h3]
theorem piece_one {a r : List UInt8} {x : UInt8} (h : stop (iv x) = false) (h1 : iv x ≠ 39) (h2 : iv x ≠ 34) (h3 : iv x ≠ 92) : piece a (x :: r) = .ok (a ++ [x], r) := by
  unfold piece; simp [h, h1, h2, h3]
theorem piece_error {a l : List UInt8} {z : Int} (hl : l ≠ []) (h : piece a l = .error z) : z = 6 ∨ z = 7 := by
  match l, hl with
  | x :: r, _ =>
    by_cases h1 : iv x = 39
    · rw [piece_sq h1] at h
      cases hs : sq a r with
      | none => rw [hs] at h; simp [ofSq] at h; omega
      | some p => rw [hs] at h; simp [ofSq] at h
    by_cases h2 : iv x = 34
    · rw [piece_dq h2] at h; exact dq_error h
    by_cases h3 : iv x = 92
    · cases r with
      | nil => rw [piece_lone h3] at h; simp at h; omega
      | cons y r => rw [piece_esc h3] at h; simp at h
    cases h4 : stop (iv x)
    · rw [piece_one h4 h1 h2 h3] at h; simp at h
    · rw [piece_stop h4 h1 h2 h3] at h; simp at h; omega
theorem unq_nil (n : Nat) (acc : List UInt8) : unq n acc [] = .ok acc := by cases n <;> rfl
theorem unq_ok {n : Nat} {acc l a r : List UInt8} (hl : l ≠ []) (h : piece acc l = .ok (a, r)) : unq (n + 1) acc l = unq n a r := by
  rw [unq, h]; cases l <;> simp at hl ⊢
theorem unq_error {n : Nat} {acc l : List UInt8} {e : Int} (hl : l ≠ []) (h : piece acc l = .error e) : unq (n + 1) acc l = .error e := by
  rw [unq, h]; cases l <;> simp at hl ⊢
/-! ### Unescape -/
theorem dec1_bad {x : UInt8} {r : List UInt8} (h : iv x < 32 ∨ 126 < iv x) : dec1 (x :: r) = .error 6 := by rw [dec1, if_pos h]
theorem dec1_plain {x : UInt8} {r : List UInt8} (h : ¬ (iv x < 32 ∨ 126 < iv x)) (h2 : iv x ≠ 92) : dec1 (x :: r) = .ok (x, r) := by rw [dec1, if_neg h, if_pos h2]
theorem dec1_ok {x : UInt8} {r : List UInt8} {c : UInt8} {n : Nat} (h : iv x = 92) (hs : seqn r = .ok (c, n)) : dec1 (x :: r) = .ok (c, r.drop n) := by
  rw [dec1, if_neg (by omega), if_neg (by omega), hs]
theorem dec1_error {x : UInt8} {r : List UInt8} {z : Int} (h : iv x = 92) (hs : seqn r = .error z) : dec1 (x :: r) = .error z := by
  rw [dec1, if_neg (by omega), if_neg (by omega), hs]
theorem une_nil (n : Nat) (acc : List UInt8) : une n acc [] = .ok acc := by cases n <;> rfl
theorem une_ok {n : Nat} {acc l r : List UInt8} {c : UInt8} (hl : l ≠ []) (h : dec1 l = .ok (c, r)) : une (n + 1) acc l = une n (acc ++ [c]) r := by
  rw [une, h]; cases l <;> simp at hl ⊢
theorem une_error {n : Nat} {acc l : List UInt8} {z : Int} (hl : l ≠ []) (h : dec1 l = .error z) : une (n + 1) acc l = .error z := by
  rw [une, h]; cases l <;> simp at hl ⊢
theorem coded_ok {l : List UInt8} {c : UInt8} {n : Nat} (h : coded l = .ok (c, n)) : ¬ l.length < 3 ∧ n = 3 ∧ c = by8 (16 * hexv (bt l 1) + hexv (bt l 2)) ∧ ¬ (hexv (bt l 1) < 0 ∨ (2 ≤ hexv (bt l 1) ∧ hexv (bt l 1) ≤ 6)) ∧ ¬ (hexv (bt l 2) < 0 ∨ 16 * hexv (bt l 1) + hexv (bt l 2) = 10 ∨ 16 * hexv (bt l 1) + hexv (bt l 2) = 9 ∨ (32 ≤ 16 * hexv (bt l 1) + hexv (bt l 2) ∧ 16 * hexv (bt l 1) + hexv (bt l 2) ≤ 126)) := by
  unfold coded at h
  by_cases h1 : l.length < 2
  · rw [if_pos h1] at h; simp at h
  rw [if_neg h1] at h
  by_cases h2 : hexv (bt l 1) < 0 ∨ (2 ≤ hexv (bt l 1) ∧ hexv (bt l 1) ≤ 6)
  · rw [if_pos h2] at h; simp at h
  rw [if_neg h2] at h
  by_cases h3 : l.length < 3
  · rw [if_pos h3] at h; simp at h
  rw [if_neg h3] at h
  by_cases h4 : hexv (bt l 2) < 0 ∨ 16 * hexv (bt l 1) + hexv (bt l 2) = 10 ∨ 16 * hexv (bt l 1) + hexv (bt l 2) = 9 ∨ (32 ≤ 16 * hexv (bt l 1) + hexv (bt l 2) ∧ 16 * hexv (bt l 1) + hexv (bt l 2) ≤ 126)
  · rw [if_pos h4] at h; simp at h
  rw [if_neg h4] at h
  simp at h
  exact ⟨h3, h.2.symm, h.1.symm, h2, h4⟩
theorem coded_error {l : List UInt8} {z : Int} (h : coded l = .error z) : z = 28 ∨ z = 6 := by
  unfold coded at h
  repeat' split at h
  all_goals (first | (simp at h; done) | (simp at h; omega))
theorem seqn_le {l : List UInt8} {c : UInt8} {n : Nat} (h : seqn l = .ok (c, n)) : 1 ≤ n ∧ n ≤ l.length := by
  unfold seqn at h
  cases l with
  | nil => simp at h
  | cons x r =>
    simp only [List.isEmpty_cons, Bool.false_eq_true, if_false] at h
    by_cases h1 : (bt (x :: r) 0 == 110) = true
    · rw [if_pos h1] at h; simp at h; simp; omega
    rw [if_neg h1] at h
    by_cases h2 : (bt (x :: r) 0 == 116) = true
    · rw [if_pos h2] at h; simp at h; simp; omega
    rw [if_neg h2] at h
    by_cases h3 : (bt (x :: r) 0 == 92) = true
    · rw [if_pos h3] at h; simp at h; simp; omega
    rw [if_neg h3] at h
    by_cases h4 : (bt (x :: r) 0 == 120) = true
    · rw [if_pos h4] at h
      obtain ⟨h5, h6, _⟩ := coded_ok h
      omega
    rw [if_neg h4] at h; simp at h
theorem seqn_error {l : List UInt8} {z : Int} (h : seqn l = .error z) : z = 28 ∨ z = 6 := by
  unfold seqn at h
  cases l with
  | nil => simp at h; omega
  | cons x r =>
    simp only [List.isEmpty_cons, Bool.false_eq_true, if_false] at h
    by_cases h1 : (bt (x :: r) 0 == 110) = true
    · rw [if_pos h1] at h; simp at h
    rw [if_neg h1] at h
    by_cases h2 : (bt (x :: r) 0 == 116) = true
    · rw [if_pos h2] at h; simp at h
    rw [if_neg h2] at h
    by_cases h3 : (bt (x :: r) 0 == 92) = true
    · rw [if_pos h3] at h; simp at h
    rw [if_neg h3] at h
    by_cases h4 : (bt (x :: r) 0 == 120) = true
    · rw [if_pos h4] at h; exact coded_error h
    rw [if_neg h4] at h; simp at h; omega
theorem esc1_le (x : UInt8) : (esc1 x).length ≤ 4 := by
  unfold esc1; repeat' split
  all_goals simp
end P
end Go.Proofs.YtcbebkeakkahgaaGreatDoor
