/- Several texts in one: R08q R08r R08s R08t. -/
import Derived.Test.YtcbdhheelddgeaaGreatDoorYB
import Derived.Test.YtcbdhheelddgeaaGreatDoorZA
import Derived.Test.YtcbdhheelddgeaaGreatDoorYC
namespace Go.Proofs.YtcbdhheelddgeaaGreatDoor
open K
namespace RP
open WP (Part Ctx Str St Flt)
/-- What a reading gives, its error struck. -/
def toO {α : Type} : Except Flt α → Option α
  | .error _ => none
  | .ok x => some x
theorem dg_digit (c : Int) : P.dg c = LX.digit c := by
  unfold P.dg LX.digit
  rw [Bool.decide_and]
theorem dloop_snoc (x : UInt8) : ∀ (l : Str) (n : Int), P.dloop n (l ++ [x]) = (P.dloop n l).bind fun v => if P.dg (P.iv x) then (if 2147483647 < 10 * v + (P.iv x - 48) then none else some (10 * v + (P.iv x - 48))) else none
  | [], n => by
    simp only [List.nil_append, P.dloop, Option.bind_some]
  | y :: r, n => by
    rw [List.cons_append, P.dloop, P.dloop]
    split
    · split
      · rfl
      · exact dloop_snoc x r _
    · rfl
theorem numEnd : ∀ (f : Nat) (s : Str) (i e : Nat) (v : Int), i < e → e ≤ s.length → ¬ bt s i = 48 → s.length - e + 1 ≤ f → P.dloop 0 (cut s i e) = some v → digEnd f s i e = e + WP.numLen (s.drop e) v
  | 0, s, i, e, v, h1, h2, h3, h4, h5 => absurd h4 (by omega)
  | f + 1, s, i, e, v, h1, h2, h3, h4, h5 => by
    rw [digEnd]
    by_cases he : e < s.length
    · obtain ⟨x, hx, hb, _⟩ := drop_cons s e he
      have hc := cut_snoc s i e x (by omega) he hb
      rw [hx, WP.numLen]
      by_cases hd : P.dg (bt s e) = true
      · rw [if_pos ⟨he, hd⟩]
        have hdx : LX.digit (x.toNat : Int) = true := by rw [← dg_digit, ← hb]; exact hd
        have hdl : P.dloop 0 (cut s i (e + 1)) = if 2147483647 < 10 * v + (P.iv x - 48) then none else some (10 * v + (P.iv x - 48)) := by
          rw [hc, dloop_snoc, h5]
          show (if P.dg (P.iv x) then _ else _) = _
          rw [if_pos (show P.dg (P.iv x) = true from by show P.dg (x.toNat : Int) = true; rw [← hb]; exact hd)]
        have hdi : P.digits (cut s i (e + 1)) = P.dloop 0 (cut s i (e + 1)) := by
          rw [← P.digitsI_eq]
          have hlen : (cut s i (e + 1)).length = e + 1 - i := by rw [cut_length]; omega
          have h48 : ¬ bt (cut s i (e + 1)) 0 = 48 := by rw [bt_cut s i (e + 1) 0 (by omega), Nat.add_zero]; exact h3
          unfold P.digitsI
          rw [if_neg, if_neg]
          · rw [Bool.or_eq_true]
            rintro (h | h)
            · rw [List.isEmpty_iff] at h
              rw [h] at hlen
              simp at hlen
              omega
            · exact h48 (by simpa using h)
          · intro h
            rw [beq_iff_eq] at h
            rw [h] at hlen
            simp at hlen
            omega
        rw [hdi, hdl]
        by_cases hlim : 2147483647 < 10 * v + (P.iv x - 48)
        · rw [if_pos hlim, if_pos rfl, if_neg]
          · rfl
          · rintro ⟨_, h⟩
            exact absurd h (by unfold P.iv at hlim; omega)
        · rw [if_neg hlim, if_neg (by simp), if_pos ⟨hdx, by unfold P.iv at hlim; omega⟩]
          rw [numEnd f s i (e + 1) (10 * v + (P.iv x - 48)) (by omega) (by omega) h3 (by omega) (by rw [hdl, if_neg hlim])]
          unfold P.iv
          omega
      · rw [if_neg (fun h => hd h.2), if_neg]
        · rfl
        · rintro ⟨h, _⟩
          rw [← dg_digit, ← hb] at h
          exact hd h
    · rw [if_neg (fun h => he h.1), drop_end s e he, WP.numLen]
      rfl
theorem one_all : ∀ n : Nat, n < 256 → (WP.one8 n = true → (n = 48 ∨ (P.dg n = false ∧ P.wd n = false ∧ LX.spec n = true))) ∧ (WP.one8 n = false → LX.digit n = false → LX.spec n = false) ∧ (LX.digit n = true → P.dg n = true) ∧ (LX.digit n = false → P.dg n = false ∧ P.wd n = LX.starts n) ∧ (WP.one8 n = false → LX.digit n = true → ¬ n = 48) := by decide +kernel
theorem param_eq {s : Str} {i : Nat} (h : i ≤ s.length) : WP.parameter s i = param s i := by
  unfold WP.parameter param
  by_cases hi : i = s.length
  · rw [if_pos hi, if_pos (show s.length ≤ i by omega)]
  rw [if_neg hi, if_neg (show ¬ s.length ≤ i by omega)]
  obtain ⟨n, hn, e⟩ := LX.bt_nat s i
  obtain ⟨a1, a2, a3, a4, a5⟩ := one_all n hn
  rw [e]
  cases h1 : WP.one8 n with
  | true =>
    rw [if_pos rfl]
    rcases a1 h1 with rfl | ⟨b1, b2, b3⟩
    · rw [if_pos (by decide)]
      rw [digEnd]
      by_cases hd : i + 1 < s.length ∧ P.dg (bt s (i + 1)) = true
      · rw [if_pos hd, if_pos]
        have hlen : (cut s i (i + 1 + 1)).length = 2 := by rw [cut_length]; omega
        have h48 : bt (cut s i (i + 1 + 1)) 0 = 48 := by rw [bt_cut s i _ 0 (by omega), Nat.add_zero]; exact e
        unfold P.digits
        rw [if_pos]
        rw [Bool.or_eq_true, Bool.and_eq_true, decide_eq_true_eq, beq_iff_eq]
        exact .inr ⟨h48, by omega⟩
      · rw [if_neg hd]
    · rw [if_neg (by rw [b1]; simp), if_neg (by rw [b2]; simp), if_pos b3]
  | false =>
    rw [if_neg (by simp)]
    cases h2 : LX.digit n with
    | true =>
      rw [if_pos rfl, if_pos (a3 h2)]
      obtain ⟨x, hx, hb, _⟩ := drop_cons s i (by omega)
      have hxn : (x.toNat : Int) = n := by rw [← hb, e]
      have hr : 48 ≤ (n : Int) ∧ (n : Int) ≤ 57 := by have := h2; unfold LX.digit at this; exact of_decide_eq_true this
      rw [hx, WP.numLen, if_pos ⟨by rw [hxn]; exact h2, by omega⟩]
      have hc1 : cut s i (i + 1) = [x] := by rw [cut_one s i (by omega), hb, by8_of]
      rw [numEnd (s.length + 1) s i (i + 1) (10 * 0 + (P.iv x - 48)) (by omega) (by omega) (by rw [e]; have := a5 h1 h2; omega) (by omega) (by
        rw [hc1, P.dloop, if_pos (show P.dg (P.iv x) = true from by show P.dg (x.toNat : Int) = true; rw [hxn]; exact a3 h2), if_neg (by unfold P.iv; omega), P.dloop])]
      unfold P.iv
      omega
    | false =>
      rw [if_neg (by simp), (a4 h2).1, (a4 h2).2, a2 h1 h2]
      cases h3 : LX.starts n with
      | true => simp
      | false => simp
theorem pre1 {s : Str} {e : Nat} {c : UInt8} : Lib.hasPrefix (s.drop e) [c] = true ↔ e < s.length ∧ bt s e = (c.toNat : Int) := by
  constructor
  · intro h
    obtain ⟨r, hr⟩ := LX.has1 h
    obtain ⟨h1, h2, _⟩ := LX.drop_head hr
    exact ⟨h1, h2⟩
  · rintro ⟨h1, h2⟩
    obtain ⟨x, hx, hb, _⟩ := drop_cons s e h1
    obtain rfl : x = c := UInt8.toNat_inj.1 (by omega)
    rw [hx]
    simp [Lib.hasPrefix]
theorem pre2 {s : Str} {e : Nat} {c d : UInt8} : Lib.hasPrefix (s.drop e) [c, d] = true ↔ e + 1 < s.length ∧ bt s e = (c.toNat : Int) ∧ bt s (e + 1) = (d.toNat : Int) := by
  constructor
  · intro h
    obtain ⟨r, hr⟩ := LX.has2 h
    obtain ⟨h1, h2, h3⟩ := LX.drop_head hr
    obtain ⟨g1, g2, _⟩ := LX.drop_head h3
    exact ⟨g1, h2, g2⟩
  · rintro ⟨h1, h2, h3⟩
    obtain ⟨x, hx, hb, _⟩ := drop_cons s e (by omega)
    obtain ⟨y, hy, hb2, _⟩ := drop_cons s (e + 1) h1
    obtain rfl : x = c := UInt8.toNat_inj.1 (by omega)
    obtain rfl : y = d := UInt8.toNat_inj.1 (by omega)
    rw [hx, hy]
    simp [Lib.hasPrefix]
theorem joins_pre (s : Str) (i : Nat) : Lib.hasPrefix (s.drop i) [92, 10] = LX.joins s i := rfl
/-- The operator behind a name. -/
theorem oper_col {s : Str} {e : Nat} (h58 : bt s e = 58) :
    oper s e = if (WP.operator (s.drop (e + 1)) true).2 = 0 then (0, false, 0) else ((WP.operator (s.drop (e + 1)) true).1, true, (WP.operator (s.drop (e + 1)) true).2 + 1) := by
  unfold oper
  rw [if_pos h58]
  by_cases h1 : s.length ≤ e + 1
  · rw [if_pos h1, List.drop_eq_nil_of_le h1]
    rfl
  · rw [if_neg h1]
    obtain ⟨x, hx, hb, _⟩ := drop_cons s (e + 1) (by omega)
    have hb0 : bt (s.drop (e + 1)) 0 = bt s (e + 1) := by rw [bt_drop, Nat.add_zero]
    unfold WP.operator oper2
    rw [if_neg (show ¬ s.drop (e + 1) = [] by rw [hx]; simp), hb0]
    by_cases c1 : bt s (e + 1) = 45
    · simp only [if_pos c1]; rfl
    simp only [if_neg c1]
    by_cases c2 : bt s (e + 1) = 61
    · simp only [if_pos c2]; rfl
    simp only [if_neg c2]
    by_cases c3 : bt s (e + 1) = 63
    · simp only [if_pos c3]; rfl
    simp only [if_neg c3]
    by_cases c4 : bt s (e + 1) = 43
    · simp only [if_pos c4]; rfl
    simp only [if_neg c4, if_true]
theorem oper_no {s : Str} {e : Nat} (he : e < s.length) (h58 : ¬ bt s e = 58) :
    oper s e = ((WP.operator (s.drop e) false).1, false, (WP.operator (s.drop e) false).2) ∧ ((WP.operator (s.drop e) false).1 = 0 ↔ (WP.operator (s.drop e) false).2 = 0) := by
  unfold oper
  rw [if_neg h58]
  obtain ⟨x, hx, hb, _⟩ := drop_cons s e he
  have hb0 : bt (s.drop e) 0 = bt s e := by rw [bt_drop, Nat.add_zero]
  have q7 := pre2 (s := s) (e := e) (c := 37) (d := 37)
  have q9 := pre2 (s := s) (e := e) (c := 35) (d := 35)
  unfold WP.operator oper2
  rw [if_neg (show ¬ s.drop e = [] by rw [hx]; simp), hb0]
  by_cases c1 : bt s e = 45
  · simp only [if_pos c1]; constructor <;> simp
  simp only [if_neg c1]
  by_cases c2 : bt s e = 61
  · simp only [if_pos c2]; constructor <;> simp
  simp only [if_neg c2]
  by_cases c3 : bt s e = 63
  · simp only [if_pos c3]; constructor <;> simp
  simp only [if_neg c3]
  by_cases c4 : bt s e = 43
  · simp only [if_pos c4]; constructor <;> simp
  simp only [if_neg c4, Bool.false_eq_true, if_false]
  by_cases c5 : bt s e = 37
  · have g9 : Lib.hasPrefix (s.drop e) [35, 35] = false := by
      cases g : Lib.hasPrefix (s.drop e) [35, 35] with
      | false => rfl
      | true => have := (q9.1 g).2.1; rw [c5] at this; exact absurd this (by decide)
    by_cases c6 : e + 1 < s.length ∧ bt s (e + 1) = 37
    · have g7 := q7.2 ⟨c6.1, c5, c6.2⟩
      simp [c5, c6.1, c6.2, g7]
    · have g7 : Lib.hasPrefix (s.drop e) [37, 37] = false := by
        cases g : Lib.hasPrefix (s.drop e) [37, 37] with
        | false => rfl
        | true => exact absurd ⟨(q7.1 g).1, (q7.1 g).2.2⟩ c6
      rw [if_neg (show ¬ (bt s e = 37 ∧ e + 1 < s.length ∧ bt s (e + 1) = 37) from fun h => c6 h.2)]
      simp [c5, g7, g9]
  · have g7 : Lib.hasPrefix (s.drop e) [37, 37] = false := by
      cases g : Lib.hasPrefix (s.drop e) [37, 37] with
      | false => rfl
      | true => exact absurd (q7.1 g).2.1 c5
    by_cases c7 : bt s e = 35
    · by_cases c8 : e + 1 < s.length ∧ bt s (e + 1) = 35
      · have g9 := q9.2 ⟨c8.1, c7, c8.2⟩
        simp [c7, c8.1, c8.2, g7, g9]
      · have g9 : Lib.hasPrefix (s.drop e) [35, 35] = false := by
          cases g : Lib.hasPrefix (s.drop e) [35, 35] with
          | false => rfl
          | true => exact absurd ⟨(q9.1 g).1, (q9.1 g).2.2⟩ c8
        rw [if_neg (show ¬ (bt s e = 35 ∧ e + 1 < s.length ∧ bt s (e + 1) = 35) from fun h => c8 h.2)]
        simp [c7, g7, g9]
    · have g9 : Lib.hasPrefix (s.drop e) [35, 35] = false := by
        cases g : Lib.hasPrefix (s.drop e) [35, 35] with
        | false => rfl
        | true => exact absurd (q9.1 g).2.1 c7
      simp [c5, c7, g7, g9]
/-- The nested readings that stand behind an offset agree. -/
def NRel (s : Str) (N : WP.Nest) (M : NestR) : Prop := ∀ (c : Ctx) (k : Nat), c.s = s → c.pl ≤ 2 → ¬ (c.pl = 0 ∧ c.op = false) → 0 ≤ c.opn → c.lv ≤ 32 → k ≤ s.length → toO (N c k) = M c k
theorem braced3_eq {N : WP.Nest} {M : NestR} {c : Ctx} {st : St} {e k o z : Nat} {co : Bool} (hN : NRel c.s N M) (hpl : c.pl ≤ 2) (hlv : c.lv ≤ 32) (hz : o = 0 ↔ z = 0) (hk : z ≠ 0 → k + z ≤ c.s.length) (hke : e ≤ k) :
    (toO (WP.braced3 N c st e k o z co)).map (fun r => ([r.1], r.2)) = braced3 M c st.a e (o, co, k + z - e) := by
  unfold WP.braced3 braced3
  by_cases h0 : z = 0
  · rw [if_pos h0, if_pos (hz.2 h0)]; rfl
  rw [if_neg h0, if_neg (fun h => h0 (hz.1 h))]
  by_cases h32 : c.lv = 32
  · rw [if_pos h32, if_pos (show 32 ≤ c.lv by omega)]; rfl
  rw [if_neg h32, if_neg (show ¬ 32 ≤ c.lv by omega), joins_pre, show e + (k + z - e) = k + z by omega]
  cases hj : LX.joins c.s (k + z) with
  | true => rw [if_pos rfl, if_pos rfl]; rfl
  | false =>
    rw [if_neg (by simp), if_neg (by simp)]
    have h := hN ⟨c.s, c.pl, true, c.lv + 1, st.a⟩ (k + z) rfl hpl (fun h => by cases h.2) (by show (0 : Int) ≤ st.a; omega) (by show c.lv + 1 ≤ 32; omega) (hk h0)
    cases hn : N ⟨c.s, c.pl, true, c.lv + 1, st.a⟩ (k + z) with
    | error x => rw [hn] at h; rw [← h]; rfl
    | ok r => obtain ⟨ps, j⟩ := r; rw [hn] at h; rw [← h]; rfl
theorem op_zero (t : Str) (co : Bool) : (WP.operator t co).1 = 0 ↔ (WP.operator t co).2 = 0 := by
  unfold WP.operator
  repeat' split
  all_goals simp
theorem digEnd_ten : ∀ (f : Nat) (s : Str) (i e : Nat), i < e → e ≤ i + 10 → digEnd f s i e ≤ i + 10
  | 0, s, i, e, _, h => h
  | f + 1, s, i, e, h0, h => by
    rw [digEnd]
    by_cases h1 : e < s.length ∧ P.dg (bt s e) = true
    · rw [if_pos h1]
      by_cases h2 : P.digits (cut s i (e + 1)) = none
      · rw [if_pos h2]; exact h
      · rw [if_neg h2]
        by_cases h3 : e + 1 ≤ i + 10
        · exact digEnd_ten f s i (e + 1) (by omega) h3
        · refine absurd ?_ h2
          have hlen : (cut s i (e + 1)).length = e + 1 - i := by rw [cut_length]; omega
          unfold P.digits
          rw [if_pos]
          rw [Bool.or_eq_true, Bool.or_eq_true, decide_eq_true_eq]
          exact .inl (.inr (by omega))
    · rw [if_neg h1]; exact h
theorem param_long {s : Str} {i : Nat} (h : 32 < param s i - i) : LX.starts (bt s i) = true := by
  unfold param at h
  by_cases h1 : s.length ≤ i
  · rw [if_pos h1] at h; omega
  rw [if_neg h1] at h
  by_cases h2 : P.dg (bt s i) = true
  · rw [if_pos h2] at h
    have := digEnd_ten (s.length + 1) s i (i + 1) (by omega) (by omega)
    omega
  rw [if_neg h2] at h
  obtain ⟨n, hn, e⟩ := LX.bt_nat s i
  obtain ⟨-, -, a3, a4, -⟩ := one_all n hn
  rw [e] at h2 h ⊢
  have hd : LX.digit n = false := by cases hd : LX.digit n with | false => rfl | true => exact absurd (a3 hd) h2
  rw [(a4 hd).2] at h
  cases hs : LX.starts n with
  | true => rfl
  | false =>
    rw [hs, if_neg (by simp)] at h
    split at h <;> omega
theorem long_eq (s : Str) (i : Nat) : WP.tooLong s i (param s i) = decide (32 < param s i - i) := by
  unfold WP.tooLong
  by_cases h1 : 32 < param s i - i
  · rw [decide_eq_true h1, param_long h1]; rfl
  · rw [decide_eq_false h1, Bool.and_false]
theorem braced2_eq {N : WP.Nest} {M : NestR} {c : Ctx} {st : St} (hN : NRel c.s N M) (hpl : c.pl ≤ 2) (hlv : c.lv ≤ 32) (ha : st.a + 2 ≤ c.s.length) :
    (toO (WP.braced2 N c st (param c.s (st.a + 2)))).map (fun r => ([r.1], r.2)) = braced2 M c st.a (param c.s (st.a + 2)) := by
  obtain ⟨e, he⟩ : ∃ e, param c.s (st.a + 2) = e := ⟨_, rfl⟩
  have hlong := long_eq c.s (st.a + 2)
  obtain ⟨hp1, hp2⟩ := param_le c.s ha
  rw [he] at hlong hp1 hp2 ⊢
  unfold WP.braced2 braced2
  by_cases h1 : e = st.a + 2
  · rw [if_pos h1, if_neg (show ¬ 32 < e - (st.a + 2) by omega)]
    by_cases h2 : st.a + 2 = c.s.length ∨ e = c.s.length
    · rw [if_pos h2]; rfl
    · rw [if_neg h2, if_pos h1]; rfl
  rw [if_neg h1, hlong]
  by_cases h2 : 32 < e - (st.a + 2)
  · rw [decide_eq_true h2, if_pos rfl, if_pos h2]; rfl
  rw [decide_eq_false h2, if_neg (by simp), if_neg h2]
  by_cases h3 : e = c.s.length
  · have g1 : ∀ c' : UInt8, ¬ Lib.hasPrefix (c.s.drop e) [c'] = true := fun c' h => by have := (pre1.1 h).1; omega
    rw [if_neg (g1 125), if_neg (g1 58), if_pos (show st.a + 2 = c.s.length ∨ e = c.s.length from .inr h3), h3, List.drop_length]
    rfl
  rw [if_neg (show ¬ (st.a + 2 = c.s.length ∨ e = c.s.length) by omega), if_neg h1]
  by_cases h4 : bt c.s e = 125
  · rw [if_pos (pre1.2 ⟨by omega, h4⟩), if_pos h4]; rfl
  rw [if_neg (fun h => h4 (pre1.1 h).2), if_neg h4]
  by_cases h5 : bt c.s e = 58
  · rw [if_pos (pre1.2 ⟨by omega, h5⟩), oper_col h5]
    have hz := op_zero (c.s.drop (e + 1)) true
    have hle := oper_le c.s (a := e) (by omega)
    rw [oper_col h5] at hle
    by_cases h6 : (WP.operator (c.s.drop (e + 1)) true).2 = 0
    · rw [if_pos h6]
      unfold WP.braced3 braced3
      rw [if_pos h6, if_pos rfl]; rfl
    · rw [if_neg h6] at hle ⊢
      have h7 := (hle (fun h => h6 (hz.1 h))).1
      dsimp only at h7
      rw [braced3_eq hN hpl hlv hz (fun _ => by omega) (by omega)]
      rw [show e + 1 + (WP.operator (c.s.drop (e + 1)) true).2 - e = (WP.operator (c.s.drop (e + 1)) true).2 + 1 by omega]
  · rw [if_neg (fun h => h5 (pre1.1 h).2)]
    obtain ⟨h6, hz⟩ := oper_no (s := c.s) (e := e) (by omega) h5
    have hle := oper_le c.s (a := e) (by omega)
    rw [h6] at hle ⊢
    dsimp only at hle
    rw [braced3_eq hN hpl hlv hz (fun h => (hle (fun h0 => h (hz.1 h0))).1) (Nat.le_refl _)]
    rw [show e + (WP.operator (c.s.drop e) false).2 - e = (WP.operator (c.s.drop e) false).2 by omega]
theorem not58 {s : Str} {i : Nat} (h : i < param s i) : ¬ bt s i = 58 ∧ ¬ bt s i = 125 := by
  unfold param at h
  by_cases h1 : s.length ≤ i
  · rw [if_pos h1] at h; omega
  rw [if_neg h1] at h
  constructor
  · intro e
    rw [e, if_neg (by decide), if_neg (by decide), if_neg (by decide)] at h
    omega
  · intro e
    rw [e, if_neg (by decide), if_neg (by decide), if_neg (by decide)] at h
    omega
theorem param35 {s : Str} {i : Nat} (hi : i < s.length) (h : bt s i = 35) : param s i = i + 1 := by
  unfold param
  rw [if_neg (by omega), h, if_neg (by decide), if_neg (by decide), if_pos (by decide)]
theorem braced_eq {N : WP.Nest} {M : NestR} {c : Ctx} {st : St} (hN : NRel c.s N M) (hpl : c.pl ≤ 2) (hlv : c.lv ≤ 32) (ha : st.a + 2 ≤ c.s.length) :
    (toO (WP.braced N c st)).map (fun r => ([r.1], r.2)) = braced M c st.a := by
  have h2 := braced2_eq hN hpl hlv ha
  unfold WP.braced braced
  rw [param_eq ha]
  unfold WP.braced1
  by_cases h35 : st.a + 2 < c.s.length ∧ bt c.s (st.a + 2) = 35
  · rw [if_pos h35, param_eq (show st.a + 3 ≤ c.s.length by omega)]
    have hlong := long_eq c.s (st.a + 3)
    have n58 := not58 (s := c.s) (i := st.a + 3)
    have p35 := param35 h35.1 h35.2
    obtain ⟨hp1, hp2⟩ := param_le c.s (i := st.a + 3) (by omega)
    generalize param c.s (st.a + 3) = e at hlong n58 hp1 hp2 ⊢
    by_cases h3 : st.a + 3 < e
    · rw [if_pos ⟨h35.1, h35.2, h3⟩, hlong]
      by_cases h4 : 32 < e - (st.a + 3)
      · rw [decide_eq_true h4, if_pos rfl, if_pos h4]; rfl
      rw [decide_eq_false h4, if_neg (by simp), if_neg h4]
      by_cases h5 : e = c.s.length
      · rw [if_pos h5, if_neg (show ¬ (st.a + 3 < e ∧ e < c.s.length ∧ bt c.s e = 125) from fun h => by omega), if_pos ⟨h3, h5⟩]; rfl
      rw [if_neg h5]
      by_cases h6 : bt c.s e = 125
      · rw [if_pos h6, if_pos ⟨h3, by omega, h6⟩]; rfl
      rw [if_neg h6, if_neg (show ¬ (st.a + 3 < e ∧ e < c.s.length ∧ bt c.s e = 125) from fun h => h6 h.2.2), if_neg (show ¬ (st.a + 3 < e ∧ e = c.s.length) from fun h => h5 h.2)]
      by_cases h7 : (WP.operator (c.s.drop (st.a + 3)) false).2 = 0
      · rw [if_pos h7, p35]
        unfold braced2
        obtain ⟨g1, g2⟩ := n58 h3
        obtain ⟨g3, g4⟩ := oper_no (s := c.s) (e := st.a + 3) (by omega) g1
        rw [if_neg (show ¬ 32 < st.a + 2 + 1 - (st.a + 2) by omega), if_neg (show ¬ (st.a + 2 = c.s.length ∨ st.a + 2 + 1 = c.s.length) by omega), if_neg (show ¬ st.a + 2 + 1 = st.a + 2 by omega), if_neg g2]
        unfold braced3
        rw [show st.a + 2 + 1 = st.a + 3 from rfl, g3, if_pos (g4.2 h7)]
        rfl
      · rw [if_neg h7]
        exact h2
    · rw [if_neg (fun h => h3 h.2.2), if_neg (show ¬ 32 < e - (st.a + 3) by omega), if_neg (show ¬ (st.a + 3 < e ∧ e < c.s.length ∧ bt c.s e = 125) from fun h => h3 h.1), if_neg (show ¬ (st.a + 3 < e ∧ e = c.s.length) from fun h => h3 h.1)]
      exact h2
  · rw [if_neg h35, if_neg (fun h => h35 ⟨h.1, h.2.1⟩)]
    exact h2
theorem braced_kind {N : WP.Nest} {c : Ctx} {st : St} {p : Part} {e : Nat} (h : WP.braced N c st = .ok (p, e)) : ∃ t o b ps, p = .mk 4 t o b ps := by
  unfold WP.braced at h
  split at h
  · cases h
  · rename_i r h1
    unfold WP.braced1 at h1
    repeat' split at h1
    all_goals first | cases h1; done | skip
    injection h1 with h1
    injection h1 with h1
    subst h1
    injection h with h
    injection h with h _
    exact ⟨_, _, _, _, h.symm⟩
  · unfold WP.braced2 WP.braced3 at h
    repeat' split at h
    all_goals first | cases h; done | skip
    all_goals
      injection h with h
      injection h with h _
      exact ⟨_, _, _, _, h.symm⟩
end RP
end Go.Proofs.YtcbdhheelddgeaaGreatDoor
namespace Go.Proofs.YtcbdhheelddgeaaGreatDoor
open K
namespace RP
open WP (Part Ctx Str St Flt)
/-- What a step adds to what was read. -/
def put (st : St) (r : List Part × Nat) : St :=
  match r.1 with
  | [] => { st with a := r.2 }
  | .mk k t o b ps :: _ => if k = 1 then { st with tx := st.tx ++ t, a := r.2 } else WP.add (.mk k t o b ps) r.2 st
def Shape (xs : List Part) : Prop := xs = [] ∨ ∃ k t o b ps, xs = [.mk k t o b ps] ∧ (k = 1 → t ≠ [] ∧ o = 0 ∧ b = false ∧ ps = [])
/-- A step of the program and what the reference gives agree. -/
def Ag (st : St) (A : Except Flt St) (B : Res) : Prop :=
  match A with
  | .error _ => B = none
  | .ok st' => ∃ xs k, B = some (xs, k) ∧ Shape xs ∧ st' = put st (xs, k)
theorem ag_add {st : St} {kd o k : Nat} {t : Str} {b : Bool} {ps : List Part} (h : kd ≠ 1) : Ag st (.ok (WP.add (.mk kd t o b ps) k st)) (some ([.mk kd t o b ps], k)) :=
  ⟨_, _, rfl, .inr ⟨kd, t, o, b, ps, rfl, fun e => absurd e h⟩, by unfold put; dsimp only; rw [if_neg h]⟩
theorem ag_leaf {st : St} {kd k : Nat} {t : Str} (h : kd ≠ 1) : Ag st (.ok (WP.add (.mk kd t 0 false []) k st)) (leaf kd t k) := ag_add h
theorem ag_text {st st' : St} {k : Nat} {t : Str} (h : t ≠ []) (he : st' = { st with tx := st.tx ++ t, a := k }) : Ag st (.ok st') (leaf 1 t k) :=
  ⟨_, _, rfl, .inr ⟨1, t, 0, false, [], rfl, fun _ => ⟨h, rfl, rfl, rfl⟩⟩, he⟩
theorem ag_no {st : St} {x : Flt} : Ag st (.error x) none := rfl
theorem backslash_ag {c : Ctx} {st : St} (ha : st.a < c.s.length) (hb : bt c.s st.a = 92) (hpl : c.pl ≤ 2) : Ag st (WP.backslash c st) (backslash c st.a) := by
  unfold WP.backslash backslash
  by_cases h1 : st.a + 1 = c.s.length
  · rw [if_pos h1, if_pos h1, if_neg (show ¬ (c.pl = 3 ∧ c.op = false) by omega)]
    exact ag_no
  rw [if_neg h1, if_neg h1]
  by_cases h2 : bt c.s (st.a + 1) = 10
  · rw [if_pos h2, if_pos h2]
    exact ⟨[], _, rfl, .inl rfl, rfl⟩
  rw [if_neg h2, if_neg h2]
  by_cases h3 : c.pl = 0
  · rw [if_pos h3, if_pos h3]
    exact ag_leaf (by decide)
  rw [if_neg h3, if_neg h3]
  cases h4 : WP.escapes c.pl (bt c.s (st.a + 1)) c.op with
  | true =>
    rw [if_pos rfl, if_pos rfl]
    have hc := cut_one c.s (st.a + 1) (by omega)
    rw [show st.a + 2 = st.a + 1 + 1 from rfl, hc]
    exact ag_text (by simp) rfl
  | false =>
    rw [if_neg (show ¬ (false = true) by simp), if_neg (show ¬ (false = true) by simp)]
    by_cases h5 : c.pl = 2 ∧ c.op = false ∧ (bt c.s (st.a + 1) = 40 ∨ bt c.s (st.a + 1) = 41)
    · rw [if_pos h5, if_pos h5]; exact ag_no
    rw [if_neg h5, if_neg h5, cut_two c.s st.a (by omega), hb]
    refine ag_text (by simp) ?_
    unfold WP.lit
    dsimp only
    rw [List.append_assoc]
    rfl
theorem con_free {s : Str} {a : Nat} {q d : Bool} (hb : bt s a = 36) (h40 : bt s (a + 1) = 40) (hp : Lib.hasPrefix (s.drop a) [36, 40, 40] = false) : LX.construct s a q d = LX.construct s a false false := by
  rw [LX.construct_eq, LX.construct_eq, LX.con, LX.con]
  rw [if_neg (show ¬ bt s a = 92 by rw [hb]; decide), if_neg (show ¬ bt s a = 39 by rw [hb]; decide), if_neg (show ¬ bt s a = 34 by rw [hb]; decide), if_neg (show ¬ bt s a = 96 by rw [hb]; decide), hp]
  rw [if_neg (show ¬ (false = true) by simp), if_pos h40]
  rw [if_neg (show ¬ bt s a = 92 by rw [hb]; decide), if_neg (show ¬ bt s a = 39 by rw [hb]; decide), if_neg (show ¬ bt s a = 34 by rw [hb]; decide), if_neg (show ¬ bt s a = 96 by rw [hb]; decide)]
  rw [if_neg (show ¬ (false = true) by simp), if_pos h40]
theorem cls_big {s : Str} {a : Nat} {q d : Bool} (hl : s.length ≤ 16384) (ha : a < s.length) (hbg : LX.begins s a = true) (hb : big s a q d = LX.construct s a false false) :
    WP.cls s a = if (big s a q d).2 = 0 then .ok (big s a q d).1 else .error ((big s a q d).1, (big s a q d).2) := by
  have hc : LX.close s a = LX.construct s a false false := by
    unfold LX.close
    rw [if_neg (show ¬ 16384 < s.length by omega), if_pos (show a < s.length ∧ LX.begins s a = true from ⟨ha, hbg⟩)]
  unfold WP.cls
  rw [hc, hb]
theorem by1 : ∀ n : Nat, n < 256 → WP.one8 n = true → LX.digit n = false → LX.special n = true ∧ LX.spec n = true ∧ LX.starts n = false := by decide +kernel
theorem by2 : ∀ n : Nat, n < 256 → LX.digit n = true → LX.spec n = true := by decide +kernel
theorem by3 : ∀ n : Nat, n < 256 → LX.starts n = true → LX.spec n = false := by decide +kernel
theorem by4 : ∀ n : Nat, n < 256 → LX.special n = true → WP.one8 n = true ∨ n = 123 ∨ n = 40 := by decide +kernel
theorem dollar_ag {N : WP.Nest} {M : NestR} {c : Ctx} {st : St} (hN : NRel c.s N M) (hpl : c.pl ≤ 2) (hlv : c.lv ≤ 32) (hl : c.s.length ≤ 16384) (ha : st.a < c.s.length) (hb : bt c.s st.a = 36) : Ag st (WP.dollar N c st) (dollar M c st.a) := by
  have q40 := pre1 (s := c.s) (e := st.a + 1) (c := 40)
  have q44 := pre2 (s := c.s) (e := st.a + 1) (c := 40) (d := 40)
  have q123 := pre1 (s := c.s) (e := st.a + 1) (c := 123)
  have q96 := pre1 (s := c.s) (e := st.a + 1) (c := 96)
  have hb0 : LX.dollar c.s (st.a + 1) = (decide (st.a + 1 < c.s.length) && (LX.starts (bt c.s (st.a + 1)) || LX.digit (bt c.s (st.a + 1)) || LX.special (bt c.s (st.a + 1)))) := rfl
  have hbg : LX.begins c.s st.a = LX.dollar c.s (st.a + 1) := by unfold LX.begins; rw [if_pos hb]
  unfold WP.dollar dollar
  cases p44 : Lib.hasPrefix (c.s.drop (st.a + 1)) [40, 40] with
  | true =>
    obtain ⟨g1, g2, g3⟩ := q44.1 p44
    have hd : LX.dollar c.s (st.a + 1) = true := by
      rw [hb0, g2, decide_eq_true (show st.a + 1 < c.s.length by omega)]; decide
    rw [if_pos rfl, hd, if_pos rfl]
    unfold expansion
    rw [if_neg (show ¬ bt c.s (st.a + 1) = 123 by rw [g2]; decide), if_pos (show bt c.s (st.a + 1) = 40 ∧ st.a + 2 < c.s.length ∧ bt c.s (st.a + 2) = 40 from ⟨g2, g1, g3⟩)]
    by_cases h32 : c.lv = 32
    · rw [if_pos h32, if_pos (show 32 ≤ c.lv by omega)]; exact ag_no
    rw [if_neg h32, if_neg (show ¬ 32 ≤ c.lv by omega)]
    have h := hN ⟨c.s, 2, false, c.lv + 1, st.a⟩ (st.a + 3) rfl (show (2 : Nat) ≤ 2 by omega) (fun h => by cases h.1) (by show (0 : Int) ≤ st.a; omega) (by show c.lv + 1 ≤ 32; omega) (by omega)
    cases hn : N ⟨c.s, 2, false, c.lv + 1, st.a⟩ (st.a + 3) with
    | error x => rw [hn] at h; rw [← h]; exact ag_no
    | ok r => obtain ⟨ps, j⟩ := r; rw [hn] at h; rw [← h]; exact ag_add (by decide)
  | false =>
  rw [if_neg (show ¬ (false = true) by simp)]
  cases p40 : Lib.hasPrefix (c.s.drop (st.a + 1)) [40] with
  | true =>
    obtain ⟨g1, g2⟩ := q40.1 p40
    have hd : LX.dollar c.s (st.a + 1) = true := by
      rw [hb0, g2, decide_eq_true (show st.a + 1 < c.s.length by omega)]; decide
    rw [if_pos rfl, hd, if_pos rfl]
    have hno : ¬ (bt c.s (st.a + 1) = 40 ∧ st.a + 2 < c.s.length ∧ bt c.s (st.a + 2) = 40) := fun h => by
      rw [q44.2 ⟨h.2.1, h.1, h.2.2⟩] at p44; cases p44
    have hp3 : Lib.hasPrefix (c.s.drop st.a) [36, 40, 40] = false := LX.has_not3 p44
    unfold expansion
    rw [if_neg (show ¬ bt c.s (st.a + 1) = 123 by rw [g2]; decide), if_neg hno, if_pos (show bt c.s (st.a + 1) = 40 from g2)]
    have hbb : big c.s st.a (marks c.pl).1 (marks c.pl).2 = LX.construct c.s st.a false false := by
      rw [big_construct (by rw [hbg]; exact hd) (.inr hb), con_free hb g2 hp3]
    rw [cls_big hl ha (by rw [hbg]; exact hd) hbb]
    by_cases hx : (big c.s st.a (marks c.pl).1 (marks c.pl).2).2 = 0
    · rw [if_pos hx, if_pos hx]
      exact ag_leaf (by decide)
    · rw [if_neg hx, if_neg hx]; exact ag_no
  | false =>
  rw [if_neg (show ¬ (false = true) by simp)]
  have n40 : st.a + 1 < c.s.length → ¬ bt c.s (st.a + 1) = 40 := fun h1 h2 => by rw [q40.2 ⟨h1, h2⟩] at p40; cases p40
  cases p123 : Lib.hasPrefix (c.s.drop (st.a + 1)) [123] with
  | true =>
    obtain ⟨g1, g2⟩ := q123.1 p123
    have hd : LX.dollar c.s (st.a + 1) = true := by
      rw [hb0, g2, decide_eq_true (show st.a + 1 < c.s.length by omega)]; decide
    rw [if_pos rfl, hd, if_pos rfl]
    unfold expansion
    rw [if_pos (show bt c.s (st.a + 1) = 123 from g2)]
    have h := braced_eq hN hpl hlv (show st.a + 2 ≤ c.s.length by omega)
    cases hn : WP.braced N c st with
    | error x => rw [hn] at h; rw [← h]; exact ag_no
    | ok r =>
      obtain ⟨p, e⟩ := r
      obtain ⟨t, o, b, ps, rfl⟩ := braced_kind hn
      rw [hn] at h
      rw [← h]
      exact ag_add (by decide)
  | false =>
  rw [if_neg (show ¬ (false = true) by simp)]
  have n123 : st.a + 1 < c.s.length → ¬ bt c.s (st.a + 1) = 123 := fun h1 h2 => by rw [q123.2 ⟨h1, h2⟩] at p123; cases p123
  by_cases hlt : st.a + 1 < c.s.length
  case neg =>
    have hd : LX.dollar c.s (st.a + 1) = false := by rw [hb0, decide_eq_false hlt]; rfl
    have hpar : WP.parameter c.s (st.a + 1) = st.a + 1 := by unfold WP.parameter; rw [if_pos (by omega)]
    have hj : LX.joins c.s (st.a + 1) = false := by
      cases hj : LX.joins c.s (st.a + 1) with
      | false => rfl
      | true => have := (LX.joins_iff.1 hj).2.2; omega
    rw [if_neg (show ¬ (st.a + 1 < c.s.length ∧ LX.digit (bt c.s (st.a + 1)) = true) from fun h => hlt h.1), hpar, if_neg (show ¬ st.a + 1 < st.a + 1 by omega), joins_pre, hj, hd,
      if_neg (show ¬ (c.pl = 0 ∧ (Lib.hasPrefix (c.s.drop (st.a + 1)) [96] = true ∨ false = true)) from fun h => h.2.elim (fun e => hlt (q96.1 e).1) (fun e => by cases e)), if_neg (show ¬ (false = true) by simp),
      if_neg (show ¬ (c.pl = 0 ∧ (st.a + 1 < c.s.length ∧ bt c.s (st.a + 1) = 96 ∨ false = true)) from fun h => h.2.elim (fun e => hlt e.1) (fun e => by cases e))]
    exact ag_text (by simp) rfl
  case pos =>
  have m40 := n40 hlt
  have m123 := n123 hlt
  rw [decide_eq_true hlt, Bool.true_and] at hb0
  rw [joins_pre]
  have hpe : WP.parameter c.s (st.a + 1) = if WP.one8 (bt c.s (st.a + 1)) = true then st.a + 1 + 1 else if LX.digit (bt c.s (st.a + 1)) = true then st.a + 1 + WP.numLen (c.s.drop (st.a + 1)) 0 else if LX.starts (bt c.s (st.a + 1)) = true then LX.nameEnd c.s (st.a + 1) else st.a + 1 := by
    unfold WP.parameter; rw [if_neg (by omega)]
  have htl : ∀ e, WP.tooLong c.s (st.a + 1) e = (LX.starts (bt c.s (st.a + 1)) && decide (32 < e - (st.a + 1))) := fun e => rfl
  have hnx : LX.starts (bt c.s (st.a + 1)) = true → st.a + 1 < LX.nameEnd c.s (st.a + 1) := fun hs => by
    have := LX.nameEnd_go hlt (show (LX.starts (bt c.s (st.a + 1)) || LX.digit (bt c.s (st.a + 1))) = true by rw [hs]; rfl)
    have h2 := LX.nameEnd_ge c.s (st.a + 1 + 1)
    omega
  have q96' : (Lib.hasPrefix (c.s.drop (st.a + 1)) [96] = true) ↔ (st.a + 1 < c.s.length ∧ bt c.s (st.a + 1) = 96) := q96
  obtain ⟨n, hn, e⟩ := LX.bt_nat c.s (st.a + 1)
  have a1 := by1 n hn
  have a2 := by2 n hn
  have a3 := by3 n hn
  have a4 := by4 n hn
  unfold expansion
  rw [e] at hb0 m40 m123 hpe q96' hnx ⊢
  simp only [e] at htl
  have z123 : ¬ n = 123 := fun h => m123 (by omega)
  have z40 : ¬ n = 40 := fun h => m40 (by omega)
  cases hdg : LX.digit n with
  | true =>
    have b1 := a2 hdg
    rw [hdg] at hb0
    rw [if_pos ⟨hlt, rfl⟩, hb0, Bool.or_true, Bool.true_or, if_pos rfl, if_neg m123, if_neg (show ¬ ((n : Int) = 40 ∧ st.a + 2 < c.s.length ∧ bt c.s (st.a + 2) = 40) from fun h => m40 h.1), if_neg m40, b1, if_pos rfl]
    exact ag_leaf (by decide)
  | false =>
  rw [if_neg (show ¬ (st.a + 1 < c.s.length ∧ false = true) from fun h => by cases h.2)]
  cases h8 : WP.one8 n with
  | true =>
    obtain ⟨b1, b2, b3⟩ := a1 h8 hdg
    rw [h8, if_pos rfl] at hpe
    rw [hpe, if_pos (show st.a + 1 < st.a + 1 + 1 by omega), htl, b3, Bool.false_and, if_neg (show ¬ (false = true) by simp)]
    rw [b1, Bool.or_true] at hb0
    rw [hb0, if_pos rfl, if_neg m123, if_neg (show ¬ ((n : Int) = 40 ∧ st.a + 2 < c.s.length ∧ bt c.s (st.a + 2) = 40) from fun h => m40 h.1), if_neg m40, b2, if_pos rfl]
    exact ag_leaf (by decide)
  | false =>
  rw [h8, if_neg (show ¬ (false = true) by simp), hdg, if_neg (show ¬ (false = true) by simp)] at hpe
  have hsp0 : LX.special n = false := by
    cases hsp : LX.special n with
    | false => rfl
    | true => rcases a4 hsp with h | h | h
              · rw [h8] at h; cases h
              · exact absurd h z123
              · exact absurd h z40
  rw [hdg, hsp0, Bool.or_false, Bool.or_false] at hb0
  cases hst : LX.starts n with
  | true =>
    have b1 := a3 hst
    have hlt2 := hnx hst
    rw [hst, if_pos rfl] at hpe
    rw [hst] at hb0
    rw [hpe, if_pos hlt2, htl, hst, Bool.true_and, hb0, if_pos rfl, if_neg m123, if_neg (show ¬ ((n : Int) = 40 ∧ st.a + 2 < c.s.length ∧ bt c.s (st.a + 2) = 40) from fun h => m40 h.1), if_neg m40, b1, if_neg (show ¬ (false = true) by simp)]
    by_cases h32 : 32 < LX.nameEnd c.s (st.a + 1) - (st.a + 1)
    · rw [decide_eq_true h32, if_pos rfl, if_pos (show 32 < LX.nameEnd c.s (st.a + 1) - st.a - 1 by omega)]; exact ag_no
    · rw [decide_eq_false h32, if_neg (show ¬ (false = true) by simp), if_neg (show ¬ 32 < LX.nameEnd c.s (st.a + 1) - st.a - 1 by omega)]
      exact ag_leaf (by decide)
  | false =>
    rw [hst, if_neg (show ¬ (false = true) by simp)] at hpe
    rw [hst] at hb0
    rw [hpe, if_neg (show ¬ st.a + 1 < st.a + 1 by omega), hb0, if_neg (show ¬ (false = true) by simp)]
    by_cases hj : c.pl = 0 ∧ (Lib.hasPrefix (c.s.drop (st.a + 1)) [96] = true ∨ LX.joins c.s (st.a + 1) = true)
    · rw [if_pos hj, if_pos (show c.pl = 0 ∧ (st.a + 1 < c.s.length ∧ (n : Int) = 96 ∨ LX.joins c.s (st.a + 1) = true) from ⟨hj.1, hj.2.imp q96'.1 id⟩)]; exact ag_no
    · rw [if_neg hj, if_neg (show ¬ (c.pl = 0 ∧ (st.a + 1 < c.s.length ∧ (n : Int) = 96 ∨ LX.joins c.s (st.a + 1) = true)) from fun h => hj ⟨h.1, h.2.imp q96'.2 id⟩)]
      exact ag_text (by simp) rfl
end RP
end Go.Proofs.YtcbdhheelddgeaaGreatDoor
namespace Go.Proofs.YtcbdhheelddgeaaGreatDoor
open K
namespace RP
open WP (Part Ctx Str St Flt)
theorem cut_cons {s : Str} {i b : Nat} (h : i < b) (hb : b ≤ s.length) : cut s i b = by8 (bt s i) :: cut s (i + 1) b := by
  obtain ⟨x, hx, hbx, _⟩ := drop_cons s i (by omega)
  unfold cut
  rw [List.drop_take, List.drop_take, hx, by8_bt hbx, show b - i = (b - (i + 1)) + 1 by omega, List.take_succ_cons]
theorem wunq_go {y : UInt8} (h : y ≠ 92) : ∀ r : Str, WP.unq (y :: r) = y :: WP.unq r
  | [] => by rw [WP.unq, WP.unq]
  | z :: r => by rw [WP.unq, if_neg (fun e => h e.1)]
theorem by8_ne {s : Str} {i : Nat} {c : UInt8} (h : ¬ bt s i = (c.toNat : Int)) : by8 (bt s i) ≠ c := fun e => h (by
  rw [← e, by8_toNat _ (bt_nonneg s i) (bt_le s i)])
theorem by8_is {s : Str} {i : Nat} {c : UInt8} (h : bt s i = (c.toNat : Int)) : by8 (bt s i) = c := by rw [h, by8_of]
theorem unq_eq : ∀ (f : Nat) (s : Str) (a i e g : Nat), LX.bkq f s a i = (e, 0) → e ≤ s.length → e - i ≤ g → unq g s i (e - 1) = WP.unq (cut s i (e - 1))
  | 0, s, a, i, e, g, h, _, _ => by rw [LX.bkq] at h; simp at h
  | f + 1, s, a, i, e, g, h, he, hg => by
    rw [LX.bkq] at h
    by_cases hi : i < s.length
    case neg => rw [if_neg hi] at h; simp at h
    rw [if_pos hi] at h
    by_cases h96 : bt s i = 96
    · rw [if_pos h96] at h
      have : i + 1 = e := congrArg Prod.fst h
      rw [show e - 1 = i by omega, unq_end (Nat.lt_irrefl i), cut_empty, WP.unq]
    rw [if_neg h96] at h
    by_cases h92 : bt s i = 92
    · rw [if_pos h92] at h
      by_cases hl : i + 1 = s.length
      · rw [if_pos hl] at h; simp at h
      rw [if_neg hl] at h
      have hfar := LX.bkq_far f s a (i + 2) e h
      obtain ⟨g', rfl⟩ : ∃ g', g = g' + 1 := ⟨g - 1, by omega⟩
      rw [cut_cons (show i < e - 1 by omega) (by omega), cut_cons (show i + 1 < e - 1 by omega) (by omega), by8_is (c := 92) h92]
      by_cases hs : bt s (i + 1) = 96 ∨ bt s (i + 1) = 92 ∨ bt s (i + 1) = 36
      · rw [unq_yes (by omega) h92 hs, cut_one s (i + 1) (by omega), unq_eq f s a (i + 2) e g' h he (by omega), WP.unq, if_pos]
        · rfl
        · exact ⟨rfl, hs.imp (by8_is (c := 96)) (fun h => h.imp (by8_is (c := 92)) (by8_is (c := 36)))⟩
      · rw [unq_no (by omega) (fun h => hs h.2), cut_one s i (by omega), by8_is (c := 92) h92]
        obtain ⟨g2, rfl⟩ : ∃ g2, g' = g2 + 1 := ⟨g' - 1, by omega⟩
        rw [unq_no (by omega) (fun h => hs (.inr (.inl h.1))), cut_one s (i + 1) (by omega), unq_eq f s a (i + 2) e g2 h he (by omega), WP.unq, if_neg, wunq_go (by8_ne (c := 92) fun h => hs (.inr (.inl h)))]
        · rfl
        · rintro ⟨_, h | h | h⟩
          · exact by8_ne (c := 96) (fun h => hs (.inl h)) h
          · exact by8_ne (c := 92) (fun h => hs (.inr (.inl h))) h
          · exact by8_ne (c := 36) (fun h => hs (.inr (.inr h))) h
    · rw [if_neg h92] at h
      have hfar := LX.bkq_far f s a (i + 1) e h
      obtain ⟨g', rfl⟩ : ∃ g', g = g' + 1 := ⟨g - 1, by omega⟩
      rw [unq_no (by omega) (fun h => h92 h.1), cut_one s i (by omega), unq_eq f s a (i + 1) e g' h he (by omega), cut_cons (show i < e - 1 by omega) (by omega), wunq_go (by8_ne (c := 92) h92)]
      rfl
theorem pre0 {t : Str} {c : UInt8} : Lib.hasPrefix t [c] = true ↔ 0 < t.length ∧ bt t 0 = (c.toNat : Int) := by
  have := pre1 (s := t) (e := 0) (c := c)
  rwa [List.drop_zero] at this
theorem sp_eq (t : Str) : WP.bqText t = sp t := by
  unfold WP.bqText sp
  by_cases h : Lib.hasPrefix t [40] = true
  · obtain ⟨h1, h2⟩ := pre0.1 h
    rw [if_pos h, if_pos ⟨fun e => by rw [e] at h1; simp at h1, h2⟩]
  · rw [if_neg h, if_neg (fun h2 => h (pre0.2 ⟨List.length_pos_iff.2 h2.1, h2.2⟩))]
theorem sp_free (t : Str) : sp t = [] ∨ ¬ bt (sp t) 0 = 40 := by
  unfold sp
  by_cases h : ¬ t = [] ∧ bt t 0 = 40
  · rw [if_pos h]; exact .inr (fun e => absurd (show (32 : Int) = 40 from e) (by decide))
  · rw [if_neg h]
    by_cases h2 : t = []
    · exact .inl h2
    · exact .inr fun e => h ⟨h2, e⟩
theorem sp_nl (t : Str) : sp t ++ [10] = [] ∨ ¬ bt (sp t ++ [10]) 0 = 40 := by
  rcases sp_free t with h | h
  · rw [h]; exact .inr (by decide)
  · refine .inr fun e => h ?_
    cases hs : sp t with
    | nil => rw [hs] at e; exact absurd e (by decide)
    | cons x r => rw [hs] at e; exact e
theorem closed_eq {t : Str} (hl : t.length + 3 ≤ 16384) (h : t = [] ∨ ¬ bt t 0 = 40) : closed t = WP.subst t := by
  unfold closed WP.subst LX.close
  have hb : LX.begins (36 :: 40 :: (t ++ [41])) 0 = true := by
    unfold LX.begins
    rw [if_pos (show bt (36 :: 40 :: (t ++ [41])) 0 = 36 from rfl)]
    unfold LX.dollar
    rw [decide_eq_true (show 0 + 1 < (36 :: 40 :: (t ++ [41])).length by simp)]
    rfl
  rw [decide_eq_true h, Bool.and_true, big_construct hb (.inl rfl), if_neg (show ¬ 16384 < (36 :: 40 :: (t ++ [41])).length by simp; omega), if_pos ⟨by simp, hb⟩]
theorem backquoted_ag {c : Ctx} {st : St} (hl : c.s.length + 3 ≤ 16384) (ha : st.a < c.s.length) (hb : bt c.s st.a = 96) : Ag st (WP.backquoted c st) (backquoted c.s st.a) := by
  have hbg : LX.begins c.s st.a = true := by
    unfold LX.begins
    rw [if_neg (show ¬ bt c.s st.a = 36 by rw [hb]; decide), hb]; rfl
  have hbb := big_construct (q := false) (d := false) hbg (.inl rfl)
  have hgood := big_good c.s st.a false false ha
  unfold WP.backquoted backquoted
  rw [cls_big (by omega) ha hbg hbb]
  obtain ⟨⟨e, x⟩, hx⟩ : ∃ r, big c.s st.a false false = r := ⟨_, rfl⟩
  rw [hx] at hbb hgood ⊢
  dsimp only
  by_cases h0 : x = 0
  · subst h0
    rw [if_pos rfl, if_pos rfl]
    dsimp only
    have hk : LX.bkq (3 * c.s.length + 2) c.s st.a (st.a + 1) = (e, 0) := by
      rw [LX.construct_eq, LX.con, if_neg (by rw [hb]; decide), if_neg (by rw [hb]; decide), if_neg (by rw [hb]; decide), if_pos hb] at hbb
      exact hbb.symm
    have he : e ≤ c.s.length := hgood.1
    have hu := unq_eq _ _ _ _ _ (c.s.length + 1) hk he (by omega)
    have hlen := unq_len (c.s.length + 1) c.s (st.a + 1) (e - 1)
    rw [← hu, sp_eq]
    have hsl := sp_len (unq (c.s.length + 1) c.s (st.a + 1) (e - 1))
    unfold command
    rw [closed_eq (by omega) (sp_free _), closed_eq (by rw [List.length_append]; simp; omega) (sp_nl _)]
    generalize sp (unq (c.s.length + 1) c.s (st.a + 1) (e - 1)) = t
    cases WP.subst t with
    | true => rw [if_pos rfl, if_pos rfl]; exact ag_leaf (by decide)
    | false =>
      rw [if_neg (show ¬ (false = true) by simp), if_neg (show ¬ (false = true) by simp)]
      cases WP.subst (t ++ [10]) with
      | true => rw [if_pos rfl, if_pos rfl]; exact ag_leaf (by decide)
      | false => rw [if_neg (show ¬ (false = true) by simp), if_neg (show ¬ (false = true) by simp)]; exact ag_no
  · rw [if_neg h0, if_neg h0]; exact ag_no
theorem put_dep (st : St) (r : List Part × Nat) : { put st r with dep := st.dep } = put st r := by
  obtain ⟨xs, k⟩ := r
  unfold put
  match xs with
  | [] => rfl
  | .mk kd t o b ps :: _ =>
    dsimp only
    by_cases h : kd = 1
    · rw [if_pos h]
    · rw [if_neg h]
      unfold WP.add WP.flush
      split <;> rfl
def AgD (st : St) (d : Nat) (A : Except Flt St) (B : Res) : Prop :=
  match A with
  | .error _ => B = none
  | .ok st' => ∃ xs k, B = some (xs, k) ∧ Shape xs ∧ st' = { put st (xs, k) with dep := d }
theorem ag_d {st : St} {d : Nat} {A : Except Flt St} {B : Res} (h : Ag st A B) (hd : d = st.dep) : AgD st d A B := by
  cases A with
  | error x => exact h
  | ok st' =>
    obtain ⟨xs, k, h1, h2, h3⟩ := h
    exact ⟨xs, k, h1, h2, by rw [hd, put_dep, h3]⟩
theorem depth_same {c : Ctx} {a d : Nat} (h : ¬ c.pl = 2 ∨ (¬ bt c.s a = 40 ∧ ¬ bt c.s a = 41)) : depth c a d = d := by
  unfold depth
  by_cases h1 : c.pl = 2 ∧ c.op = false
  · rcases h with h | ⟨h2, h3⟩
    · exact absurd h1.1 h
    · rw [if_pos h1, if_neg h2, if_neg h3]
  · rw [if_neg h1]
theorem quoted_ag {N : WP.Nest} {M : NestR} {c : Ctx} {st : St} (hN : NRel c.s N M) (hlv : c.lv ≤ 32) (hl : c.s.length ≤ 16384) (ha : st.a < c.s.length) (hq : bt c.s st.a = 39 ∨ bt c.s st.a = 34) : Ag st (WP.unquoted N c st) (quoted M c st.a) := by
  unfold WP.unquoted quoted
  by_cases h39 : bt c.s st.a = 39
  · rw [if_pos h39, if_pos h39]
    have hbg : LX.begins c.s st.a = true := by
      unfold LX.begins
      rw [if_neg (show ¬ bt c.s st.a = 36 by rw [h39]; decide), h39]; rfl
    rw [cls_big hl ha hbg (big_construct (q := false) (d := false) hbg (.inl rfl))]
    by_cases h0 : (big c.s st.a false false).2 = 0
    · rw [if_pos h0, if_pos h0]; exact ag_leaf (by decide)
    · rw [if_neg h0, if_neg h0]; exact ag_no
  rw [if_neg h39, if_neg h39, if_pos (hq.resolve_left h39)]
  by_cases h32 : c.lv = 32
  · rw [if_pos h32, if_pos (show 32 ≤ c.lv by omega)]; exact ag_no
  rw [if_neg h32, if_neg (show ¬ 32 ≤ c.lv by omega)]
  have h := hN ⟨c.s, 1, false, c.lv + 1, st.a⟩ (st.a + 1) rfl (show (1 : Nat) ≤ 2 by omega) (fun h => by cases h.1) (by show (0 : Int) ≤ st.a; omega) (by show c.lv + 1 ≤ 32; omega) (by omega)
  cases hn : N ⟨c.s, 1, false, c.lv + 1, st.a⟩ (st.a + 1) with
  | error x => rw [hn] at h; rw [← h]; exact ag_no
  | ok r => obtain ⟨ps, j⟩ := r; rw [hn] at h; rw [← h]; exact ag_add (by decide)
theorem next_ag {N : WP.Nest} {M : NestR} {c : Ctx} {st : St} (hN : NRel c.s N M) (hpl : c.pl ≤ 2) (hlv : c.lv ≤ 32) (hl : c.s.length + 3 ≤ 16384) (ha : st.a < c.s.length) (he : ends c st.a st.dep = false)
    (ht : c.pl = 0 → bt c.s st.a = 126 → WP.tilde c st = false) : AgD st (depth c st.a st.dep) (WP.next N c st) (part M c st.a) := by
  have hc1 := cut_one c.s st.a ha
  unfold WP.next part
  by_cases h92 : bt c.s st.a = 92
  · rw [if_pos h92, if_pos h92]
    exact ag_d (backslash_ag ha h92 hpl) (depth_same (.inr (by rw [h92]; decide)))
  rw [if_neg h92, if_neg h92]
  by_cases h36 : bt c.s st.a = 36
  · rw [if_pos h36, if_neg (show ¬ bt c.s st.a = 96 by rw [h36]; decide), if_pos h36]
    exact ag_d (dollar_ag hN hpl hlv (by omega) ha h36) (depth_same (.inr (by rw [h36]; decide)))
  rw [if_neg h36]
  by_cases h96 : bt c.s st.a = 96
  · rw [if_pos h96, if_pos h96]
    exact ag_d (backquoted_ag hl ha h96) (depth_same (.inr (by rw [h96]; decide)))
  rw [if_neg h96, if_neg h96, if_neg h36]
  by_cases h0 : c.pl = 0
  · rw [if_pos h0]
    by_cases hq : bt c.s st.a = 39 ∨ bt c.s st.a = 34
    · rw [if_pos ⟨h0, hq⟩]
      exact ag_d (quoted_ag hN hlv (by omega) ha hq) (depth_same (.inl (by omega)))
    rw [if_neg (show ¬ (c.pl = 0 ∧ (bt c.s st.a = 39 ∨ bt c.s st.a = 34)) from fun h => hq h.2)]
    refine ag_d ?_ (depth_same (.inl (by omega)))
    unfold WP.unquoted
    rw [if_neg (show ¬ bt c.s st.a = 39 from fun h => hq (.inl h)), if_neg (show ¬ bt c.s st.a = 34 from fun h => hq (.inr h))]
    rw [if_neg (show ¬ (c.pl = 1 ∧ c.op = true ∧ bt c.s st.a = 34) from fun h => hq (.inr h.2.2))]
    have hlit : Ag st (.ok (WP.lit (by8 (bt c.s st.a)) 1 st)) (leaf 1 (cut c.s st.a (st.a + 1)) (st.a + 1)) := by
      rw [hc1]; exact ag_text (by simp) rfl
    cases hd : LX.divides (bt c.s st.a) with
    | true =>
      rw [if_pos rfl]
      cases ho : c.op with
      | true => rw [if_pos rfl, if_neg (show ¬ (c.pl = 0 ∧ true = false ∧ true = true) from fun h => by cases h.2.1)]; exact hlit
      | false => rw [if_neg (show ¬ (false = true) by simp), if_pos ⟨h0, rfl, rfl⟩]; exact ag_no
    | false =>
      rw [if_neg (show ¬ (false = true) by simp), if_neg (show ¬ (c.pl = 0 ∧ c.op = false ∧ false = true) from fun h => by cases h.2.2)]
      rw [if_neg (show ¬ (bt c.s st.a = 126 ∧ WP.tilde c st = true) from fun h => by rw [ht h0 h.1] at h; cases h.2)]
      exact hlit
  · rw [if_neg h0, if_neg (show ¬ (c.pl = 0 ∧ (bt c.s st.a = 39 ∨ bt c.s st.a = 34)) from fun h => h0 h.1), if_neg (show ¬ (c.pl = 0 ∧ c.op = false ∧ LX.divides (bt c.s st.a) = true) from fun h => h0 h.1)]
    by_cases h34 : bt c.s st.a = 34 ∧ c.pl = 1
    · rw [if_pos h34]
      cases ho : c.op with
      | true => rw [if_pos (show c.pl = 1 ∧ true = true ∧ bt c.s st.a = 34 from ⟨h34.2, rfl, h34.1⟩)]; rfl
      | false =>
        unfold ends at he
        rw [ho, if_neg (show ¬ (false = true) by simp), if_pos h34.2, decide_eq_true h34.1] at he
        cases he
    · rw [if_neg h34, if_neg (show ¬ (c.pl = 1 ∧ c.op = true ∧ bt c.s st.a = 34) from fun h => h34 ⟨h.2.2, h.1⟩), hc1]
      exact ⟨_, _, rfl, .inr ⟨1, _, 0, false, [], rfl, fun _ => ⟨by simp, rfl, rfl, rfl⟩⟩, rfl⟩
end RP
end Go.Proofs.YtcbdhheelddgeaaGreatDoor
namespace Go.Proofs.YtcbdhheelddgeaaGreatDoor
open K
namespace RP
open WP (Part Ctx Str St Flt)
/-- Behind what was read there is no text that a further byte would be joined to, but the one that is being read. -/
def Fit (st : St) : Prop := st.tx = [] → ∀ t o b ps, st.ls.getLast? ≠ some (.mk 1 t o b ps)
theorem flush_ls (st : St) : (WP.flush st).ls = if st.tx = [] then st.ls else st.ls ++ [.mk 1 st.tx 0 false []] := by
  unfold WP.flush; split <;> rfl
theorem flush_tx (st : St) : (WP.flush st).tx = [] := by
  unfold WP.flush
  split
  · assumption
  · rfl
theorem withT_text (l : List Part) (u t : Str) : withT (l ++ [.mk 1 u 0 false []]) t = l ++ [.mk 1 (u ++ t) 0 false []] := by
  unfold withT
  rw [List.getLast?_concat, List.dropLast_concat]
  rfl
theorem apps_text (l : List Part) (t : Str) (o : Nat) (b : Bool) (ps : List Part) : apps l [.mk 1 t o b ps] = withT l t := rfl
theorem apps_no (l : List Part) {k : Nat} (h : ¬ k = 1) (t : Str) (o : Nat) (b : Bool) (ps : List Part) : apps l [.mk k t o b ps] = l ++ [.mk k t o b ps] := by
  show (if k = 1 then _ else _) = _
  rw [if_neg h]
theorem withT_no {l : List Part} {t : Str} (h : ∀ u o b ps, l.getLast? ≠ some (.mk 1 u o b ps)) : withT l t = l ++ [.mk 1 t 0 false []] := by
  unfold withT
  split
  · rename_i u o b ps hl
    exact absurd hl (h _ _ _ _)
  · rfl
theorem put_ls {st : St} (hf : Fit st) {xs : List Part} {k : Nat} (h : Shape xs) (d : Nat) :
    (WP.flush { put st (xs, k) with dep := d }).ls = apps (WP.flush st).ls xs ∧ Fit { put st (xs, k) with dep := d } ∧ ({ put st (xs, k) with dep := d } : St).a = k := by
  rcases h with rfl | ⟨kd, t, o, b, ps, rfl, h1⟩
  · refine ⟨?_, hf, rfl⟩
    rw [flush_ls, flush_ls]
    rfl
  · by_cases hk : kd = 1
    · subst hk
      obtain ⟨ht, rfl, rfl, rfl⟩ := h1 rfl
      have hp : ({ put st ([.mk 1 t 0 false []], k) with dep := d } : St) = { st with tx := st.tx ++ t, a := k, dep := d } := by
        unfold put; dsimp only; rw [if_pos rfl]
      rw [hp]
      have hne : ¬ st.tx ++ t = [] := fun e => ht (List.append_eq_nil_iff.1 e).2
      refine ⟨?_, fun e => absurd e hne, rfl⟩
      rw [flush_ls, if_neg hne, flush_ls]
      rw [apps_text]
      by_cases htx : st.tx = []
      · rw [if_pos htx, withT_no (hf htx), htx]; rfl
      · rw [if_neg htx, withT_text]
    · have hp : ({ put st ([.mk kd t o b ps], k) with dep := d } : St) = { WP.add (.mk kd t o b ps) k st with dep := d } := by
        unfold put; dsimp only; rw [if_neg hk]
      rw [hp]
      have htx : ({ WP.add (.mk kd t o b ps) k st with dep := d } : St).tx = [] := flush_tx st
      refine ⟨?_, fun _ u o' b' ps' e => ?_, rfl⟩
      · rw [flush_ls, if_pos htx]
        rw [apps_no _ hk]
        rfl
      · have : ({ WP.add (.mk kd t o b ps) k st with dep := d } : St).ls = (WP.flush st).ls ++ [.mk kd t o b ps] := rfl
        rw [this, List.getLast?_concat] at e
        injection e with e
        injection e with e
        exact hk e
theorem strip_over : ∀ (f : Nat) (s : Str) (i : Nat), WP.strip f (s.drop i) = s.drop (over f s i)
  | 0, _, _ => rfl
  | f + 1, s, i => by
    rw [WP.strip, over, joins_pre]
    cases LX.joins s i with
    | true => rw [if_pos rfl, if_pos rfl, List.drop_drop, strip_over f s (i + 2)]
    | false => rw [if_neg (by simp), if_neg (by simp)]
theorem tilde_eq {c : Ctx} {a : Nat} (h0 : c.pl = 0) (h126 : bt c.s a = 126) (ha : a < c.s.length) : tilde c a = WP.tildeAt c.s a c.op := by
  unfold tilde WP.tildeAt
  have hd : WP.strip c.s.length (c.s.drop (a + 1)) = c.s.drop (over (c.s.length + 1) c.s (a + 1)) := by
    rw [strip_over, over_far c.s.length (c.s.length + 1) c.s (a + 1) (by omega) (by omega)]
  rw [hd, bt_drop, Nat.add_zero, decide_eq_true h0, decide_eq_true h126, Bool.true_and, Bool.true_and]
  rw [show decide (c.s.drop (over (c.s.length + 1) c.s (a + 1)) = []) = decide (c.s.length ≤ over (c.s.length + 1) c.s (a + 1)) from decide_eq_decide.2 List.drop_eq_nil_iff]
  rfl
theorem ends_true {c : Ctx} {st : St} (ha : st.a < c.s.length) (h : ends c st.a st.dep = true) :
    (if c.pl = 2 ∧ c.op = false ∧ (st.a + 1 = c.s.length ∨ ¬ bt c.s (st.a + 1) = 41) then toO (WP.ended c st) = none else WP.ended c st = .ok true) := by
  unfold ends at h
  unfold WP.ended
  rw [if_neg (show ¬ st.a = c.s.length by omega)]
  cases ho : c.op with
  | true =>
    rw [ho, if_pos rfl] at h
    rw [if_pos rfl, if_neg (show ¬ (c.pl = 2 ∧ true = false ∧ (st.a + 1 = c.s.length ∨ ¬ bt c.s (st.a + 1) = 41)) from fun e => by cases e.2.1), h]
  | false =>
    rw [ho, if_neg (show ¬ (false = true) by simp)] at h
    rw [if_neg (show ¬ (false = true) by simp)]
    by_cases h1 : c.pl = 1
    · rw [if_pos h1] at h
      rw [if_pos h1, if_neg (show ¬ (c.pl = 2 ∧ false = false ∧ (st.a + 1 = c.s.length ∨ ¬ bt c.s (st.a + 1) = 41)) from fun e => by omega), h]
    rw [if_neg h1] at h
    rw [if_neg h1]
    by_cases h2 : c.pl = 2
    · rw [if_pos h2] at h
      obtain ⟨g1, g2⟩ := of_decide_eq_true h
      rw [if_pos (show c.pl = 2 ∧ bt c.s st.a = 41 ∧ st.dep = 0 from ⟨h2, g1, g2⟩)]
      by_cases h3 : st.a + 1 = c.s.length
      · rw [if_pos (show c.pl = 2 ∧ false = false ∧ (st.a + 1 = c.s.length ∨ ¬ bt c.s (st.a + 1) = 41) from ⟨h2, rfl, .inl h3⟩), if_pos h3]; rfl
      rw [if_neg h3]
      by_cases h4 : bt c.s (st.a + 1) = 41
      · rw [if_neg (show ¬ (c.pl = 2 ∧ false = false ∧ (st.a + 1 = c.s.length ∨ ¬ bt c.s (st.a + 1) = 41)) from fun e => e.2.2.elim h3 (fun e => e h4)), if_pos h4]
      · rw [if_pos (show c.pl = 2 ∧ false = false ∧ (st.a + 1 = c.s.length ∨ ¬ bt c.s (st.a + 1) = 41) from ⟨h2, rfl, .inr h4⟩), if_neg h4]; rfl
    · rw [if_neg h2] at h; cases h
theorem ends_false {c : Ctx} {st : St} (ha : st.a < c.s.length) (h : ends c st.a st.dep = false) : WP.ended c st = .ok false := by
  unfold ends at h
  unfold WP.ended
  rw [if_neg (show ¬ st.a = c.s.length by omega)]
  cases ho : c.op with
  | true =>
    rw [ho, if_pos rfl] at h
    rw [if_pos rfl, h]
  | false =>
    rw [ho, if_neg (show ¬ (false = true) by simp)] at h
    rw [if_neg (show ¬ (false = true) by simp)]
    by_cases h1 : c.pl = 1
    · rw [if_pos h1] at h
      rw [if_pos h1, h]
    rw [if_neg h1] at h
    rw [if_neg h1]
    by_cases h2 : c.pl = 2
    · rw [if_pos h2] at h
      have := of_decide_eq_false h
      rw [if_neg (fun e => this ⟨e.2.1, e.2.2⟩)]
    · rw [if_neg (fun e => h2 e.1)]
/-- What a sequence gives, its last text laid down. -/
def outR (A : Except Flt St) : Res := (toO A).map fun y => (y.ls, y.a)
theorem run_eq : ∀ (f : Nat) (c : Ctx) (st : St), c.s.length + 3 ≤ 16384 → c.pl ≤ 2 → c.lv ≤ 32 → (0 ≤ c.opn ↔ ¬ (c.pl = 0 ∧ c.op = false)) → st.a ≤ c.s.length → Fit st →
    outR (WP.run f c st) = run f c (WP.flush st).ls st.a st.dep
  | 0, c, st, _, _, _, _, _, _ => rfl
  | f + 1, c, st, hl, hpl, hlv, hop, ha, hf => by
    have hN : NRel c.s (WP.nest f) (nest f) := fun c' k hs hp ho hopn hl2 hk => by
      have := run_eq f c' ⟨k, 0, [], []⟩ (by rw [hs]; exact hl) hp hl2 ⟨fun _ => ho, fun _ => hopn⟩ (by rw [hs]; exact hk) (fun _ t o b ps e => by cases e)
      unfold WP.nest nest
      rw [show (WP.flush ⟨k, 0, [], []⟩).ls = [] from rfl] at this
      rw [← this]
      cases WP.run f c' ⟨k, 0, [], []⟩ with
      | error x => rfl
      | ok y => rfl
    rw [WP.run_succ, run_succ]
    by_cases hlt : st.a < c.s.length
    case neg =>
      rw [if_neg hlt]
      have hend : WP.ended c st = if 0 ≤ c.opn then .error (c.opn, 7) else .ok true := by unfold WP.ended; rw [if_pos (show st.a = c.s.length by omega)]
      rw [hend]
      by_cases ho : 0 ≤ c.opn
      · rw [if_pos ho, if_neg (hop.1 ho)]; rfl
      · rw [if_neg ho, if_pos (Decidable.not_not.1 (fun h => ho (hop.2 h)))]
        show some ((WP.flush st).ls, (WP.flush st).a) = _
        rw [WP.flush_a']
    rw [if_pos hlt]
    cases he : ends c st.a st.dep with
    | true =>
      rw [if_pos rfl]
      have h1 := ends_true hlt he
      by_cases h2 : c.pl = 2 ∧ c.op = false ∧ (st.a + 1 = c.s.length ∨ ¬ bt c.s (st.a + 1) = 41)
      · rw [if_pos h2] at h1 ⊢
        cases hE : WP.ended c st with
        | error x => rfl
        | ok b => rw [hE] at h1; cases h1
      · rw [if_neg h2] at h1 ⊢
        rw [h1]
        show some ((WP.flush st).ls, (WP.flush st).a) = _
        rw [WP.flush_a']
    | false =>
      rw [if_neg (show ¬ (false = true) by simp), ends_false hlt he]
      dsimp only
      have hemp : (WP.flush st).ls = [] ↔ (st.ls = [] ∧ st.tx = []) := by
        rw [flush_ls]
        by_cases h : st.tx = []
        · rw [if_pos h]; exact ⟨fun e => ⟨e, h⟩, fun e => e.1⟩
        · rw [if_neg h]; exact ⟨fun e => by simp at e, fun e => absurd e.2 h⟩
      have htil : bt c.s st.a = 126 → c.pl = 0 → (WP.tilde c st = (decide ((WP.flush st).ls = []) && tilde c st.a)) := fun h1 h0 => by
        unfold WP.tilde
        rw [tilde_eq h0 h1 hlt, decide_eq_decide.2 hemp]
      by_cases ht : (WP.flush st).ls = [] ∧ tilde c st.a = true
      · rw [if_pos ht]
        have h2 := ht.2
        unfold tilde at h2
        rw [Bool.and_eq_true, Bool.and_eq_true, decide_eq_true_eq, decide_eq_true_eq] at h2
        obtain ⟨⟨h0, h126⟩, -⟩ := h2
        have hwt := htil h126 h0
        rw [ht.2, decide_eq_true ht.1] at hwt
        have hnx : WP.next (WP.nest f) c st = .ok (WP.add (.mk 7 [] 0 false []) (st.a + 1) st) := by
          unfold WP.next
          rw [if_neg (by rw [h126]; decide), if_neg (by rw [h126]; decide), if_neg (by rw [h126]; decide), if_pos h0]
          unfold WP.unquoted
          rw [if_neg (by rw [h126]; decide), if_neg (by rw [h126]; decide), if_neg (by rw [h126]; decide), if_pos ⟨h126, hwt⟩]
        rw [hnx]
        dsimp only
        have hput : WP.add (.mk 7 [] 0 false []) (st.a + 1) st = { put st ([.mk 7 [] 0 false []], st.a + 1) with dep := st.dep } := by rw [put_dep]; rfl
        obtain ⟨p1, p2, p3⟩ := put_ls hf (k := st.a + 1) (xs := [.mk 7 [] 0 false []]) (.inr ⟨7, [], 0, false, [], rfl, fun e => by cases e⟩) st.dep
        rw [hput, run_eq f c _ hl hpl hlv hop (by rw [p3]; omega) p2, p1, p3]
        rfl
      · rw [if_neg ht]
        have hag := next_ag hN hpl hlv hl hlt he (fun h0 h126 => by
          rw [htil h126 h0]
          cases h3 : tilde c st.a with
          | false => rw [Bool.and_false]
          | true => rw [decide_eq_false (fun e => ht ⟨e, h3⟩)]; rfl)
        cases hnx : WP.next (WP.nest f) c st with
        | error x => rw [hnx] at hag; rw [show part (nest f) c st.a = none from hag]; rfl
        | ok st' =>
          rw [hnx] at hag
          obtain ⟨xs, k, h1, h2, h3⟩ := hag
          rw [h1]
          dsimp only
          obtain ⟨p1, p2, p3⟩ := put_ls hf (k := k) h2 (depth c st.a st.dep)
          have hk := (part_good (nest_good f c.s) hlt h1).2
          rw [h3, run_eq f c _ hl hpl hlv hop (by rw [p3]; exact hk) p2, p1, p3]
/-- The offset of the open construct makes no difference. -/
theorem run_opn : ∀ (f : Nat) (s : Str) (pl : Nat) (op : Bool) (lv : Nat) (o o' : Int) (l : List Part) (a d : Nat), run f ⟨s, pl, op, lv, o⟩ l a d = run f ⟨s, pl, op, lv, o'⟩ l a d
  | 0, _, _, _, _, _, _, _, _, _ => rfl
  | f + 1, s, pl, op, lv, o, o', l, a, d => by
    rw [run_succ, run_succ]
    have hp : part (nest f) ⟨s, pl, op, lv, o⟩ a = part (nest f) ⟨s, pl, op, lv, o'⟩ a := rfl
    have he : ends ⟨s, pl, op, lv, o⟩ a d = ends ⟨s, pl, op, lv, o'⟩ a d := rfl
    have ht : tilde ⟨s, pl, op, lv, o⟩ a = tilde ⟨s, pl, op, lv, o'⟩ a := rfl
    have hd : depth ⟨s, pl, op, lv, o⟩ a d = depth ⟨s, pl, op, lv, o'⟩ a d := rfl
    rw [hp, he, ht, hd, run_opn f s pl op lv o o' (l ++ [WP.Part.mk 7 [] 0 false []]) (a + 1) d]
    split
    · split
      · rfl
      · split
        · rfl
        · split
          · rfl
          · exact run_opn f s pl op lv o o' _ _ _
    · rfl
/-- Parse of the reference is Parse of the program, its error struck. -/
theorem parse_eq {s : Str} (hl : s.length + 3 ≤ 16384) : toO (WP.parse s 0) = parse s := by
  unfold WP.parse parse
  rw [if_neg (show ¬ 16384 < s.length by omega), if_neg (show ¬ 16384 < s.length by omega)]
  have h := run_eq (s.length + 1) ⟨s, 0, false, 1, -1⟩ ⟨0, 0, [], []⟩ hl (Nat.zero_le _) (show (1 : Nat) ≤ 32 by omega) ⟨fun h => absurd (show (0 : Int) ≤ -1 from h) (by decide), fun h => absurd ⟨rfl, rfl⟩ h⟩ (Nat.zero_le _) (fun _ t o b ps e => by cases e)
  rw [show (WP.flush ⟨0, 0, [], []⟩).ls = [] from rfl, run_opn _ s 0 false 1 (-1) 0] at h
  rw [show run (s.length + 1) ⟨s, 0, false, 1, 0⟩ [] 0 0 = outR (WP.run (s.length + 1) ⟨s, 0, false, 1, -1⟩ ⟨0, 0, [], []⟩) from h.symm]
  cases WP.run (s.length + 1) ⟨s, 0, false, 1, -1⟩ ⟨0, 0, [], []⟩ with
  | error x => rfl
  | ok y => rfl
end RP
end Go.Proofs.YtcbdhheelddgeaaGreatDoor
