/- Chapter 1 in plain Lean: escapes: the program's step inverts an escape, and the reference's search finds the same. -/
import Derived.Test.YtabhfodjfikdaaaDoorP01c
namespace Go.Proofs.YtabhfodjfikdaaaDoor
open K
namespace P

theorem escape_le (l : List UInt8) : (escape l).length ≤ 4 * l.length := by
  induction l with
  | nil => simp [escape]
  | cons x r ih => have := esc1_le x; simp [escape]; omega
theorem esc1_print_small : ∀ n : Nat, n < 256 → (esc1 (UInt8.ofNat n)).all (fun x => decide (32 ≤ iv x) && decide (iv x ≤ 126)) = true := by decide +kernel
theorem esc1_print (x : UInt8) : (esc1 x).all (fun x => decide (32 ≤ iv x) && decide (iv x ≤ 126)) = true := by
  have := esc1_print_small x.toNat x.toNat_lt
  rwa [show UInt8.ofNat x.toNat = x by simp] at this
theorem escape_all (l : List UInt8) : (escape l).all (fun x => decide (32 ≤ iv x) && decide (iv x ≤ 126)) = true := by
  induction l with
  | nil => rfl
  | cons x r ih => rw [escape, List.all_append, esc1_print, ih]; rfl
theorem escape_print (l : List UInt8) : ∀ k, k < (escape l).length → 32 ≤ bt (escape l) k ∧ bt (escape l) k ≤ 126 := by
  intro k hk
  have := List.all_eq_true.1 (escape_all l) _ (List.getElem_mem hk)
  rw [bt_of _ _ hk]
  rw [Bool.and_eq_true] at this
  exact ⟨of_decide_eq_true this.1, of_decide_eq_true this.2⟩

/-! ### One step -/
theorem hexv_small : ∀ n : Nat, n < 16 → hexv (iv (hexd n)) = n := by decide +kernel
theorem hexv_hexd (c : Int) (h0 : 0 ≤ c) (h1 : c < 16) : hexv (iv (hexd c)) = c := by
  have := hexv_small c.toNat (by omega)
  rwa [show ((c.toNat : Nat) : Int) = c by omega] at this
theorem hexd_small : ∀ n : Nat, n < 256 → 0 ≤ hexv n → iv (hexd (hexv n)) = n := by decide +kernel
theorem hexd_hexv (x : UInt8) (h : 0 ≤ hexv (iv x)) : hexd (hexv (iv x)) = x := by
  have := hexd_small x.toNat x.toNat_lt h
  apply UInt8.toNat_inj.1
  unfold iv at this ⊢
  omega
theorem hexv_le15 : ∀ n : Nat, n < 256 → hexv n ≤ 15 := by decide +kernel
theorem hexv_top (x : UInt8) : hexv (iv x) ≤ 15 := hexv_le15 x.toNat x.toNat_lt

theorem kind (x : UInt8) : x = 10 ∨ x = 9 ∨ x = 92 ∨ (iv x ≠ 10 ∧ iv x ≠ 9 ∧ (iv x < 32 ∨ 126 < iv x) ∧ esc1 x = [92, 120, hexd (iv x / 16), hexd (iv x % 16)]) ∨ (¬ (iv x < 32 ∨ 126 < iv x) ∧ iv x ≠ 92 ∧ esc1 x = [x]) := by
  by_cases h1 : iv x = 10
  · exact .inl (iv_eq (n := 10) (by omega) h1)
  by_cases h2 : iv x = 9
  · exact .inr (.inl (iv_eq (n := 9) (by omega) h2))
  by_cases h3 : iv x = 92
  · exact .inr (.inr (.inl (iv_eq (n := 92) (by omega) h3)))
  have e1 : (iv x == 10) = false := by simpa using h1
  have e2 : (iv x == 9) = false := by simpa using h2
  have e3 : (iv x == 92) = false := by simpa using h3
  by_cases h : iv x < 32 ∨ 126 < iv x
  · exact .inr (.inr (.inr (.inl ⟨h1, h2, h, by unfold esc1; rw [e1, e2, e3]; simp [h]⟩)))
  · exact .inr (.inr (.inr (.inr ⟨h, h3, by unfold esc1; rw [e1, e2, e3]; simp; omega⟩)))
theorem iv_bound (x : UInt8) : 0 ≤ iv x ∧ iv x ≤ 255 := by unfold iv; have := x.toNat_lt; omega

/-- A: the step takes an escape back. -/
theorem dec1_esc1 (x : UInt8) (t : List UInt8) : dec1 (esc1 x ++ t) = .ok (x, t) := by
  rcases kind x with h | h | h | ⟨h1, h2, h, e⟩ | ⟨h, h2, e⟩
  · subst h
    exact dec1_ok (x := 92) (r := 110 :: t) (c := 10) (n := 1) rfl rfl
  · subst h
    exact dec1_ok (x := 92) (r := 116 :: t) (c := 9) (n := 1) rfl rfl
  · subst h
    exact dec1_ok (x := 92) (r := 92 :: t) (c := 92) (n := 1) rfl rfl
  · have hb := iv_bound x
    rw [e]
    have hv1 := hexv_hexd (iv x / 16) (by omega) (by omega)
    have hv2 := hexv_hexd (iv x % 16) (by omega) (by omega)
    have hsum : 16 * (iv x / 16) + iv x % 16 = iv x := by omega
    refine dec1_ok (x := 92) (r := 120 :: hexd (iv x / 16) :: hexd (iv x % 16) :: t) (c := x) (n := 3) rfl ?_
    have hc : coded (120 :: hexd (iv x / 16) :: hexd (iv x % 16) :: t) = .ok (x, 3) := by
      have b1 : bt (120 :: hexd (iv x / 16) :: hexd (iv x % 16) :: t) 1 = iv (hexd (iv x / 16)) := rfl
      have b2 : bt (120 :: hexd (iv x / 16) :: hexd (iv x % 16) :: t) 2 = iv (hexd (iv x % 16)) := rfl
      unfold coded
      rw [b1, b2, hv1, hv2, hsum, if_neg (by simp), if_neg (by omega), if_neg (by simp), if_neg (by omega)]
      rw [show by8 (iv x) = x from by8_of x]
    unfold seqn
    rw [if_neg (by simp), if_neg (by rw [show bt (120 :: hexd (iv x / 16) :: hexd (iv x % 16) :: t) 0 = 120 from rfl]; decide), if_neg (by rw [show bt (120 :: hexd (iv x / 16) :: hexd (iv x % 16) :: t) 0 = 120 from rfl]; decide), if_neg (by rw [show bt (120 :: hexd (iv x / 16) :: hexd (iv x % 16) :: t) 0 = 120 from rfl]; decide), if_pos (by rw [show bt (120 :: hexd (iv x / 16) :: hexd (iv x % 16) :: t) 0 = 120 from rfl]; decide)]
    exact hc
  · rw [e]; exact dec1_plain h h2

/-- B: what the step takes is an escape. -/
theorem seqn_back {r : List UInt8} {c : UInt8} {n : Nat} (h : seqn r = .ok (c, n)) : 92 :: r = esc1 c ++ r.drop n := by
  unfold seqn at h
  cases r with
  | nil => simp at h
  | cons y r =>
    have hb : bt (y :: r) 0 = iv y := rfl
    simp only [List.isEmpty_cons, Bool.false_eq_true, if_false, hb] at h
    by_cases h1 : (iv y == 110) = true
    · rw [if_pos h1] at h; simp at h
      obtain ⟨rfl, rfl⟩ := h
      have : y = 110 := iv_eq (n := 110) (by omega) (by simpa using h1)
      subst this; rfl
    rw [if_neg h1] at h
    by_cases h2 : (iv y == 116) = true
    · rw [if_pos h2] at h; simp at h
      obtain ⟨rfl, rfl⟩ := h
      have : y = 116 := iv_eq (n := 116) (by omega) (by simpa using h2)
      subst this; rfl
    rw [if_neg h2] at h
    by_cases h3 : (iv y == 92) = true
    · rw [if_pos h3] at h; simp at h
      obtain ⟨rfl, rfl⟩ := h
      have : y = 92 := iv_eq (n := 92) (by omega) (by simpa using h3)
      subst this; rfl
    rw [if_neg h3] at h
    by_cases h4 : (iv y == 120) = true
    · rw [if_pos h4] at h
      have hy : y = 120 := iv_eq (n := 120) (by omega) (by simpa using h4)
      subst hy
      obtain ⟨k1, k2, k3, k4, k5⟩ := coded_ok h
      match r, k1 with
      | a :: b :: t, _ =>
        rw [show bt (120 :: a :: b :: t) 1 = iv a from rfl, show bt (120 :: a :: b :: t) 2 = iv b from rfl] at k3 k5
        rw [show bt (120 :: a :: b :: t) 1 = iv a from rfl] at k4
        have ta := hexv_top a
        have tb := hexv_top b
        have hc : iv c = 16 * hexv (iv a) + hexv (iv b) := by
          rw [k3]; exact by8_toNat _ (by omega) (by omega)
        subst k2
        rcases kind c with g | g | g | ⟨g1, g2, g, e⟩ | ⟨g, g2, e⟩
        · subst g; rw [show iv 10 = 10 from rfl] at hc; omega
        · subst g; rw [show iv 9 = 9 from rfl] at hc; omega
        · subst g; rw [show iv 92 = 92 from rfl] at hc; omega
        · rw [e, hc, show (16 * hexv (iv a) + hexv (iv b)) / 16 = hexv (iv a) by omega, show (16 * hexv (iv a) + hexv (iv b)) % 16 = hexv (iv b) by omega, hexd_hexv a (by omega), hexd_hexv b (by omega)]
          rfl
        · omega
      | [], k1 => simp at k1
      | [a], k1 => simp at k1
    rw [if_neg h4] at h; simp at h
theorem dec1_back {l r : List UInt8} {c : UInt8} (h : dec1 l = .ok (c, r)) : l = esc1 c ++ r := by
  cases l with
  | nil => simp [dec1] at h
  | cons x l =>
    by_cases h1 : iv x < 32 ∨ 126 < iv x
    · rw [dec1_bad h1] at h; simp at h
    by_cases h2 : iv x = 92
    · have hx : x = 92 := iv_eq (n := 92) (by omega) h2
      subst hx
      cases hs : seqn l with
      | ok p =>
        obtain ⟨d, n⟩ := p
        rw [dec1_ok h2 hs] at h
        simp at h
        obtain ⟨rfl, rfl⟩ := h
        exact seqn_back hs
      | error z => rw [dec1_error h2 hs] at h; simp at h
    · rw [dec1_plain h1 h2] at h
      simp at h
      obtain ⟨rfl, rfl⟩ := h
      rcases kind x with g | g | g | ⟨g1, g2, g, e⟩ | ⟨g, g2, e⟩
      · subst g; exact absurd (Or.inl (by decide)) h1
      · subst g; exact absurd (Or.inl (by decide)) h1
      · subst g; exact absurd rfl h2
      · exact absurd g h1
      · rw [e]; rfl

/-! ### The whole -/
theorem une_more : ∀ (n : Nat) (l acc : List UInt8), l.length ≤ n → une (n + 1) acc l = une n acc l := by
  intro n
  induction n with
  | zero =>
    intro l acc h
    have : l = [] := List.eq_nil_of_length_eq_zero (by omega)
    subst this; rfl
  | succ n ih =>
    intro l acc h
    by_cases hl : l = []
    · subst hl; rw [une_nil, une_nil]
    · cases hp : dec1 l with
      | ok p =>
        obtain ⟨a, r⟩ := p
        have hlt : r.length < l.length := by
          have := congrArg List.length (dec1_back hp)
          have h1 := esc1_pos a
          simp at this; omega
        rw [une_ok hl hp, une_ok hl hp, ih r _ (by omega)]
      | error z => rw [une_error hl hp, une_error hl hp]
where
  esc1_pos (x : UInt8) : 1 ≤ (esc1 x).length := by
    unfold esc1; repeat' split
    all_goals simp
theorem esc1_pos (x : UInt8) : 1 ≤ (esc1 x).length := une_more.esc1_pos x
theorem une_fuel (l acc : List UInt8) : ∀ k, une (l.length + k) acc l = une l.length acc l
  | 0 => rfl
  | k + 1 => by rw [← une_fuel l acc k, ← une_more (l.length + k) l acc (by omega)]; rfl
theorem une_esc (x : UInt8) (t acc : List UInt8) : une (esc1 x ++ t).length acc (esc1 x ++ t) = une t.length (acc ++ [x]) t := by
  have h1 := esc1_pos x
  obtain ⟨k, hk⟩ : ∃ k, (esc1 x ++ t).length = (t.length + k) + 1 := ⟨(esc1 x).length - 1, by simp; omega⟩
  rw [hk, une_ok (by intro e; have := congrArg List.length e; rw [List.length_append, List.length_nil] at this; omega) (dec1_esc1 x t), une_fuel]
theorem une_escape (l : List UInt8) : ∀ acc, une (escape l).length acc (escape l) = .ok (acc ++ l) := by
  induction l with
  | nil => intro acc; simp [escape, une]
  | cons x r ih => intro acc; rw [escape, une_esc, ih]; simp
theorem unescape_escape (l : List UInt8) : unescape (escape l) = .ok l := by
  unfold unescape; rw [une_escape]; rfl
theorem escape_une : ∀ (n : Nat) (l acc a : List UInt8), l.length ≤ n → une n acc l = .ok a → ∃ b, a = acc ++ b ∧ escape b = l := by
  intro n
  induction n with
  | zero =>
    intro l acc a h hu
    have : l = [] := List.eq_nil_of_length_eq_zero (by omega)
    subst this
    simp [une] at hu
    exact ⟨[], by simp [hu], rfl⟩
  | succ n ih =>
    intro l acc a h hu
    by_cases hl : l = []
    · subst hl
      rw [une_nil] at hu
      simp at hu
      exact ⟨[], by simp [hu], rfl⟩
    · cases hp : dec1 l with
      | ok p =>
        obtain ⟨c, r⟩ := p
        have hbk := dec1_back hp
        have hlt : r.length < l.length := by
          have := congrArg List.length hbk
          have h1 := esc1_pos c
          simp at this; omega
        rw [une_ok hl hp] at hu
        obtain ⟨b, hb, he⟩ := ih r _ a (by omega) hu
        exact ⟨c :: b, by rw [hb]; simp, by rw [escape, he, ← hbk]⟩
      | error z => rw [une_error hl hp] at hu; simp at hu
theorem escape_unescape {l a : List UInt8} (h : unescape l = .ok a) : escape a = l := by
  obtain ⟨b, hb, he⟩ := escape_une l.length l [] a (Nat.le_refl _) h
  simp at hb
  rw [hb, he]

/-! ### The reference's search -/
theorem uneR_nil (n : Nat) (acc : List UInt8) : uneR n acc [] = .ok acc := by cases n <;> rfl
theorem beg_fst (r t : List UInt8) : (beg r t).1 = true ↔ ∃ u, r = t ++ u := by
  induction t generalizing r with
  | nil => cases r <;> simp [beg]
  | cons y t ih =>
    cases r with
    | nil => simp [beg]
    | cons x r =>
      rw [beg]
      by_cases h : x = y
      · subst h; rw [if_pos rfl, ih]; simp
      · rw [if_neg h]; simp [h]
theorem beg_snd (r t : List UInt8) : (beg r t).2 = true ↔ ∃ u, u ≠ [] ∧ t = r ++ u := by
  induction t generalizing r with
  | nil => cases r <;> simp [beg]
  | cons y t ih =>
    cases r with
    | nil => simp [beg]
    | cons x r =>
      rw [beg]
      by_cases h : x = y
      · subst h; rw [if_pos rfl, ih]; simp
      · rw [if_neg h]; simp [Ne.symm h]
theorem scan_snd (r : List UInt8) : ∀ k, k ≤ 256 → ((scan r k).2 = true ↔ ∃ c : Nat, c < k ∧ (beg r (esc1 (by8 c))).2 = true)
  | 0, _ => by simp [scan]
  | k + 1, h => by
    rw [scan]
    simp only [Bool.or_eq_true]
    rw [scan_snd r k (by omega)]
    constructor
    · rintro (⟨c, hc, h1⟩ | h1)
      · exact ⟨c, by omega, h1⟩
      · exact ⟨k, by omega, h1⟩
    · rintro ⟨c, hc, h1⟩
      by_cases e : c = k
      · subst e; exact .inr h1
      · exact .inl ⟨c, by omega, h1⟩
theorem scan_fst (r : List UInt8) : ∀ k, k ≤ 256 → ((scan r k).1 = -1 ∧ (∀ c : Nat, c < k → (beg r (esc1 (by8 c))).1 = false)) ∨ ∃ c : Nat, c < k ∧ (scan r k).1 = c ∧ (beg r (esc1 (by8 c))).1 = true
  | 0, _ => .inl ⟨rfl, fun c h => by omega⟩
  | k + 1, h => by
    rw [scan]
    simp only
    cases hb : (beg r (esc1 (by8 k))).1
    · rcases scan_fst r k (by omega) with ⟨h1, h2⟩ | ⟨c, h1, h2, h3⟩
      · refine .inl ⟨by simpa using h1, fun c hc => ?_⟩
        by_cases e : c = k
        · subst e; exact hb
        · exact h2 c (by omega)
      · exact .inr ⟨c, by omega, by simpa using h2, h3⟩
    · exact .inr ⟨k, by omega, by simp, hb⟩
theorem by8_surj (x : UInt8) : ∃ c : Nat, c < 256 ∧ by8 c = x := ⟨x.toNat, x.toNat_lt, by8_of x⟩
theorem scan_ok {l r : List UInt8} {c : UInt8} (h : dec1 l = .ok (c, r)) : (scan l 256).1 = iv c ∧ l.drop (esc1 c).length = r := by
  have hb := dec1_back h
  refine ⟨?_, by rw [hb]; simp⟩
  rcases scan_fst l 256 (by omega) with ⟨h1, h2⟩ | ⟨d, h1, h2, h3⟩
  · obtain ⟨d, hd, he⟩ := by8_surj c
    have := h2 d hd
    rw [he, show (beg l (esc1 c)).1 = true from (beg_fst _ _).2 ⟨r, hb⟩] at this
    simp at this
  · obtain ⟨u, hu⟩ := (beg_fst _ _).1 h3
    rw [hu, dec1_esc1] at h
    simp at h
    rw [h2, ← h.1]
    exact (by8_toNat d (by omega) (by omega)).symm
theorem scan_none {l : List UInt8} {z : Int} (h : dec1 l = .error z) : (scan l 256).1 = -1 := by
  rcases scan_fst l 256 (by omega) with ⟨h1, h2⟩ | ⟨d, h1, h2, h3⟩
  · exact h1
  · obtain ⟨u, hu⟩ := (beg_fst _ _).1 h3
    rw [hu, dec1_esc1] at h
    simp at h
theorem seqn_hex {h : UInt8} {t : List UInt8} : seqn (120 :: h :: t) = coded (120 :: h :: t) := by
  unfold seqn
  have b : bt (120 :: h :: t) 0 = 120 := rfl
  rw [b]; rfl
theorem dec1_short {c : UInt8} {l u : List UInt8} (hl : l ≠ []) (hu : u ≠ []) (h : esc1 c = l ++ u) : dec1 l = .error 28 := by
  have two : ∀ b : UInt8, ([92, b] : List UInt8) = l ++ u → dec1 l = .error 28 := by
    intro b e
    match l, hl, e with
    | [x], _, e => simp at e; rw [← e.1]; rfl
    | x :: y :: t, _, e =>
      simp at e
      obtain ⟨_, _, _, e⟩ := e
      exact absurd e hu
  rcases kind c with g | g | g | ⟨g1, g2, g, e⟩ | ⟨g, g2, e⟩
  · subst g; exact two 110 h
  · subst g; exact two 116 h
  · subst g; exact two 92 h
  · rw [e] at h
    match l, hl, h with
    | [x], _, h => simp at h; rw [← h.1]; rfl
    | [x, y], _, h => simp at h; rw [← h.1, ← h.2.1]; rfl
    | [x, y, z], _, h =>
      simp at h
      obtain ⟨rfl, rfl, rfl, _⟩ := h
      have hb := iv_bound c
      refine dec1_error (x := 92) rfl ?_
      rw [seqn_hex]
      unfold coded
      have b1 : bt [120, hexd (iv c / 16)] 1 = iv (hexd (iv c / 16)) := rfl
      rw [b1, hexv_hexd _ (by omega) (by omega), if_neg (by simp), if_neg (by omega), if_pos (by simp)]
    | x :: y :: z :: v :: t, _, h =>
      simp at h
      exact absurd h.2.2.2.2.2 hu
  · rw [e] at h
    match l, hl, h with
    | x :: t, _, h =>
      simp at h
      exact absurd h.2.2 hu
theorem esc1_hexs : ∀ v : Nat, v < 16 → ¬ (2 ≤ v ∧ v ≤ 6) → ∃ c : Nat, c < 256 ∧ ∃ b, esc1 (by8 c) = [92, 120, hexd v, b] := by
  intro v hv hn
  by_cases h7 : v = 7
  · subst h7; exact ⟨127, by omega, 102, by decide +kernel⟩
  · refine ⟨16 * v, by omega, 48, ?_⟩
    have h := esc1_hexs_small v hv
    by_cases h2 : 2 ≤ v ∧ v ≤ 7
    · omega
    · exact h h2
where
  esc1_hexs_small : ∀ v : Nat, v < 16 → ¬ (2 ≤ v ∧ v ≤ 7) → esc1 (by8 ((16 * v : Nat) : Int)) = [92, 120, hexd v, 48] := by decide +kernel
theorem dec1_28 {l : List UInt8} (h : dec1 l = .error 28) : ∃ c : Nat, c < 256 ∧ ∃ u, u ≠ [] ∧ esc1 (by8 c) = l ++ u := by
  cases l with
  | nil => simp [dec1] at h
  | cons x r =>
    by_cases h1 : iv x < 32 ∨ 126 < iv x
    · rw [dec1_bad h1] at h; simp at h
    by_cases h2 : iv x = 92
    · have hx : x = 92 := iv_eq (n := 92) (by omega) h2
      subst hx
      cases r with
      | nil => exact ⟨10, by omega, [110], by simp, by decide +kernel⟩
      | cons y r =>
        have hs : seqn (y :: r) = .error 28 := by
          cases hq : seqn (y :: r) with
          | ok p => obtain ⟨d, n⟩ := p; rw [dec1_ok h2 hq] at h; simp at h
          | error z => rw [dec1_error h2 hq] at h; simp at h; rw [h]
        have hb : bt (y :: r) 0 = iv y := rfl
        have hs2 := hs
        unfold seqn at hs2
        simp only [List.isEmpty_cons, Bool.false_eq_true, if_false, hb] at hs2
        by_cases g1 : (iv y == 110) = true
        · rw [if_pos g1] at hs2; simp at hs2
        rw [if_neg g1] at hs2
        by_cases g2 : (iv y == 116) = true
        · rw [if_pos g2] at hs2; simp at hs2
        rw [if_neg g2] at hs2
        by_cases g3 : (iv y == 92) = true
        · rw [if_pos g3] at hs2; simp at hs2
        rw [if_neg g3] at hs2
        by_cases g4 : (iv y == 120) = true
        · rw [if_pos g4] at hs2
          have hy : y = 120 := iv_eq (n := 120) (by omega) (by simpa using g4)
          subst hy
          cases r with
          | nil => exact ⟨0, by omega, [48, 48], by simp, by decide +kernel⟩
          | cons a r =>
            unfold coded at hs2
            have b1 : bt (120 :: a :: r) 1 = iv a := rfl
            rw [if_neg (by simp), b1] at hs2
            by_cases k1 : hexv (iv a) < 0 ∨ (2 ≤ hexv (iv a) ∧ hexv (iv a) ≤ 6)
            · rw [if_pos k1] at hs2; simp at hs2
            rw [if_neg k1] at hs2
            cases r with
            | cons b r =>
              rw [if_neg (by simp)] at hs2
              split at hs2 <;> simp at hs2
            | nil =>
              have ht := hexv_top a
              obtain ⟨v, hv⟩ : ∃ v : Nat, hexv (iv a) = v := ⟨(hexv (iv a)).toNat, by omega⟩
              obtain ⟨c, hc, b, he⟩ := esc1_hexs v (by omega) (by omega)
              refine ⟨c, hc, [b], by simp, ?_⟩
              rw [he, ← hv, hexd_hexv a (by omega)]; rfl
        rw [if_neg g4] at hs2; simp at hs2
    · rw [dec1_plain h1 h2] at h; simp at h
theorem scan_early {l : List UInt8} {z : Int} (hl : l ≠ []) (h : dec1 l = .error z) : (scan l 256).2 = true ↔ z = 28 := by
  rw [scan_snd l 256 (by omega)]
  constructor
  · rintro ⟨c, hc, hb⟩
    obtain ⟨u, hu, he⟩ := (beg_snd _ _).1 hb
    rw [dec1_short hl hu he] at h
    simp at h; omega
  · intro hz
    subst hz
    obtain ⟨c, hc, u, hu, he⟩ := dec1_28 h
    exact ⟨c, hc, (beg_snd _ _).2 ⟨u, hu, he⟩⟩
theorem dec1_err {l : List UInt8} {z : Int} (hl : l ≠ []) (h : dec1 l = .error z) : z = 28 ∨ z = 6 := by
  match l, hl with
  | x :: r, _ =>
    by_cases h1 : iv x < 32 ∨ 126 < iv x
    · rw [dec1_bad h1] at h; simp at h; omega
    by_cases h2 : iv x = 92
    · cases hq : seqn r with
      | ok p => obtain ⟨d, n⟩ := p; rw [dec1_ok h2 hq] at h; simp at h
      | error y => rw [dec1_error h2 hq] at h; simp at h; rw [← h]; exact seqn_error hq
    · rw [dec1_plain h1 h2] at h; simp at h
theorem uneR_eq : ∀ (n : Nat) (l acc : List UInt8), uneR n acc l = une n acc l := by
  intro n
  induction n with
  | zero => intro l acc; rfl
  | succ n ih =>
    intro l acc
    by_cases hl : l = []
    · subst hl; rw [uneR_nil, une_nil]
    have he : l.isEmpty = false := by cases l; simp at hl; rfl
    rw [uneR, he]
    simp only [Bool.false_eq_true, if_false]
    cases hd : dec1 l with
    | ok p =>
      obtain ⟨c, r⟩ := p
      obtain ⟨h1, h2⟩ := scan_ok hd
      have hb := iv_bound c
      rw [h1, if_neg (by omega), show by8 (iv c) = c from by8_of c, h2, ih, une_ok hl hd]
    | error z =>
      rw [scan_none hd, if_pos (by omega), une_error hl hd]
      have h3 := scan_early hl hd
      rcases dec1_err hl hd with hz | hz
      · subst hz; rw [if_pos (h3.2 rfl)]
      · subst hz
        rw [if_neg (by rw [h3]; omega)]
theorem unescapeR_eq (l : List UInt8) : unescapeR l = unescape l := uneR_eq _ _ _
theorem scan_len (l : List UInt8) : 0 ≤ (scan l 256).1 → (esc1 (by8 (scan l 256).1)).length ≤ l.length := by
  intro h
  rcases scan_fst l 256 (by omega) with ⟨h1, _⟩ | ⟨d, h1, h2, h3⟩
  · omega
  · obtain ⟨u, hu⟩ := (beg_fst _ _).1 h3
    rw [h2, hu]; simp
theorem escape_ge (l : List UInt8) : l.length ≤ (escape l).length := by
  induction l with
  | nil => simp
  | cons x r ih => have := esc1_pos x; simp [escape]; omega
theorem une_err : ∀ (n : Nat) (l acc : List UInt8) (z : Int), une n acc l = .error z → z = 28 ∨ z = 6 := by
  intro n
  induction n with
  | zero => intro l acc z h; simp [une] at h
  | succ n ih =>
    intro l acc z h
    by_cases hl : l = []
    · subst hl; rw [une_nil] at h; simp at h
    cases hd : dec1 l with
    | ok p => obtain ⟨c, r⟩ := p; rw [une_ok hl hd] at h; exact ih _ _ _ h
    | error y => rw [une_error hl hd] at h; simp at h; rw [← h]; exact dec1_err hl hd
theorem unescape_err {l : List UInt8} {z : Int} (h : unescape l = .error z) : z = 28 ∨ z = 6 := une_err _ _ _ _ h
theorem scan_range (l : List UInt8) : -1 ≤ (scan l 256).1 ∧ (scan l 256).1 ≤ 255 := by
  rcases scan_fst l 256 (by omega) with ⟨h1, _⟩ | ⟨d, h1, h2, _⟩ <;> omega
end P
end Go.Proofs.YtabhfodjfikdaaaDoor
