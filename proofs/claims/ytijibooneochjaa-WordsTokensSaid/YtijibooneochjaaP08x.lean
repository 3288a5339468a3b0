/- A token of a source parses without running out of it (P08t, P08s, P08r in one). -/
import Derived.Test.YtijibooneochjaaP08q
namespace Go.Proofs.Ytijibooneochjaa
open K
namespace LX
theorem thn_eq {r r' : Nat × Int} {k k' : Nat → Nat × Int} (h : r = r') (hk : r.2 = 0 → k r.1 = k' r.1) : thn r k = thn r' k' := by
  subst h
  unfold thn
  by_cases h0 : r.2 = 0
  · rw [if_pos h0, if_pos h0]; exact hk h0
  · rw [if_neg h0, if_neg h0]
theorem ite_eq {c : Prop} [Decidable c] {α : Type} {x y x' y' : α} (h1 : c → x = x') (h2 : ¬ c → y = y') : (if c then x else y) = (if c then x' else y') := by
  by_cases h : c
  · rw [if_pos h, if_pos h]; exact h1 h
  · rw [if_neg h, if_neg h]; exact h2 h
theorem dbl_far : ∀ (f : Nat) (s : Str) (a i e : Nat), dbl f s a i = (e, 0) → i < e
  | 0, s, a, i, e, h => by rw [dbl] at h; simp at h
  | f + 1, s, a, i, e, h => by
    rw [dbl] at h
    by_cases hi : i < s.length
    · rw [if_pos hi] at h
      by_cases h1 : bt s i = 34
      · rw [if_pos h1] at h; have := congrArg Prod.fst h; dsimp only at this; omega
      · rw [if_neg h1] at h
        obtain ⟨h4, h5⟩ := thn_ok h
        have := dbl_far f s a _ e h5
        have := ((good_all f).ins s i true true hi).2.1 h4
        omega
    · rw [if_neg hi] at h; simp at h
theorem ari_far : ∀ (f : Nat) (s : Str) (a i n e : Nat), ari f s a i n = (e, 0) → i + 1 < e
  | 0, s, a, i, n, e, h => by rw [ari] at h; simp at h
  | f + 1, s, a, i, n, e, h => by
    rw [ari] at h
    by_cases hi : i < s.length
    · rw [if_pos hi] at h
      have hst : ∀ m, thn (ins f s i true false) (fun k => ari f s a k m) = (e, 0) → i + 1 < e := by
        intro m hm
        obtain ⟨h4, h5⟩ := thn_ok hm
        have := ari_far f s a _ m e h5
        have := ((good_all f).ins s i true false hi).2.1 h4
        omega
      by_cases h1 : bt s i = 40
      · rw [if_pos h1] at h; exact hst _ h
      rw [if_neg h1] at h
      by_cases h2 : bt s i = 41 ∧ 0 < n
      · rw [if_pos h2] at h; exact hst _ h
      rw [if_neg h2] at h
      by_cases h3 : bt s i = 41
      · rw [if_pos h3] at h
        by_cases h4 : i + 1 = s.length
        · rw [if_pos h4] at h; simp at h
        rw [if_neg h4] at h
        by_cases h5 : bt s (i + 1) = 41
        · rw [if_pos h5] at h; have := congrArg Prod.fst h; dsimp only at this; omega
        · rw [if_neg h5] at h; simp at h
      · rw [if_neg h3] at h; exact hst _ h
    · rw [if_neg hi] at h; simp at h
theorem brc_far : ∀ (f : Nat) (s : Str) (a i : Nat) (q d : Bool) (e : Nat), brc f s a i q d = (e, 0) → i < e
  | 0, s, a, i, q, d, e, h => by rw [brc] at h; simp at h
  | f + 1, s, a, i, q, d, e, h => by
    rw [brc] at h
    by_cases hi : i < s.length
    · rw [if_pos hi] at h
      by_cases h1 : bt s i = 125
      · rw [if_pos h1] at h; have := congrArg Prod.fst h; dsimp only at this; omega
      rw [if_neg h1] at h
      by_cases h2 : bt s i = 34 ∧ d = true
      · rw [if_pos h2] at h; simp at h
      rw [if_neg h2] at h
      by_cases h3 : ((bt s i = 34 ∨ bt s i = 39) ∧ q = true) ∨ begins s i = false
      · rw [if_pos h3] at h; have := brc_far f s a _ q d e h; omega
      · rw [if_neg h3] at h
        have hb : begins s i = true := by
          cases hb : begins s i
          · exact absurd (.inr hb) h3
          · rfl
        obtain ⟨h4, h5⟩ := thn_ok h
        have := brc_far f s a _ q d e h5
        have := ((good_all f).con s i q d hi hb).2.1 h4
        omega
    · rw [if_neg hi] at h; simp at h
theorem bkq_fuel : ∀ (f g : Nat) (s : Str) (a i : Nat), s.length - i + 1 ≤ f → s.length - i + 1 ≤ g → bkq f s a i = bkq g s a i
  | 0, g, s, a, i, h, _ => absurd h (by omega)
  | f + 1, 0, s, a, i, _, h => absurd h (by omega)
  | f + 1, g + 1, s, a, i, h1, h2 => by
    rw [bkq, bkq]
    exact ite_eq (fun hi => ite_eq (fun _ => rfl) (fun _ => ite_eq (fun _ => ite_eq (fun _ => rfl) (fun _ => bkq_fuel f g s a _ (by omega) (by omega))) (fun _ => bkq_fuel f g s a _ (by omega) (by omega)))) (fun _ => rfl)
/-- The constructs' functions at two fuels that suffice. -/
structure Fuel (f : Nat) : Prop where
  con : ∀ (g : Nat) (s : Str) (a : Nat) (q d : Bool), a < s.length → 3 * (s.length - a) + 1 ≤ f → 3 * (s.length - a) + 1 ≤ g → con f s a q d = con g s a q d
  ins : ∀ (g : Nat) (s : Str) (a : Nat) (q d : Bool), a < s.length → 3 * (s.length - a) + 2 ≤ f → 3 * (s.length - a) + 2 ≤ g → ins f s a q d = ins g s a q d
  dbl : ∀ (g : Nat) (s : Str) (a i : Nat), 3 * (s.length - i) + 3 ≤ f → 3 * (s.length - i) + 3 ≤ g → dbl f s a i = dbl g s a i
  ari : ∀ (g : Nat) (s : Str) (a i n : Nat), 3 * (s.length - i) + 3 ≤ f → 3 * (s.length - i) + 3 ≤ g → ari f s a i n = ari g s a i n
  cmd : ∀ (g : Nat) (s : Str) (a i n : Nat) (b : Bool), 3 * (s.length - i) + 3 ≤ f → 3 * (s.length - i) + 3 ≤ g → cmd f s a i n b = cmd g s a i n b
  brc : ∀ (g : Nat) (s : Str) (a i : Nat) (q d : Bool), 3 * (s.length - i) + 3 ≤ f → 3 * (s.length - i) + 3 ≤ g → brc f s a i q d = brc g s a i q d
theorem fuel_all : ∀ f, Fuel f
  | 0 => ⟨fun g s a q d _ h => absurd h (by omega), fun g s a q d _ h => absurd h (by omega), fun g s a i h => absurd h (by omega), fun g s a i n h => absurd h (by omega), fun g s a i n b h => absurd h (by omega), fun g s a i q d h => absurd h (by omega)⟩
  | f + 1 => by
    have ih := fuel_all f
    have G := good_all f
    refine ⟨fun g s a q d hl h1 h2 => ?_, fun g s a q d hl h1 h2 => ?_, fun g s a i h1 h2 => ?_, fun g s a i n h1 h2 => ?_, fun g s a i n b h1 h2 => ?_, fun g s a i q d h1 h2 => ?_⟩
    all_goals obtain ⟨g, rfl⟩ : ∃ k, g = k + 1 := ⟨g - 1, by omega⟩
    · rw [con, con]
      refine ite_eq (fun _ => rfl) (fun h92 => ite_eq (fun _ => rfl) (fun _ => ite_eq (fun _ => ih.dbl g s a _ (by omega) (by omega)) (fun _ => ite_eq (fun _ => bkq_fuel f g s a _ (by omega) (by omega)) (fun _ => ite_eq (fun _ => ih.ari g s a _ _ (by omega) (by omega)) (fun _ => ite_eq (fun _ => ih.cmd g s a _ _ _ (by omega) (by omega)) (fun _ => ite_eq (fun _ => ih.brc g s a _ _ _ (by omega) (by omega)) (fun _ => ite_eq (fun _ => rfl) (fun _ => rfl))))))))
    · rw [ins, ins]
      exact ite_eq (fun _ => rfl) (fun _ => ih.con g s a q d hl (by omega) (by omega))
    · rw [dbl, dbl]
      refine ite_eq (fun hi => ite_eq (fun _ => rfl) (fun _ => thn_eq (ih.ins g s i _ _ hi (by omega) (by omega)) (fun h0 => ?_))) (fun _ => rfl)
      have := (G.ins s i true true hi).2.1 h0
      exact ih.dbl g s a _ (by omega) (by omega)
    · rw [ari, ari]
      refine ite_eq (fun hi => ?_) (fun _ => rfl)
      have hst : ∀ m, thn (LX.ins f s i true false) (fun k => LX.ari f s a k m) = thn (LX.ins g s i true false) (fun k => LX.ari g s a k m) := fun m => thn_eq (ih.ins g s i _ _ hi (by omega) (by omega)) (fun h0 => by
        have := (G.ins s i true false hi).2.1 h0
        exact ih.ari g s a _ _ (by omega) (by omega))
      exact ite_eq (fun _ => hst _) (fun _ => ite_eq (fun _ => hst _) (fun _ => ite_eq (fun _ => rfl) (fun _ => hst _)))
    · rw [cmd, cmd]
      refine ite_eq (fun hi => ?_) (fun _ => rfl)
      refine ite_eq (fun _ => ih.cmd g s a _ _ _ (by omega) (by omega)) (fun _ => ?_)
      refine ite_eq (fun h2 => by have := comment_lt hi (by rw [h2.1]; decide); exact ih.cmd g s a _ _ _ (by omega) (by omega)) (fun _ => ?_)
      refine ite_eq (fun hb => thn_eq (ih.con g s i _ _ hi (by omega) (by omega)) (fun h0 => ?_)) (fun _ => ?_)
      · have := (G.con s i false false hi hb).2.1 h0
        exact ih.cmd g s a _ _ _ (by omega) (by omega)
      · exact ite_eq (fun _ => ih.cmd g s a _ _ _ (by omega) (by omega)) (fun _ => ite_eq (fun _ => rfl) (fun _ => ite_eq (fun _ => ih.cmd g s a _ _ _ (by omega) (by omega)) (fun _ => ih.cmd g s a _ _ _ (by omega) (by omega))))
    · rw [brc, brc]
      refine ite_eq (fun hi => ite_eq (fun _ => rfl) (fun _ => ite_eq (fun _ => rfl) (fun _ => ite_eq (fun _ => ih.brc g s a _ _ _ (by omega) (by omega)) (fun h3 => ?_)))) (fun _ => rfl)
      have hb : begins s i = true := by
        cases hb : begins s i
        · exact absurd (.inr hb) h3
        · rfl
      refine thn_eq (ih.con g s i q d hi (by omega) (by omega)) (fun h0 => ?_)
      have := (G.con s i q d hi hb).2.1 h0
      exact ih.brc g s a _ _ _ (by omega) (by omega)
theorem con_construct {f : Nat} {s : Str} {a : Nat} {q d : Bool} (ha : a < s.length) (hf : 3 * (s.length - a) + 1 ≤ f) : con f s a q d = construct s a q d := (fuel_all f).con _ s a q d ha hf (by omega)
/-- t is the piece of s from p on. -/
structure Piece (s t : Str) (p : Nat) : Prop where
  fit : p + t.length ≤ s.length
  eq : t = (s.drop p).take t.length
theorem piece_cut {s : Str} {p e : Nat} (h1 : p ≤ e) (h2 : e ≤ s.length) : Piece s (cut s p e) p ∧ (cut s p e).length = e - p := by
  have hl : (cut s p e).length = e - p := by unfold cut; simp; omega
  refine ⟨⟨by omega, ?_⟩, hl⟩
  rw [hl]
  unfold cut
  rw [List.drop_take]
section
variable {s t : Str} {p : Nat}
theorem Piece.get (h : Piece s t p) {i : Nat} (hi : i < t.length) : t[i]? = s[p + i]? := by
  have := congrArg (fun l : Str => l[i]?) h.eq
  rw [show t[i]? = _ from this, List.getElem?_take_of_lt hi, List.getElem?_drop]
theorem Piece.bt (h : Piece s t p) {i : Nat} (hi : i < t.length) : bt t i = bt s (p + i) := by
  unfold K.bt
  rw [List.getD_eq_getElem?_getD, List.getD_eq_getElem?_getD, h.get hi]
theorem Piece.drop (h : Piece s t p) (i : Nat) : t.drop i = (s.drop (p + i)).take (t.length - i) := by
  have := congrArg (fun l : Str => l.drop i) h.eq
  rw [show t.drop i = _ from this, List.drop_take, List.drop_drop]
theorem has3_iff {a : Nat} : Lib.hasPrefix (s.drop a) [36, 40, 40] = true ↔ a + 3 ≤ s.length ∧ K.bt s a = 36 ∧ K.bt s (a + 1) = 40 ∧ K.bt s (a + 2) = 40 := by
  refine ⟨has3, fun ⟨h1, h2, h3, h4⟩ => ?_⟩
  obtain ⟨x, hx, hbx, _⟩ := drop_cons s a (by omega)
  obtain ⟨y, hy, hby, _⟩ := drop_cons s (a + 1) (by omega)
  obtain ⟨z, hz, hbz, _⟩ := drop_cons s (a + 2) (by omega)
  have e : ∀ {u : UInt8} {k : Nat} {m : Nat}, K.bt s k = (u.toNat : Int) → K.bt s k = (m : Int) → u.toNat = m := fun h h' => by omega
  obtain rfl : x = 36 := UInt8.toNat_inj.1 (e hbx h2)
  obtain rfl : y = 40 := UInt8.toNat_inj.1 (e hby h3)
  obtain rfl : z = 40 := UInt8.toNat_inj.1 (e hbz h4)
  rw [hx, hy, hz]
  simp [Lib.hasPrefix]
theorem Piece.joins (h : Piece s t p) {i : Nat} (hi : i + 2 ≤ t.length) : LX.joins t i = LX.joins s (p + i) := by
  rw [Bool.eq_iff_iff, joins_iff, joins_iff, h.bt (by omega), h.bt (by omega)]
  have := h.fit
  constructor
  · rintro ⟨h1, h2, -⟩; exact ⟨h1, h2, by omega⟩
  · rintro ⟨h1, h2, -⟩; exact ⟨h1, h2, hi⟩
theorem Piece.joins_no (h : Piece s t p) {i : Nat} (hj : LX.joins s (p + i) = false) : LX.joins t i = false := by
  cases hx : LX.joins t i
  · rfl
  · rw [h.joins (joins_iff.1 hx).2.2, hj] at hx; cases hx
theorem Piece.dollar (h : Piece s t p) {i : Nat} (hi : i < t.length) : LX.dollar t i = LX.dollar s (p + i) := by
  unfold LX.dollar
  rw [h.bt hi, decide_eq_true hi, decide_eq_true (show p + i < s.length by have := h.fit; omega)]
theorem Piece.begins (h : Piece s t p) {i : Nat} (hi : i + 1 < t.length) : LX.begins t i = LX.begins s (p + i) := by
  unfold LX.begins
  rw [h.bt (by omega), h.dollar hi]
  rfl
theorem Piece.begins_no (h : Piece s t p) {i : Nat} (hi : i < t.length) (hb : LX.begins s (p + i) = false) : LX.begins t i = false := by
  by_cases h1 : i + 1 < t.length
  · rw [h.begins h1, hb]
  · unfold LX.begins at hb ⊢
    rw [h.bt hi]
    by_cases h36 : K.bt s (p + i) = 36
    · rw [if_pos h36]
      unfold LX.dollar
      rw [decide_eq_false h1]
      rfl
    · rw [if_neg h36] at hb ⊢
      exact hb
theorem find_of {c : UInt8} {i k : Nat} (h1 : i + k < s.length) (h2 : s[i + k]? = some c) (h3 : ∀ j, j < k → s[i + j]? ≠ some c) : find s i c = some k := by
  unfold find
  rw [List.findIdx?_eq_some_iff_getElem]
  refine ⟨by rw [List.length_drop]; omega, ?_, fun j hj => ?_⟩
  · rw [List.getElem_drop]
    rw [List.getElem?_eq_getElem h1] at h2
    simpa using Option.some.inj h2
  · have := h3 j hj
    rw [List.getElem_drop]
    rw [List.getElem?_eq_getElem (by omega)] at this
    simpa using this
theorem Piece.find (h : Piece s t p) {c : UInt8} {i k : Nat} (hk : LX.find s (p + i) c = some k) (hi : i + k < t.length) : LX.find t i c = some k := by
  obtain ⟨h1, h2, h3⟩ := find_some hk
  refine find_of hi (by rw [h.get hi, ← h2]; congr 1; omega) (fun j hj e => h3 j hj ?_)
  rw [h.get (by omega)] at e
  rw [← e]
  congr 1
  omega
theorem Piece.comment (h : Piece s t p) {i : Nat} (hc : LX.comment s (p + i) < p + t.length) : LX.comment s (p + i) = p + LX.comment t i := by
  unfold LX.comment at hc ⊢
  cases hf : LX.find s (p + i) 10 with
  | none =>
    rw [hf] at hc
    have := h.fit
    exact absurd hc (by dsimp only; omega)
  | some k =>
    rw [hf] at hc
    dsimp only at hc ⊢
    rw [h.find hf (by omega)]
    dsimp only
    omega
theorem takeWhile_take (q : UInt8 → Bool) : ∀ (l : Str) (m : Nat), (l.take m).takeWhile q = (l.takeWhile q).take m
  | [], m => by simp
  | x :: l, 0 => by simp
  | x :: l, m + 1 => by
    rw [List.take_succ_cons, List.takeWhile_cons, List.takeWhile_cons]
    by_cases hx : q x = true
    · rw [if_pos hx, if_pos hx, List.take_succ_cons, takeWhile_take q l m]
    · rw [if_neg hx, if_neg hx]; rfl
theorem Piece.nameEnd (h : Piece s t p) {i : Nat} (hc : LX.nameEnd s (p + i) ≤ p + t.length) : LX.nameEnd s (p + i) = p + LX.nameEnd t i := by
  unfold LX.nameEnd at hc ⊢
  rw [h.drop i, takeWhile_take, List.length_take]
  omega
theorem Piece.bkq (h : Piece s t p) : ∀ (f a i E : Nat), LX.bkq f s (p + a) (p + i) = (E, 0) → E ≤ p + t.length → ∃ e, E = p + e ∧ LX.bkq f t a i = (e, 0)
  | 0, a, i, E, hr, _ => by rw [LX.bkq] at hr; simp at hr
  | f + 1, a, i, E, hr, hE => by
    have hfar := bkq_far _ _ _ _ _ hr
    have hfit := h.fit
    rw [LX.bkq, if_pos (by omega)] at hr
    rw [LX.bkq, if_pos (by omega), h.bt (by omega)]
    by_cases h1 : K.bt s (p + i) = 96
    · rw [if_pos h1] at hr ⊢
      have := congrArg Prod.fst hr
      dsimp only at this
      exact ⟨i + 1, by omega, rfl⟩
    · rw [if_neg h1] at hr ⊢
      by_cases h2 : K.bt s (p + i) = 92
      · rw [if_pos h2] at hr ⊢
        by_cases h3 : p + i + 1 = s.length
        · rw [if_pos h3] at hr; simp at hr
        · rw [if_neg h3] at hr
          have := bkq_far _ _ _ _ _ hr
          rw [if_neg (by omega)]
          exact h.bkq f a (i + 2) E hr hE
      · rw [if_neg h2] at hr ⊢
        exact h.bkq f a (i + 1) E hr hE
/-- What the constructs' functions give in a string they give in a piece that holds the construct. -/
structure InPiece (s t : Str) (p f : Nat) : Prop where
  con : ∀ (a : Nat) (q d : Bool) (E : Nat), a < t.length → LX.begins s (p + a) = true → LX.con f s (p + a) q d = (E, 0) → E ≤ p + t.length → ∃ e, E = p + e ∧ LX.con f t a q d = (e, 0)
  ins : ∀ (a : Nat) (q d : Bool) (E : Nat), a < t.length → LX.ins f s (p + a) q d = (E, 0) → E ≤ p + t.length → ∃ e, E = p + e ∧ LX.ins f t a q d = (e, 0)
  dbl : ∀ (a i E : Nat), LX.dbl f s (p + a) (p + i) = (E, 0) → E ≤ p + t.length → ∃ e, E = p + e ∧ LX.dbl f t a i = (e, 0)
  ari : ∀ (a i n E : Nat), LX.ari f s (p + a) (p + i) n = (E, 0) → E ≤ p + t.length → ∃ e, E = p + e ∧ LX.ari f t a i n = (e, 0)
  cmd : ∀ (a i n : Nat) (b : Bool) (E : Nat), LX.cmd f s (p + a) (p + i) n b = (E, 0) → E ≤ p + t.length → ∃ e, E = p + e ∧ LX.cmd f t a i n b = (e, 0)
  brc : ∀ (a i : Nat) (q d : Bool) (E : Nat), LX.brc f s (p + a) (p + i) q d = (E, 0) → E ≤ p + t.length → ∃ e, E = p + e ∧ LX.brc f t a i q d = (e, 0)
theorem end_of {a b E : Nat} (h : ((a, 0) : Nat × Int) = (E, 0)) (hb : a = p + b) : ∃ e, E = p + e ∧ ((b, 0) : Nat × Int) = (e, 0) := by
  have := congrArg Prod.fst h
  dsimp only at this
  exact ⟨b, by omega, rfl⟩
theorem thn_piece {r r' : Nat × Int} {k k' : Nat → Nat × Int} {E : Nat} (hr : thn r k = (E, 0)) (h1 : ∀ R, r = (R, 0) → k R = (E, 0) → ∃ e, R = p + e ∧ r' = (e, 0)) (h2 : ∀ e, k (p + e) = (E, 0) → ∃ x, E = p + x ∧ k' e = (x, 0)) : ∃ e, E = p + e ∧ thn r' k' = (e, 0) := by
  obtain ⟨h4, h5⟩ := thn_ok hr
  obtain ⟨e, he, hr'⟩ := h1 r.1 (by rw [← h4]) h5
  rw [he] at h5
  obtain ⟨x, hx, hk⟩ := h2 e h5
  refine ⟨x, hx, ?_⟩
  rw [hr']
  unfold thn
  rw [if_pos rfl]
  exact hk
theorem Piece.all (h : Piece s t p) : ∀ f, InPiece s t p f
  | 0 => ⟨fun a q d E _ _ hr _ => by rw [LX.con] at hr; simp at hr, fun a q d E _ hr _ => by rw [LX.ins] at hr; simp at hr, fun a i E hr _ => by rw [LX.dbl] at hr; simp at hr, fun a i n E hr _ => by rw [LX.ari] at hr; simp at hr, fun a i n b E hr _ => by rw [LX.cmd] at hr; simp at hr, fun a i q d E hr _ => by rw [LX.brc] at hr; simp at hr⟩
  | f + 1 => by
    have ih := h.all f
    have hfit := h.fit
    refine ⟨fun a q d E hl hb hr hE => ?_, fun a q d E hl hr hE => ?_, fun a i E hr hE => ?_, fun a i n E hr hE => ?_, fun a i n b E hr hE => ?_, fun a i q d E hr hE => ?_⟩
    · have hgood := (good_all (f + 1)).con s (p + a) q d (by omega) hb
      rw [LX.con] at hr
      rw [LX.con, h.bt hl]
      by_cases h1 : K.bt s (p + a) = 92
      · rw [if_pos h1] at hr ⊢
        by_cases h2 : p + a + 1 = s.length
        · rw [if_pos h2] at hr; simp at hr
        · rw [if_neg h2] at hr
          have := congrArg Prod.fst hr
          dsimp only at this
          rw [if_neg (by omega)]
          exact end_of hr (by omega)
      rw [if_neg h1] at hr ⊢
      by_cases h2 : K.bt s (p + a) = 39
      · rw [if_pos h2] at hr ⊢
        cases hf : LX.find s (p + a + 1) 39 with
        | none => rw [hf] at hr; simp at hr
        | some k =>
          rw [hf] at hr
          have := congrArg Prod.fst hr
          dsimp only at this hr
          rw [h.find (i := a + 1) (by rw [← hf]; congr 1) (by omega)]
          exact end_of hr (by omega)
      rw [if_neg h2] at hr ⊢
      by_cases h3 : K.bt s (p + a) = 34
      · rw [if_pos h3] at hr ⊢
        exact ih.dbl a (a + 1) E hr hE
      rw [if_neg h3] at hr ⊢
      by_cases h4 : K.bt s (p + a) = 96
      · rw [if_pos h4] at hr ⊢
        exact h.bkq f a (a + 1) E hr hE
      rw [if_neg h4] at hr ⊢
      have hd := begins_dollar hb (begins_other hb h1 h2 h3 h4)
      by_cases h5 : Lib.hasPrefix (s.drop (p + a)) [36, 40, 40] = true
      · rw [if_pos h5] at hr
        have hfar := ari_far _ _ _ _ _ _ hr
        have h6 := has3_iff.1 h5
        rw [if_pos (has3_iff.2 ⟨by omega, by rw [h.bt (by omega)]; exact h6.2.1, by rw [h.bt (by omega)]; exact h6.2.2.1, by rw [h.bt (by omega)]; exact h6.2.2.2⟩)]
        exact ih.ari a (a + 3) 0 E hr hE
      rw [if_neg h5] at hr
      have h5' : ¬ Lib.hasPrefix (t.drop a) [36, 40, 40] = true := by
        intro e
        have e' := has3_iff.1 e
        rw [h.bt (by omega), h.bt (by omega), h.bt (by omega)] at e'
        exact h5 (has3_iff.2 ⟨by omega, e'.2.1, e'.2.2.1, e'.2.2.2⟩)
      rw [if_neg h5']
      have hE2 : p + a + 2 ≤ E := by
        by_cases h6 : K.bt s (p + a + 1) = 40
        · rw [if_pos h6] at hr; have := cmd_far _ _ _ _ _ _ _ hr; omega
        rw [if_neg h6] at hr
        by_cases h7 : K.bt s (p + a + 1) = 123
        · rw [if_pos h7] at hr; have := brc_far _ _ _ _ _ _ _ hr; omega
        rw [if_neg h7] at hr
        by_cases h8 : starts (K.bt s (p + a + 1)) = false
        · rw [if_pos h8] at hr; have := congrArg Prod.fst hr; dsimp only at this; omega
        · rw [if_neg h8] at hr; have := congrArg Prod.fst hr; dsimp only at this; have := nameEnd_ge s (p + a + 2); omega
      rw [h.bt (i := a + 1) (by omega), show p + (a + 1) = p + a + 1 by omega]
      by_cases h6 : K.bt s (p + a + 1) = 40
      · rw [if_pos h6] at hr
        rw [if_pos h6]
        exact ih.cmd a (a + 2) 0 true E hr hE
      rw [if_neg h6] at hr
      rw [if_neg h6]
      by_cases h7 : K.bt s (p + a + 1) = 123
      · rw [if_pos h7] at hr
        rw [if_pos h7]
        exact ih.brc a (a + 2) q d E hr hE
      rw [if_neg h7] at hr
      rw [if_neg h7]
      by_cases h8 : starts (K.bt s (p + a + 1)) = false
      · rw [if_pos h8] at hr
        rw [if_pos h8]
        exact end_of hr (by omega)
      · rw [if_neg h8] at hr
        rw [if_neg h8]
        have := congrArg Prod.fst hr
        dsimp only at this
        exact end_of hr (h.nameEnd (i := a + 2) (by rw [show p + (a + 2) = p + a + 2 by omega]; omega))
    · rw [LX.ins] at hr
      rw [LX.ins, h.bt hl]
      by_cases h1 : K.bt s (p + a) = 39 ∨ K.bt s (p + a) = 34 ∨ LX.begins s (p + a) = false
      · rw [if_pos h1] at hr
        rw [if_pos (h1.imp id (fun x => x.imp id (h.begins_no hl)))]
        exact end_of hr (by omega)
      · rw [if_neg h1] at hr
        have hb : LX.begins s (p + a) = true := by
          cases hb : LX.begins s (p + a)
          · exact absurd (.inr (.inr hb)) h1
          · rfl
        have hgood := ((good_all f).con s (p + a) q d (by omega) hb).2.1
        rw [hr] at hgood
        have hE2 := hgood rfl
        dsimp only at hE2
        obtain ⟨e, he, hc⟩ := ih.con a q d E hl hb hr hE
        have hb' : LX.begins t a = true := by
          cases hb' : LX.begins t a
          · exfalso
            by_cases ha1 : a + 1 < t.length
            · rw [h.begins ha1, hb] at hb'; cases hb'
            · by_cases h36 : K.bt s (p + a) = 36
              · have h39 : ¬ K.bt s (p + a) = 39 := by omega
                have hd := begins_dollar hb h36
                have : p + a + 2 ≤ E := by
                  cases f with
                  | zero => rw [LX.con] at hr; simp at hr
                  | succ f =>
                    rw [LX.con, if_neg (by omega), if_neg (by omega), if_neg (by omega), if_neg (by omega)] at hr
                    by_cases h5 : Lib.hasPrefix (s.drop (p + a)) [36, 40, 40] = true
                    · rw [if_pos h5] at hr; have := ari_far _ _ _ _ _ _ hr; omega
                    rw [if_neg h5] at hr
                    by_cases h6 : K.bt s (p + a + 1) = 40
                    · rw [if_pos h6] at hr; have := cmd_far _ _ _ _ _ _ _ hr; omega
                    rw [if_neg h6] at hr
                    by_cases h7 : K.bt s (p + a + 1) = 123
                    · rw [if_pos h7] at hr; have := brc_far _ _ _ _ _ _ _ hr; omega
                    rw [if_neg h7] at hr
                    by_cases h8 : starts (K.bt s (p + a + 1)) = false
                    · rw [if_pos h8] at hr; have := congrArg Prod.fst hr; dsimp only at this; omega
                    · rw [if_neg h8] at hr; have := congrArg Prod.fst hr; dsimp only at this; have := nameEnd_ge s (p + a + 2); omega
                omega
              · unfold LX.begins at hb hb'
                rw [h.bt hl, if_neg h36] at hb'
                rw [if_neg h36] at hb
                rw [hb] at hb'
                cases hb'
          · rfl
        rw [if_neg (fun x => h1 (x.imp id (fun y => y.imp id (fun z => by rw [hb'] at z; cases z))))]
        exact ⟨e, he, hc⟩
    · have hfar := dbl_far _ _ _ _ _ hr
      rw [LX.dbl, if_pos (by omega)] at hr
      rw [LX.dbl, if_pos (by omega), h.bt (by omega)]
      by_cases h1 : K.bt s (p + i) = 34
      · rw [if_pos h1] at hr ⊢
        exact end_of hr (by omega)
      · rw [if_neg h1] at hr ⊢
        refine thn_piece hr (fun R hR hk => ih.ins i true true R (by omega) hR (by have := dbl_far _ _ _ _ _ hk; omega)) (fun e hk => ih.dbl a e E hk hE)
    · have hfar := ari_far _ _ _ _ _ _ hr
      rw [LX.ari, if_pos (by omega)] at hr
      rw [LX.ari, if_pos (by omega), h.bt (by omega)]
      have hst : ∀ m, thn (LX.ins f s (p + i) true false) (fun k => LX.ari f s (p + a) k m) = (E, 0) → ∃ e, E = p + e ∧ thn (LX.ins f t i true false) (fun k => LX.ari f t a k m) = (e, 0) := fun m hm =>
        thn_piece hm (fun R hR hk => ih.ins i true false R (by omega) hR (by have := ari_far _ _ _ _ _ _ hk; omega)) (fun e hk => ih.ari a e m E hk hE)
      by_cases h1 : K.bt s (p + i) = 40
      · rw [if_pos h1] at hr ⊢; exact hst _ hr
      rw [if_neg h1] at hr ⊢
      by_cases h2 : K.bt s (p + i) = 41 ∧ 0 < n
      · rw [if_pos h2] at hr ⊢; exact hst _ hr
      rw [if_neg h2] at hr ⊢
      by_cases h3 : K.bt s (p + i) = 41
      · rw [if_pos h3] at hr ⊢
        by_cases h4 : p + i + 1 = s.length
        · rw [if_pos h4] at hr; simp at hr
        · rw [if_neg h4] at hr
          rw [if_neg (by omega), h.bt (i := i + 1) (by omega), show p + (i + 1) = p + i + 1 by omega]
          by_cases h5 : K.bt s (p + i + 1) = 41
          · rw [if_pos h5] at hr
            rw [if_pos h5]
            exact end_of hr (by omega)
          · rw [if_neg h5] at hr; simp at hr
      · rw [if_neg h3] at hr ⊢; exact hst _ hr
    · have hfar := cmd_far _ _ _ _ _ _ _ hr
      rw [LX.cmd, if_pos (by omega)] at hr
      rw [LX.cmd, if_pos (by omega), h.bt (by omega)]
      by_cases h1 : LX.joins s (p + i) = true
      · rw [if_pos h1] at hr
        have hfar2 := cmd_far _ _ _ _ _ _ _ hr
        rw [if_pos (by rw [h.joins (by omega)]; exact h1)]
        exact ih.cmd a (i + 2) n b E hr hE
      rw [if_neg h1] at hr
      rw [if_neg (by rw [h.joins_no (by simpa using h1)]; simp)]
      by_cases h2 : K.bt s (p + i) = 35 ∧ b = true
      · rw [if_pos h2] at hr ⊢
        have hfar2 := cmd_far _ _ _ _ _ _ _ hr
        rw [h.comment (by omega)] at hr
        exact ih.cmd a _ n b E hr hE
      rw [if_neg h2] at hr ⊢
      by_cases h3 : LX.begins s (p + i) = true
      · rw [if_pos h3] at hr
        have hgood := fun r => ((good_all f).con s (p + i) false false (by omega) h3).2.1 r
        obtain ⟨h4, h5⟩ := thn_ok hr
        have hfar2 := cmd_far _ _ _ _ _ _ _ h5
        have hg := hgood h4
        rw [if_pos (by rw [h.begins (by omega)]; exact h3)]
        exact thn_piece hr (fun R hR hk => ih.con i false false R (by omega) h3 hR (by have := cmd_far _ _ _ _ _ _ _ hk; omega)) (fun e hk => ih.cmd a e n false E hk hE)
      rw [if_neg h3] at hr
      rw [if_neg (by rw [h.begins_no (by omega) (by simpa using h3)]; simp)]
      by_cases h4 : K.bt s (p + i) = 40
      · rw [if_pos h4] at hr ⊢; exact ih.cmd a (i + 1) (n + 1) _ E hr hE
      rw [if_neg h4] at hr ⊢
      by_cases h5 : K.bt s (p + i) = 41 ∧ n = 0
      · rw [if_pos h5] at hr ⊢; exact end_of hr (by omega)
      rw [if_neg h5] at hr ⊢
      by_cases h6 : K.bt s (p + i) = 41
      · rw [if_pos h6] at hr ⊢; exact ih.cmd a (i + 1) (n - 1) _ E hr hE
      · rw [if_neg h6] at hr ⊢; exact ih.cmd a (i + 1) n _ E hr hE
    · have hfar := brc_far _ _ _ _ _ _ _ hr
      rw [LX.brc, if_pos (by omega)] at hr
      rw [LX.brc, if_pos (by omega), h.bt (by omega)]
      by_cases h1 : K.bt s (p + i) = 125
      · rw [if_pos h1] at hr ⊢; exact end_of hr (by omega)
      rw [if_neg h1] at hr ⊢
      by_cases h2 : K.bt s (p + i) = 34 ∧ d = true
      · rw [if_pos h2] at hr; simp at hr
      rw [if_neg h2] at hr ⊢
      by_cases h3 : ((K.bt s (p + i) = 34 ∨ K.bt s (p + i) = 39) ∧ q = true) ∨ LX.begins s (p + i) = false
      · rw [if_pos h3] at hr
        rw [if_pos (h3.imp id (h.begins_no (by omega)))]
        exact ih.brc a (i + 1) q d E hr hE
      · rw [if_neg h3] at hr
        have h3b : LX.begins s (p + i) = true := by
          cases hb : LX.begins s (p + i)
          · exact absurd (.inr hb) h3
          · rfl
        obtain ⟨h4, h5⟩ := thn_ok hr
        have hfar2 := brc_far _ _ _ _ _ _ _ h5
        have hg := ((good_all f).con s (p + i) q d (by omega) h3b).2.1 h4
        rw [if_neg (fun x => h3 (x.imp id (fun y => by rw [h.begins (by omega)] at y; exact y)))]
        exact thn_piece hr (fun R hR hk => ih.con i q d R (by omega) h3b hR (by have := brc_far _ _ _ _ _ _ _ hk; omega)) (fun e hk => ih.brc a e q d E hk hE)
end
end LX
end Go.Proofs.Ytijibooneochjaa
namespace Go.Proofs.Ytijibooneochjaa
open K
namespace LX
theorem con_qd {G : Nat} {s : Str} {a : Nat} {q d q' d' : Bool} (h : ¬ (bt s a = 36 ∧ Lib.hasPrefix (s.drop a) [36, 40, 40] = false ∧ ¬ bt s (a + 1) = 40 ∧ bt s (a + 1) = 123)) (hb : begins s a = true) : con G s a q d = con G s a q' d' := by
  cases G with
  | zero => rw [con, con]
  | succ G =>
    rw [con, con]
    refine ite_eq (fun _ => rfl) (fun h1 => ite_eq (fun _ => rfl) (fun h2 => ite_eq (fun _ => rfl) (fun h3 => ite_eq (fun _ => rfl) (fun h4 => ite_eq (fun _ => rfl) (fun h5 => ite_eq (fun _ => rfl) (fun h6 => ite_eq (fun h7 => ?_) (fun _ => rfl)))))))
    exact absurd ⟨begins_other hb h1 h2 h3 h4, by simpa using h5, h6, h7⟩ h
theorem close_of {G : Nat} {s : Str} {a e : Nat} {q d : Bool} (hl : s.length ≤ 16384) (ha : a < s.length) (hb : begins s a = true) (hG : 3 * (s.length - a) + 1 ≤ G) (h : ¬ (bt s a = 36 ∧ Lib.hasPrefix (s.drop a) [36, 40, 40] = false ∧ ¬ bt s (a + 1) = 40 ∧ bt s (a + 1) = 123)) (hc : con G s a q d = (e, 0)) : close s a = (e, 0) := by
  unfold close
  rw [if_neg (by omega), if_pos ⟨ha, hb⟩, ← con_construct ha hG, con_qd (q' := q) (d' := d) h hb]
  exact hc
/-- A byte over which braces pass. -/
def Inert (b : Int) : Prop := ¬ b = 125 ∧ ¬ b = 34 ∧ ¬ b = 39 ∧ ¬ b = 36 ∧ ¬ b = 92 ∧ ¬ b = 96
instance (b : Int) : Decidable (Inert b) := by unfold Inert; infer_instance
theorem inert_begins {s : Str} {i : Nat} (h : Inert (bt s i)) : begins s i = false := by
  obtain ⟨h1, h2, h3, h4, h5, h6⟩ := h
  unfold begins
  rw [if_neg h4]
  exact decide_eq_false (by rintro (e | e | e | e) <;> contradiction)
/-- Braces closed from an offset on, with fuel enough. -/
def Brc (s : Str) (a i : Nat) (q d : Bool) (E : Nat) : Prop := ∃ F, 3 * (s.length - i) + 3 ≤ F ∧ brc F s a i q d = (E, 0)
theorem Brc.lt {s : Str} {a i : Nat} {q d : Bool} {E : Nat} (h : Brc s a i q d E) : i < s.length := by
  obtain ⟨F, hF, h⟩ := h
  obtain ⟨G, rfl⟩ : ∃ k, F = k + 1 := ⟨F - 1, by omega⟩
  rw [brc] at h
  by_cases hi : i < s.length
  · exact hi
  · rw [if_neg hi] at h; simp at h
theorem Brc.close {s : Str} {a i : Nat} {q d : Bool} {E : Nat} (h : Brc s a i q d E) (hb : bt s i = 125) : E = i + 1 := by
  have hl := h.lt
  obtain ⟨F, hF, h⟩ := h
  obtain ⟨G, rfl⟩ : ∃ k, F = k + 1 := ⟨F - 1, by omega⟩
  rw [brc, if_pos hl, if_pos hb] at h
  exact (congrArg Prod.fst h).symm
theorem Brc.over {s : Str} {a i : Nat} {q d : Bool} {E : Nat} (h : Brc s a i q d E) (h1 : ¬ bt s i = 125) (h2 : ((bt s i = 34 ∨ bt s i = 39) ∧ q = true) ∨ begins s i = false) : Brc s a (i + 1) q d E := by
  have hl := h.lt
  obtain ⟨F, hF, h⟩ := h
  obtain ⟨G, rfl⟩ : ∃ k, F = k + 1 := ⟨F - 1, by omega⟩
  rw [brc, if_pos hl, if_neg h1] at h
  by_cases h3 : bt s i = 34 ∧ d = true
  · rw [if_pos h3] at h; simp at h
  rw [if_neg h3, if_pos h2] at h
  exact ⟨G, by omega, h⟩
theorem Brc.con {s : Str} {a i : Nat} {q d : Bool} {E : Nat} (h : Brc s a i q d E) (h1 : ¬ bt s i = 125) (h2 : ¬ (((bt s i = 34 ∨ bt s i = 39) ∧ q = true) ∨ begins s i = false)) : ∃ G e, 3 * (s.length - i) + 1 ≤ G ∧ LX.con G s i q d = (e, 0) ∧ Brc s a e q d E := by
  have hl := h.lt
  obtain ⟨F, hF, h⟩ := h
  obtain ⟨G, rfl⟩ : ∃ k, F = k + 1 := ⟨F - 1, by omega⟩
  rw [brc, if_pos hl, if_neg h1] at h
  by_cases h3 : bt s i = 34 ∧ d = true
  · rw [if_pos h3] at h; simp at h
  rw [if_neg h3, if_neg h2] at h
  obtain ⟨h4, h5⟩ := thn_ok h
  have hb : begins s i = true := by
    cases hb : begins s i
    · exact absurd (.inr hb) h2
    · rfl
  have hg := ((good_all G).con s i q d hl hb).2.1 h4
  exact ⟨G, (LX.con G s i q d).1, by omega, by rw [← h4], G, by omega, h5⟩
theorem Brc.inert {s : Str} {a i : Nat} {q d : Bool} {E : Nat} (h : Brc s a i q d E) (hb : Inert (bt s i)) : Brc s a (i + 1) q d E := h.over hb.1 (.inr (inert_begins hb))
theorem Brc.inerts {s : Str} {a i : Nat} {q d : Bool} {E : Nat} (h : Brc s a i q d E) : ∀ n, (∀ k, k < n → Inert (bt s (i + k))) → Brc s a (i + n) q d E
  | 0, _ => h
  | n + 1, hn => (h.inerts n (fun k hk => hn k (by omega))).inert (hn n (by omega))
end LX
namespace WP
open LX (Inert Brc)
theorem numLen_digit : ∀ (l : Str) (n : Int) (k : Nat), k < numLen l n → LX.digit (bt l k) = true
  | [], n, k, h => by rw [numLen] at h; omega
  | c :: r, n, k, h => by
    rw [numLen] at h
    split at h
    · rename_i hc
      cases k with
      | zero => exact hc.1
      | succ k => exact numLen_digit r (10 * n + ((c.toNat : Int) - 48)) k (by omega)
    · omega
theorem takeWhile_char (q : UInt8 → Bool) : ∀ (l : Str) (k : Nat), k < (l.takeWhile q).length → ∃ x, bt l k = ((x : UInt8).toNat : Int) ∧ q x = true
  | [], k, h => by simp at h
  | c :: r, k, h => by
    rw [List.takeWhile_cons] at h
    split at h
    · rename_i hc
      cases k with
      | zero => exact ⟨c, rfl, hc⟩
      | succ k => exact takeWhile_char q r k (by simpa using h)
    · simp at h
theorem inert_digit {b : Int} (h : LX.digit b = true) : Inert b := by
  unfold LX.digit at h
  have := of_decide_eq_true h
  unfold Inert
  omega
theorem inert_starts {b : Int} (h : LX.starts b = true) : Inert b := by
  unfold LX.starts at h
  have := of_decide_eq_true h
  unfold Inert
  omega
theorem one8_small : ∀ n : Nat, n < 256 → one8 n = decide (n = 64 ∨ n = 42 ∨ n = 35 ∨ n = 63 ∨ n = 45 ∨ n = 36 ∨ n = 33 ∨ n = 48) := by decide +kernel
theorem one8_iff (s : Str) (i : Nat) : one8 (bt s i) = true ↔ bt s i = 64 ∨ bt s i = 42 ∨ bt s i = 35 ∨ bt s i = 63 ∨ bt s i = 45 ∨ bt s i = 36 ∨ bt s i = 33 ∨ bt s i = 48 := by
  obtain ⟨n, hn⟩ : ∃ n : Nat, bt s i = n := ⟨(bt s i).toNat, by have := bt_nonneg s i; omega⟩
  have := bt_le s i
  rw [hn, one8_small n (by omega), decide_eq_true_eq]
  omega
theorem special_small : ∀ n : Nat, n < 256 → LX.special n = decide (n = 64 ∨ n = 42 ∨ n = 35 ∨ n = 63 ∨ n = 45 ∨ n = 36 ∨ n = 33 ∨ n = 123 ∨ n = 40) := by decide +kernel
theorem special_iff (s : Str) (i : Nat) : LX.special (bt s i) = true ↔ bt s i = 64 ∨ bt s i = 42 ∨ bt s i = 35 ∨ bt s i = 63 ∨ bt s i = 45 ∨ bt s i = 36 ∨ bt s i = 33 ∨ bt s i = 123 ∨ bt s i = 40 := by
  obtain ⟨n, hn⟩ : ∃ n : Nat, bt s i = n := ⟨(bt s i).toNat, by have := bt_nonneg s i; omega⟩
  have := bt_le s i
  rw [hn, special_small n (by omega), decide_eq_true_eq]
  omega
/-- A parameter's bytes are inert, but for a dollar alone. -/
theorem parameter_inert {s : Str} {i : Nat} (h36 : ¬ bt s i = 36) (hi : i ≤ s.length) : ∀ k, k < parameter s i - i → Inert (bt s (i + k)) := by
  intro k hk
  unfold parameter at hk
  split at hk
  · omega
  split at hk
  · rename_i h8
    obtain rfl : k = 0 := by omega
    have := (one8_iff s i).1 h8
    rw [Nat.add_zero]
    unfold Inert
    omega
  split at hk
  · have := numLen_digit (s.drop i) 0 k (by omega)
    rw [bt_drop] at this
    exact inert_digit this
  split at hk
  · unfold LX.nameEnd at hk
    obtain ⟨x, hx, hq⟩ := takeWhile_char (fun c => LX.starts (c.toNat : Int) || LX.digit (c.toNat : Int)) (s.drop i) k (by omega)
    rw [bt_drop] at hx
    rw [hx]
    rw [Bool.or_eq_true] at hq
    rcases hq with hq | hq
    · exact inert_starts hq
    · exact inert_digit hq
  · omega
theorem parameter_dollar {s : Str} {i : Nat} (h36 : bt s i = 36) (hi : i < s.length) : parameter s i = i + 1 := by
  unfold parameter
  rw [if_neg (by omega), if_pos ((one8_iff s i).2 (by omega))]
theorem operator_inert {s : Str} {k : Nat} {colon : Bool} : ∀ j, j < (operator (s.drop k) colon).2 → Inert (bt s (k + j)) := by
  intro j hj
  have h0 : bt (s.drop k) 0 = bt s k := by rw [bt_drop]; rfl
  have one : ∀ m, bt s k = m → Inert m → j = 0 → Inert (bt s (k + j)) := fun m h1 h2 h3 => by subst h3; rw [Nat.add_zero, h1]; exact h2
  have two : ∀ (x : UInt8), Inert x.toNat → Lib.hasPrefix (s.drop k) [x, x] = true → j < 2 → Inert (bt s (k + j)) := fun x h1 h2 h3 => by
    obtain ⟨r, hr⟩ := LX.has2 h2
    have d1 := LX.drop_head hr
    have d2 := LX.drop_head d1.2.2
    rcases (show j = 0 ∨ j = 1 by omega) with rfl | rfl
    · rw [Nat.add_zero, d1.2.1]; exact h1
    · rw [d2.2.1]; exact h1
  unfold operator at hj
  rw [h0] at hj
  split at hj
  · simp at hj
  split at hj
  · exact one 45 (by assumption) (by decide) (by dsimp only at hj; omega)
  split at hj
  · exact one 61 (by assumption) (by decide) (by dsimp only at hj; omega)
  split at hj
  · exact one 63 (by assumption) (by decide) (by dsimp only at hj; omega)
  split at hj
  · exact one 43 (by assumption) (by decide) (by dsimp only at hj; omega)
  split at hj
  · simp at hj
  split at hj
  · exact two 37 (by decide) (by assumption) (by dsimp only at hj; omega)
  split at hj
  · exact two 35 (by decide) (by assumption) (by dsimp only at hj; omega)
  split at hj
  · exact one 37 (by assumption) (by decide) (by dsimp only at hj; omega)
  split at hj
  · exact one 35 (by assumption) (by decide) (by dsimp only at hj; omega)
  · simp at hj
/-- An outcome that is no early end, and holds what is told of it. -/
def Safe {α : Type} (r : Except Flt α) (P : α → Prop) : Prop := match r with | .error f => ¬ f.2 = 7 | .ok y => P y
theorem Safe.mono {α : Type} {r : Except Flt α} {P Q : α → Prop} (h : Safe r P) (hPQ : ∀ y, P y → Q y) : Safe r Q := by
  cases r with
  | error f => exact h
  | ok y => exact hPQ y h
def qOf (c : Ctx) : Bool := decide (¬ c.pl = 0)
def dOf (c : Ctx) : Bool := decide (c.pl = 1)
/-- What is known of the parser at a fuel. -/
structure Trk (s : Str) (f : Nat) : Prop where
  dbl : ∀ (F a E : Nat) (c : Ctx) (st : St), c.s = s → c.pl = 1 → c.op = false → 3 * (s.length - st.a) + 3 ≤ F → LX.dbl F s a st.a = (E, 0) → Safe (run f c st) fun y => y.a + 1 = E
  ari : ∀ (F a E : Nat) (c : Ctx) (st : St), c.s = s → c.pl = 2 → c.op = false → 3 * (s.length - st.a) + 3 ≤ F → LX.ari F s a st.a st.dep = (E, 0) → Safe (run f c st) fun y => y.a + 2 = E
  brc : ∀ (a E : Nat) (c : Ctx) (st : St), c.s = s → c.op = true → Brc s a st.a (qOf c) (dOf c) E → Safe (run f c st) fun y => y.a + 1 = E
theorem safe_nest {f : Nat} {c : Ctx} {k m E : Nat} (h : Safe (run f c ⟨k, 0, [], []⟩) fun y => y.a + m = E) : Safe (nest f c k) fun r => r.2 + m = E := by
  unfold nest
  cases hr : run f c ⟨k, 0, [], []⟩ with
  | error x => rw [hr] at h; exact h
  | ok y => rw [hr] at h; exact h
section
variable {s : Str} {f : Nat}
theorem braced_safe (hT : Trk s f) {c : Ctx} {st : St} {E : Nat} (hc : c.s = s) (h : Brc s st.a (st.a + 2) (qOf c) (dOf c) E) : Safe (braced (nest f) c st) fun r => r.2 = E := by
  have hl := h.lt
  have three : ∀ (e k o z : Nat) (colon : Bool), k < s.length → (¬ z = 0 → Brc s st.a (k + z) (qOf c) (dOf c) E) → Safe (braced3 (nest f) c st e k o z colon) fun r => r.2 = E := by
    intro e k o z colon hk hz
    unfold braced3
    by_cases h1 : z = 0
    · rw [if_pos h1]
      unfold reject
      rw [hc, if_neg (by omega)]
      exact (by decide : ¬ (6 : Int) = 7)
    rw [if_neg h1]
    by_cases h2 : c.lv = 32
    · rw [if_pos h2]; exact (by decide : ¬ (5 : Int) = 7)
    rw [if_neg h2]
    by_cases h3 : Lib.hasPrefix (c.s.drop (k + z)) [92, 10] = true
    · rw [if_pos h3]; exact (by decide : ¬ (6 : Int) = 7)
    rw [if_neg h3]
    have hn := safe_nest (hT.brc st.a E ⟨c.s, c.pl, true, c.lv + 1, st.a⟩ ⟨k + z, 0, [], []⟩ hc rfl (hz h1))
    cases hr : nest f ⟨c.s, c.pl, true, c.lv + 1, st.a⟩ (k + z) with
    | error x => rw [hr] at hn; exact hn
    | ok r => rw [hr] at hn; exact hn
  unfold braced
  -- the first stage
  have first : Safe (braced1 c st) fun r => ∀ x, r = some x → x.2 = E := by
    unfold braced1
    rw [hc]
    by_cases h1 : st.a + 2 < s.length ∧ bt s (st.a + 2) = 35 ∧ st.a + 3 < parameter s (st.a + 3)
    · rw [if_pos h1]
      have hb3 : Brc s st.a (st.a + 3) (qOf c) (dOf c) E := h.inert (by rw [h1.2.1]; decide)
      have hl3 := hb3.lt
      by_cases h2 : tooLong s (st.a + 3) (parameter s (st.a + 3)) = true
      · rw [if_pos h2]; exact (by decide : ¬ (3 : Int) = 7)
      rw [if_neg h2]
      by_cases h36 : bt s (st.a + 3) = 36
      · rw [parameter_dollar h36 hl3]
        have hz : (operator (s.drop (st.a + 3)) false).2 = 0 := by
          obtain ⟨x, hx, hbx, _⟩ := drop_cons s (st.a + 3) hl3
          obtain rfl : x = 36 := UInt8.toNat_inj.1 (by have e : ((x.toNat : Nat) : Int) = 36 := by rw [← hbx, h36]
                                                       show x.toNat = 36; omega)
          rw [hx]
          unfold operator
          rw [show bt (36 :: s.drop (st.a + 3 + 1)) 0 = 36 from rfl, if_neg (by simp), if_neg (by decide), if_neg (by decide), if_neg (by decide), if_neg (by decide), if_neg (by simp), if_neg (by simp [Lib.hasPrefix]), if_neg (by simp [Lib.hasPrefix]), if_neg (by decide), if_neg (by decide)]
        by_cases hbg : LX.begins s (st.a + 3) = true
        · have h4 := LX.begins_dollar hbg h36
          rw [if_neg (by omega)]
          by_cases h5 : bt s (st.a + 3 + 1) = 125
          · exfalso
            unfold LX.begins at hbg
            rw [if_pos h36] at hbg
            unfold LX.dollar at hbg
            rw [Bool.and_eq_true, Bool.or_eq_true, Bool.or_eq_true] at hbg
            rcases hbg.2 with (e | e) | e
            · exact (inert_starts e).1 h5
            · exact (inert_digit e).1 h5
            · have := (special_iff s (st.a + 3 + 1)).1 e; omega
          · rw [if_neg h5, if_pos hz]; exact (by decide : ¬ (6 : Int) = 7)
        · have hb4 := hb3.over (by rw [h36]; decide) (.inr (by simpa using hbg))
          have hl4 := hb4.lt
          rw [if_neg (by omega)]
          by_cases h5 : bt s (st.a + 3 + 1) = 125
          · rw [if_pos h5]
            intro x hx
            injection hx with hx
            rw [← hx]
            exact (hb4.close h5).symm
          · rw [if_neg h5, if_pos hz]; exact (by decide : ¬ (6 : Int) = 7)
      · have hbe := hb3.inerts _ (parameter_inert h36 (by omega))
        rw [show st.a + 3 + (parameter s (st.a + 3) - (st.a + 3)) = parameter s (st.a + 3) by omega] at hbe
        have hle := hbe.lt
        rw [if_neg (by omega)]
        by_cases h5 : bt s (parameter s (st.a + 3)) = 125
        · rw [if_pos h5]
          intro x hx
          injection hx with hx
          rw [← hx]
          exact (hbe.close h5).symm
        · rw [if_neg h5]
          by_cases h6 : (operator (s.drop (st.a + 3)) false).2 = 0
          · rw [if_pos h6]; exact (by decide : ¬ (6 : Int) = 7)
          · rw [if_neg h6]; intro x hx; cases hx
    · rw [if_neg h1]; intro x hx; cases hx
  cases hb1 : braced1 c st with
  | error x => rw [hb1] at first; exact first
  | ok r =>
    rw [hb1] at first
    cases r with
    | some r => exact first r rfl
    | none =>
      dsimp only
      rw [hc]
      obtain ⟨e, he⟩ : ∃ e, parameter s (st.a + 2) = e := ⟨_, rfl⟩
      have hge := (parameter_le' (s := s) (i := st.a + 2) (by omega))
      rw [he] at hge ⊢
      unfold braced2
      by_cases h1 : e = st.a + 2
      · rw [if_pos h1]
        unfold reject
        rw [hc, if_neg (by omega)]
        exact (by decide : ¬ (6 : Int) = 7)
      rw [if_neg h1, hc]
      by_cases h2 : tooLong s (st.a + 2) e = true
      · rw [if_pos h2]; exact (by decide : ¬ (3 : Int) = 7)
      rw [if_neg h2]
      have has : ∀ {x : UInt8}, Lib.hasPrefix (s.drop e) [x] = true → e < s.length ∧ bt s e = (x.toNat : Int) := fun hx => by
        obtain ⟨r, hr⟩ := LX.has1 hx
        have := LX.drop_head hr
        exact ⟨this.1, this.2.1⟩
      by_cases h36 : bt s (st.a + 2) = 36
      · rw [parameter_dollar h36 hl] at he
        subst he
        by_cases hbg : LX.begins s (st.a + 2) = true
        · have h4 := LX.begins_dollar hbg h36
          have hsp : LX.starts (bt s (st.a + 2 + 1)) = true ∨ LX.digit (bt s (st.a + 2 + 1)) = true ∨ LX.special (bt s (st.a + 2 + 1)) = true := by
            unfold LX.begins at hbg
            rw [if_pos h36] at hbg
            unfold LX.dollar at hbg
            rw [Bool.and_eq_true, Bool.or_eq_true, Bool.or_eq_true] at hbg
            rcases hbg.2 with (e | e) | e
            · exact .inl e
            · exact .inr (.inl e)
            · exact .inr (.inr e)
          have hcn := h.con (by rw [h36]; decide) (by rw [h36, hbg]; simp)
          have h125 : ¬ Lib.hasPrefix (s.drop (st.a + 2 + 1)) [125] = true := fun hx => by
            have h5 : bt s (st.a + 2 + 1) = 125 := (has hx).2
            rcases hsp with e | e | e
            · exact (inert_starts e).1 h5
            · exact (inert_digit e).1 h5
            · have := (special_iff s _).1 e; omega
          have h58 : ¬ Lib.hasPrefix (s.drop (st.a + 2 + 1)) [58] = true := fun hx => by
            have h5 : bt s (st.a + 2 + 1) = 58 := (has hx).2
            rcases hsp with e | e | e
            · unfold LX.starts at e; have := of_decide_eq_true e; omega
            · unfold LX.digit at e; have := of_decide_eq_true e; omega
            · have := (special_iff s _).1 e; omega
          rw [if_neg h125, if_neg h58]
          refine three _ _ _ _ _ h4 (fun hz => ?_)
          -- an operator behind the dollar: the lexer goes over both
          have hop : bt s (st.a + 2 + 1) = 45 ∨ bt s (st.a + 2 + 1) = 63 ∨ bt s (st.a + 2 + 1) = 35 := by
            have h0 : bt (s.drop (st.a + 2 + 1)) 0 = bt s (st.a + 2 + 1) := by rw [bt_drop, Nat.add_zero]
            have h61 : ¬ bt s (st.a + 2 + 1) = 61 ∧ ¬ bt s (st.a + 2 + 1) = 43 ∧ ¬ bt s (st.a + 2 + 1) = 37 := by
              rcases hsp with e | e | e
              · unfold LX.starts at e; have := of_decide_eq_true e; omega
              · unfold LX.digit at e; have := of_decide_eq_true e; omega
              · have := (special_iff s _).1 e; omega
            by_cases q1 : bt s (st.a + 2 + 1) = 45
            · exact .inl q1
            by_cases q2 : bt s (st.a + 2 + 1) = 63
            · exact .inr (.inl q2)
            by_cases q3 : bt s (st.a + 2 + 1) = 35
            · exact .inr (.inr q3)
            exfalso
            apply hz
            have n37 : ¬ Lib.hasPrefix (s.drop (st.a + 2 + 1)) [37, 37] = true := fun hx => by
              obtain ⟨r, hr⟩ := LX.has2 hx
              have : bt s (st.a + 2 + 1) = 37 := (LX.drop_head hr).2.1
              omega
            have n35 : ¬ Lib.hasPrefix (s.drop (st.a + 2 + 1)) [35, 35] = true := fun hx => by
              obtain ⟨r, hr⟩ := LX.has2 hx
              have : bt s (st.a + 2 + 1) = 35 := (LX.drop_head hr).2.1
              omega
            unfold operator
            rw [h0]
            by_cases hnil : s.drop (st.a + 2 + 1) = []
            · rw [if_pos hnil]
            · rw [if_neg hnil, if_neg q1, if_neg h61.1, if_neg q2, if_neg h61.2.1, if_neg (by simp), if_neg n37, if_neg n35, if_neg h61.2.2, if_neg q3]
          obtain ⟨G, e, hG, hcon, hBe⟩ := hcn
          have he2 : e = st.a + 2 + 2 := by
            obtain ⟨G, rfl⟩ : ∃ k, G = k + 1 := ⟨G - 1, by omega⟩
            rw [LX.con, if_neg (by rw [h36]; decide), if_neg (by rw [h36]; decide), if_neg (by rw [h36]; decide), if_neg (by rw [h36]; decide)] at hcon
            have n3 : ¬ Lib.hasPrefix (s.drop (st.a + 2)) [36, 40, 40] = true := fun hx => by have := (LX.has3 hx).2.2.1; omega
            rw [if_neg n3, if_neg (by omega), if_neg (by omega)] at hcon
            have nst : LX.starts (bt s (st.a + 2 + 1)) = false := by
              rcases hop with e | e | e <;> rw [e] <;> decide
            rw [if_pos nst] at hcon
            exact (congrArg Prod.fst hcon).symm
          subst he2
          -- one byte or two
          have hin := operator_inert (s := s) (k := st.a + 2 + 1) (colon := false)
          obtain ⟨z, hzz⟩ : ∃ z, (operator (s.drop (st.a + 2 + 1)) false).2 = z := ⟨_, rfl⟩
          rw [hzz] at hin hz ⊢
          rcases Nat.eq_or_lt_of_le (show 1 ≤ z by omega) with hz1 | hz1
          · rw [← hz1]; exact hBe
          · have := hBe.inerts (z - 1) (fun k hk => by have := hin (k + 1) (by omega); rw [show st.a + 2 + 2 + k = st.a + 2 + 1 + (k + 1) by omega]; exact this)
            rw [show st.a + 2 + 2 + (z - 1) = st.a + 2 + 1 + z by omega] at this
            exact this
        · have hb3 := h.over (by rw [h36]; decide) (.inr (by simpa using hbg))
          have hl3 := hb3.lt
          by_cases h125 : Lib.hasPrefix (s.drop (st.a + 2 + 1)) [125] = true
          · rw [if_pos h125]; exact (hb3.close (has h125).2).symm
          rw [if_neg h125]
          by_cases h58 : Lib.hasPrefix (s.drop (st.a + 2 + 1)) [58] = true
          · rw [if_pos h58]
            have hb4 := hb3.inert (by rw [(has h58).2]; decide)
            exact three _ _ _ _ _ hb4.lt (fun _ => hb4.inerts _ operator_inert)
          · rw [if_neg h58]
            exact three _ _ _ _ _ hl3 (fun _ => hb3.inerts _ operator_inert)
      · have hbe := h.inerts _ (parameter_inert h36 (by omega))
        rw [he, show st.a + 2 + (e - (st.a + 2)) = e by omega] at hbe
        have hle := hbe.lt
        by_cases h125 : Lib.hasPrefix (s.drop e) [125] = true
        · rw [if_pos h125]; exact (hbe.close (has h125).2).symm
        rw [if_neg h125]
        by_cases h58 : Lib.hasPrefix (s.drop e) [58] = true
        · rw [if_pos h58]
          have hb4 := hbe.inert (by rw [(has h58).2]; decide)
          exact three _ _ _ _ _ hb4.lt (fun _ => hb4.inerts _ operator_inert)
        · rw [if_neg h58]
          exact three _ _ _ _ _ hle (fun _ => hbe.inerts _ operator_inert)
end
end WP
end Go.Proofs.Ytijibooneochjaa
namespace Go.Proofs.Ytijibooneochjaa
open K
namespace LX
theorem con_two {G : Nat} {s : Str} {a E : Nat} {q d : Bool} (h36 : bt s a = 36) (hr : con G s a q d = (E, 0)) : a + 2 ≤ E := by
  cases G with
  | zero => rw [con] at hr; simp at hr
  | succ G =>
    rw [con, if_neg (by omega), if_neg (by omega), if_neg (by omega), if_neg (by omega)] at hr
    by_cases h5 : Lib.hasPrefix (s.drop a) [36, 40, 40] = true
    · rw [if_pos h5] at hr; have := ari_far _ _ _ _ _ _ hr; omega
    rw [if_neg h5] at hr
    by_cases h6 : bt s (a + 1) = 40
    · rw [if_pos h6] at hr; have := cmd_far _ _ _ _ _ _ _ hr; omega
    rw [if_neg h6] at hr
    by_cases h7 : bt s (a + 1) = 123
    · rw [if_pos h7] at hr; have := brc_far _ _ _ _ _ _ _ hr; omega
    rw [if_neg h7] at hr
    by_cases h8 : starts (bt s (a + 1)) = false
    · rw [if_pos h8] at hr; have := congrArg Prod.fst hr; dsimp only at this; omega
    · rw [if_neg h8] at hr; have := congrArg Prod.fst hr; dsimp only at this; have := nameEnd_ge s (a + 2); omega
theorem Piece.begins_yes {s t : Str} {p : Nat} (h : Piece s t p) {i e : Nat} {G : Nat} {q d : Bool} (hi : i < t.length) (hb : LX.begins s (p + i) = true) (hr : LX.con G s (p + i) q d = (p + e, 0)) (he : e ≤ t.length) : LX.begins t i = true := by
  by_cases h1 : i + 1 < t.length
  · rw [h.begins h1]; exact hb
  · by_cases h36 : K.bt s (p + i) = 36
    · have := con_two h36 hr; omega
    · unfold LX.begins at hb ⊢
      rw [h.bt hi, if_neg h36]
      rw [if_neg h36] at hb
      exact hb
theorem Piece.word {s t : Str} {p : Nat} (h : Piece s t p) : ∀ (F i : Nat), i ≤ t.length → LX.word F s (p + i) = (p + t.length, 0) → LX.word F t i = (t.length, 0)
  | 0, i, _, hr => by
    rw [LX.word] at hr ⊢
    have := congrArg Prod.fst hr
    dsimp only at this
    rw [show i = t.length by omega]
  | F + 1, i, hi, hr => by
    have hfit := h.fit
    rcases Nat.eq_or_lt_of_le hi with rfl | hlt
    · rw [LX.word, if_neg (by omega)]
    rw [LX.word] at hr
    by_cases hc : p + i < s.length ∧ divides (K.bt s (p + i)) = false
    · rw [if_pos hc] at hr
      rw [LX.word, if_pos ⟨hlt, by rw [h.bt hlt]; exact hc.2⟩]
      by_cases hb : LX.begins s (p + i) = true
      · rw [if_pos hb] at hr
        obtain ⟨h4, h5⟩ := thn_ok hr
        have hg := construct_good (q := false) (d := false) hc.1 hb
        have hle : (construct s (p + i) false false).1 ≤ p + t.length := by
          have := (word_good F s _ hg.1).2.1 (by rw [h5])
          rw [h5] at this
          exact this
        obtain ⟨e, he, hce⟩ := (h.all _).con i false false (construct s (p + i) false false).1 hlt hb (by rw [← h4]; rfl) hle
        have hgt := hg.2.1 h4
        have hbt : LX.begins t i = true := h.begins_yes (G := 3 * s.length + 3) (q := false) (d := false) hlt hb (by rw [← he, ← h4]; rfl) (by omega)
        rw [if_pos hbt]
        have hct : construct t i false false = (e, 0) := by rw [← con_construct (f := 3 * s.length + 3) hlt (by omega)]; exact hce
        rw [hct]
        unfold thn
        rw [if_pos rfl]
        exact h.word F e (by omega) (by rw [← he]; exact h5)
      · rw [if_neg hb] at hr
        rw [if_neg (by rw [h.begins_no hlt (by simpa using hb)]; simp)]
        exact h.word F (i + 1) hlt hr
    · rw [if_neg hc] at hr
      have := congrArg Prod.fst hr
      dsimp only at this
      omega
end LX
namespace WP
open LX (Inert Brc)
theorem add_dep (p : Part) (k : Nat) (st : St) : (add p k st).dep = st.dep := by
  unfold add flush
  split <;> rfl
section
variable {s : Str} {f : Nat}
theorem dollar_safe (hT : Trk s f) {c : Ctx} {st : St} {E G : Nat} (hc : c.s = s) (hl : s.length ≤ 16384) (ha : st.a < s.length) (h36 : bt s st.a = 36) (hb : LX.begins s st.a = true) (hG : 3 * (s.length - st.a) + 1 ≤ G) (hr : LX.con G s st.a (qOf c) (dOf c) = (E, 0)) :
    Safe (dollar (nest f) c st) fun y => y.a = E ∧ y.dep = st.dep := by
  have ha1 := LX.begins_dollar hb h36
  have hr0 := hr
  obtain ⟨G, rfl⟩ : ∃ k, G = k + 1 := ⟨G - 1, by omega⟩
  rw [LX.con, if_neg (by omega), if_neg (by omega), if_neg (by omega), if_neg (by omega)] at hr
  have hsp : LX.starts (bt s (st.a + 1)) = true ∨ LX.digit (bt s (st.a + 1)) = true ∨ LX.special (bt s (st.a + 1)) = true := by
    have hb' := hb
    unfold LX.begins at hb'
    rw [if_pos h36] at hb'
    unfold LX.dollar at hb'
    rw [Bool.and_eq_true, Bool.or_eq_true, Bool.or_eq_true] at hb'
    rcases hb'.2 with (e | e) | e
    · exact .inl e
    · exact .inr (.inl e)
    · exact .inr (.inr e)
  have has : ∀ {x : UInt8}, Lib.hasPrefix (s.drop (st.a + 1)) [x] = true ↔ bt s (st.a + 1) = (x.toNat : Int) := by
    intro x
    constructor
    · intro hx
      obtain ⟨r, hr⟩ := LX.has1 hx
      exact (LX.drop_head hr).2.1
    · intro hx
      obtain ⟨y, hy, hby, _⟩ := drop_cons s (st.a + 1) ha1
      obtain rfl : y = x := UInt8.toNat_inj.1 (by have : ((y.toNat : Nat) : Int) = (x.toNat : Int) := by rw [← hby, hx]
                                                  omega)
      rw [hy]
      simp [Lib.hasPrefix]
  unfold dollar
  rw [hc]
  by_cases h1 : Lib.hasPrefix (s.drop (st.a + 1)) [40, 40] = true
  · rw [if_pos h1]
    obtain ⟨r, hr2⟩ := LX.has2 h1
    have d1 := LX.drop_head hr2
    have d2 := LX.drop_head d1.2.2
    have d1b : bt s (st.a + 1) = 40 := d1.2.1
    have d2b : bt s (st.a + 1 + 1) = 40 := d2.2.1
    rw [if_pos (LX.has3_iff.2 ⟨by omega, h36, d1b, d2b⟩)] at hr
    by_cases h2 : c.lv = 32
    · rw [if_pos h2]; exact (by decide : ¬ (5 : Int) = 7)
    rw [if_neg h2]
    have hn := safe_nest (hT.ari G st.a E ⟨s, 2, false, c.lv + 1, st.a⟩ ⟨st.a + 3, 0, [], []⟩ rfl rfl rfl (by dsimp only; omega) hr)
    cases hnr : nest f ⟨s, 2, false, c.lv + 1, st.a⟩ (st.a + 3) with
    | error x => rw [hnr] at hn; exact hn
    | ok r => rw [hnr] at hn; exact ⟨hn, add_dep _ _ _⟩
  rw [if_neg h1]
  have h3 : ¬ Lib.hasPrefix (s.drop st.a) [36, 40, 40] = true := by rw [LX.has_not3 (by simpa using h1)]; simp
  rw [if_neg h3] at hr
  by_cases h4 : Lib.hasPrefix (s.drop (st.a + 1)) [40] = true
  · rw [if_pos h4]
    have hcl : cls s st.a = .ok E := by
      unfold cls
      rw [LX.close_of hl ha hb hG (fun x => x.2.2.1 (has.1 h4)) hr0]
      rfl
    rw [hcl]
    exact ⟨rfl, add_dep _ _ _⟩
  rw [if_neg h4]
  have n40 : ¬ bt s (st.a + 1) = 40 := fun x => h4 (has.2 x)
  rw [if_neg n40] at hr
  by_cases h5 : Lib.hasPrefix (s.drop (st.a + 1)) [123] = true
  · rw [if_pos h5]
    have b5 : bt s (st.a + 1) = 123 := has.1 h5
    rw [if_pos b5] at hr
    have hbr := braced_safe hT (st := st) hc ⟨G, by omega, hr⟩
    cases hbb : braced (nest f) c st with
    | error x => rw [hbb] at hbr; exact hbr
    | ok r => rw [hbb] at hbr; exact ⟨hbr, add_dep _ _ _⟩
  rw [if_neg h5]
  have n123 : ¬ bt s (st.a + 1) = 123 := fun x => h5 (has.2 x)
  rw [if_neg n123] at hr
  by_cases h6 : st.a + 1 < s.length ∧ LX.digit (bt s (st.a + 1)) = true
  · rw [if_pos h6]
    have nst : LX.starts (bt s (st.a + 1)) = false := by
      have := h6.2
      unfold LX.digit at this
      have := of_decide_eq_true this
      unfold LX.starts
      exact decide_eq_false (by omega)
    rw [if_pos nst] at hr
    exact ⟨congrArg Prod.fst hr, add_dep _ _ _⟩
  rw [if_neg h6]
  have hnd : ¬ LX.digit (bt s (st.a + 1)) = true := fun x => h6 ⟨ha1, x⟩
  have hpar : parameter s (st.a + 1) = E := by
    unfold parameter
    rw [if_neg (by omega)]
    by_cases h8 : one8 (bt s (st.a + 1)) = true
    · rw [if_pos h8]
      have hn : LX.starts (bt s (st.a + 1)) = false := by
        have := (one8_iff s _).1 h8
        unfold LX.starts
        exact decide_eq_false (by omega)
      rw [if_pos hn] at hr
      exact congrArg Prod.fst hr
    · rw [if_neg h8, if_neg hnd]
      rcases hsp with e | e | e
      · rw [if_pos e]
        rw [if_neg (by rw [e]; simp)] at hr
        rw [LX.nameEnd_go ha1 (by rw [e]; rfl)]
        exact congrArg Prod.fst hr
      · exact absurd e hnd
      · exfalso
        have := (special_iff s _).1 e
        exact h8 ((one8_iff s _).2 (by omega))
  have hE := LX.con_two h36 hr0
  rw [hpar, if_pos (by omega)]
  by_cases h7 : tooLong s (st.a + 1) E = true
  · rw [if_pos h7]; exact (by decide : ¬ (3 : Int) = 7)
  · rw [if_neg h7]; exact ⟨rfl, add_dep _ _ _⟩
/-- A step at a construct that the lexer closes. -/
theorem con_step (hT : Trk s f) {c : Ctx} {st : St} {E G : Nat} (hc : c.s = s) (hl : s.length ≤ 16384) (ha : st.a < s.length) (hb : LX.begins s st.a = true) (hq : bt s st.a = 39 ∨ bt s st.a = 34 → c.pl = 0) (hG : 3 * (s.length - st.a) + 1 ≤ G) (hr : LX.con G s st.a (qOf c) (dOf c) = (E, 0)) :
    Safe (next (nest f) c st) fun y => y.a = E ∧ y.dep = st.dep := by
  have hr0 := hr
  obtain ⟨G, rfl⟩ : ∃ k, G = k + 1 := ⟨G - 1, by omega⟩
  rw [LX.con] at hr
  unfold next
  rw [hc]
  by_cases h1 : bt s st.a = 92
  · rw [if_pos h1] at hr ⊢
    by_cases h2 : st.a + 1 = s.length
    · rw [if_pos h2] at hr; simp at hr
    rw [if_neg h2] at hr
    have hE := congrArg Prod.fst hr
    dsimp only at hE
    unfold backslash
    rw [hc, if_neg h2]
    by_cases h3 : bt s (st.a + 1) = 10
    · rw [if_pos h3]; exact ⟨hE, rfl⟩
    rw [if_neg h3]
    by_cases h4 : c.pl = 0
    · rw [if_pos h4]; exact ⟨hE, add_dep _ _ _⟩
    rw [if_neg h4]
    by_cases h5 : escapes c.pl (bt s (st.a + 1)) c.op = true
    · rw [if_pos h5]; exact ⟨hE, rfl⟩
    rw [if_neg h5]
    by_cases h6 : c.pl = 2 ∧ c.op = false ∧ (bt s (st.a + 1) = 40 ∨ bt s (st.a + 1) = 41)
    · rw [if_pos h6]; exact (by decide : ¬ (6 : Int) = 7)
    · rw [if_neg h6]; exact ⟨hE, rfl⟩
  rw [if_neg h1] at hr ⊢
  by_cases h36 : bt s st.a = 36
  · rw [if_pos h36]; exact dollar_safe hT hc hl ha h36 hb hG hr0
  rw [if_neg h36]
  by_cases h96 : bt s st.a = 96
  · rw [if_pos h96]
    have hcl : cls s st.a = .ok E := by
      unfold cls
      rw [LX.close_of hl ha hb hG (fun x => by omega) hr0]
      rfl
    unfold backquoted
    rw [hc, hcl]
    dsimp only
    split
    · exact ⟨rfl, add_dep _ _ _⟩
    · split
      · exact ⟨rfl, add_dep _ _ _⟩
      · exact (by decide : ¬ (6 : Int) = 7)
  rw [if_neg h96]
  have hqq : bt s st.a = 39 ∨ bt s st.a = 34 := by
    unfold LX.begins at hb
    rw [if_neg h36] at hb
    have := of_decide_eq_true hb
    omega
  have hp := hq hqq
  rw [if_pos hp]
  unfold unquoted
  rw [hc]
  by_cases h39 : bt s st.a = 39
  · rw [if_pos h39]
    have hcl : cls s st.a = .ok E := by
      unfold cls
      rw [LX.close_of hl ha hb hG (fun x => by omega) hr0]
      rfl
    rw [hcl]
    exact ⟨rfl, add_dep _ _ _⟩
  · have h34 : bt s st.a = 34 := by omega
    rw [if_neg h39, if_pos h34] at hr ⊢
    by_cases h2 : c.lv = 32
    · rw [if_pos h2]; exact (by decide : ¬ (5 : Int) = 7)
    rw [if_neg h2]
    have hn := safe_nest (hT.dbl G st.a E ⟨s, 1, false, c.lv + 1, st.a⟩ ⟨st.a + 1, 0, [], []⟩ rfl rfl rfl (by dsimp only; omega) hr)
    cases hnr : nest f ⟨s, 1, false, c.lv + 1, st.a⟩ (st.a + 1) with
    | error x => rw [hnr] at hn; exact hn
    | ok r => rw [hnr] at hn; exact ⟨hn, add_dep _ _ _⟩
theorem depth_other {c : Ctx} {st : St} (h : ¬ bt c.s st.a = 40) (h' : ¬ bt c.s st.a = 41) : depth c st = st.dep := by
  unfold depth
  rw [if_neg h, if_neg h']
  split <;> rfl
/-- A step at a byte over which the lexer passes. -/
theorem plain_step {N : Nest} {c : Ctx} {st : St} (hc : c.s = s) (ha : st.a < s.length) (h : LX.begins s st.a = false ∨ ((bt s st.a = 39 ∨ bt s st.a = 34) ∧ ¬ c.pl = 0)) : Safe (next N c st) fun y => y.a = st.a + 1 ∧ y.dep = depth c st := by
  have n92 : ¬ bt s st.a = 92 := fun x => by
    rcases h with h | h
    · unfold LX.begins at h; rw [if_neg (by omega)] at h; exact absurd (.inl x) (of_decide_eq_false h)
    · omega
  have n96 : ¬ bt s st.a = 96 := fun x => by
    rcases h with h | h
    · unfold LX.begins at h; rw [if_neg (by omega)] at h; exact absurd (.inr (.inr (.inr x))) (of_decide_eq_false h)
    · omega
  unfold next
  rw [hc, if_neg n92]
  by_cases h36 : bt s st.a = 36
  · rw [if_pos h36]
    have hb : LX.begins s st.a = false := by
      rcases h with h | h
      · exact h
      · omega
    have hdep : depth c st = st.dep := depth_other (by rw [hc]; omega) (by rw [hc]; omega)
    unfold LX.begins at hb
    rw [if_pos h36] at hb
    unfold LX.dollar at hb
    have hno : ¬ (st.a + 1 < s.length ∧ (bt s (st.a + 1) = 40 ∨ bt s (st.a + 1) = 123 ∨ LX.digit (bt s (st.a + 1)) = true ∨ LX.starts (bt s (st.a + 1)) = true ∨ one8 (bt s (st.a + 1)) = true)) := by
      rintro ⟨hlt, hx⟩
      rw [decide_eq_true hlt, Bool.true_and, Bool.or_eq_false_iff, Bool.or_eq_false_iff] at hb
      obtain ⟨⟨b1, b2⟩, b3⟩ := hb
      rcases hx with e | e | e | e | e
      · rw [(special_iff s _).2 (by omega)] at b3; cases b3
      · rw [(special_iff s _).2 (by omega)] at b3; cases b3
      · rw [e] at b2; cases b2
      · rw [e] at b1; cases b1
      · have := (one8_iff s _).1 e
        by_cases h48 : bt s (st.a + 1) = 48
        · rw [h48] at b2; revert b2; decide
        · rw [(special_iff s _).2 (by omega)] at b3; cases b3
    have has : ∀ {x : UInt8} {l : Str}, Lib.hasPrefix (s.drop (st.a + 1)) (x :: l) = true → st.a + 1 < s.length ∧ bt s (st.a + 1) = (x.toNat : Int) := fun {x l} hx => by
      cases hd : s.drop (st.a + 1) with
      | nil => rw [hd] at hx; simp [Lib.hasPrefix] at hx
      | cons y r =>
        have := LX.drop_head hd
        rw [hd] at hx
        simp [Lib.hasPrefix] at hx
        exact ⟨this.1, by rw [this.2.1, hx.1]⟩
    unfold dollar
    rw [hc, if_neg (fun x => hno ⟨(has x).1, .inl (has (x := 40) x).2⟩), if_neg (fun x => hno ⟨(has x).1, .inl (has (x := 40) x).2⟩), if_neg (fun x => hno ⟨(has x).1, .inr (.inl (has (x := 123) x).2)⟩), if_neg (fun x => hno ⟨x.1, .inr (.inr (.inl x.2))⟩)]
    have hpar : parameter s (st.a + 1) = st.a + 1 := by
      unfold parameter
      by_cases he : st.a + 1 = s.length
      · rw [if_pos he]
      · have hlt : st.a + 1 < s.length := by omega
        rw [if_neg he, if_neg (fun x => hno ⟨hlt, .inr (.inr (.inr (.inr x)))⟩), if_neg (fun x => hno ⟨hlt, .inr (.inr (.inl x))⟩), if_neg (fun x => hno ⟨hlt, .inr (.inr (.inr (.inl x)))⟩)]
    rw [hpar, if_neg (by omega)]
    split
    · exact (by decide : ¬ (6 : Int) = 7)
    · exact ⟨rfl, hdep.symm⟩
  rw [if_neg h36, if_neg n96]
  by_cases hp : c.pl = 0
  · rw [if_pos hp]
    have hb : LX.begins s st.a = false := by
      rcases h with h | h
      · exact h
      · exact absurd hp h.2
    have hdep : depth c st = st.dep := by unfold depth; rw [if_neg (by rw [hp]; simp)]
    unfold LX.begins at hb
    rw [if_neg h36] at hb
    have hb' := of_decide_eq_false hb
    unfold unquoted
    rw [hc, if_neg (fun x => hb' (.inr (.inl x))), if_neg (fun x => hb' (.inr (.inr (.inl x))))]
    split
    · split
      · exact ⟨rfl, hdep.symm⟩
      · exact (by decide : ¬ (6 : Int) = 7)
    · split
      · exact ⟨rfl, (add_dep _ _ _).trans hdep.symm⟩
      · exact ⟨rfl, hdep.symm⟩
  · rw [if_neg hp]
    split
    · exact (by decide : ¬ (6 : Int) = 7)
    · exact ⟨rfl, rfl⟩
theorem safe_run {c : Ctx} {st : St} {P : St → Prop} (he : ended c st = .ok false) {Q : St → Prop} (h : Safe (next (nest f) c st) Q) (h2 : ∀ y, Q y → Safe (run f c y) P) : Safe (run (f + 1) c st) P := by
  rw [run_succ, he]
  dsimp only
  cases hn : next (nest f) c st with
  | error x => rw [hn] at h; exact h
  | ok y => rw [hn] at h; exact h2 y h
theorem ins_step (hT : Trk s f) {F k : Nat} {c : Ctx} {st : St} {d : Bool} (hc : c.s = s) (hl : s.length ≤ 16384) (ha : st.a < s.length) (hp : ¬ c.pl = 0) (hd : dOf c = d) (hF : 3 * (s.length - st.a) + 2 ≤ F) (hr : LX.ins F s st.a true d = (k, 0)) : Safe (next (nest f) c st) fun y => y.a = k ∧ y.dep = depth c st := by
  obtain ⟨G, rfl⟩ : ∃ k, F = k + 1 := ⟨F - 1, by omega⟩
  rw [LX.ins] at hr
  have hq : qOf c = true := decide_eq_true hp
  by_cases h1 : bt s st.a = 39 ∨ bt s st.a = 34 ∨ LX.begins s st.a = false
  · rw [if_pos h1] at hr
    have hk := congrArg Prod.fst hr
    dsimp only at hk
    subst hk
    refine plain_step hc ha ?_
    rcases h1 with e | e | e
    · exact .inr ⟨.inl e, hp⟩
    · exact .inr ⟨.inr e, hp⟩
    · exact .inl e
  · rw [if_neg h1] at hr
    have hb : LX.begins s st.a = true := by
      cases hb : LX.begins s st.a
      · exact absurd (.inr (.inr hb)) h1
      · rfl
    have hdep : depth c st = st.dep := depth_other (by rw [hc]; intro e; unfold LX.begins at hb; rw [if_neg (by omega)] at hb; have := of_decide_eq_true hb; omega) (by rw [hc]; intro e; unfold LX.begins at hb; rw [if_neg (by omega)] at hb; have := of_decide_eq_true hb; omega)
    rw [hdep]
    exact con_step hT (G := G) hc hl ha hb (fun e => absurd (e.elim .inl (fun x => .inr (.inl x))) h1) (by omega) (by rw [hq, hd]; exact hr)
theorem trk_all (hl : s.length ≤ 16384) : ∀ f, Trk s f
  | 0 => ⟨fun _ _ _ c st _ _ _ _ _ => (by decide : ¬ (0 : Int) = 7), fun _ _ _ c st _ _ _ _ _ => (by decide : ¬ (0 : Int) = 7), fun _ _ c st _ _ _ => (by decide : ¬ (0 : Int) = 7)⟩
  | f + 1 => by
    have hT := trk_all hl f
    refine ⟨fun F a E c st hc hp ho hF hr => ?_, fun F a E c st hc hp ho hF hr => ?_, fun a E c st hc ho hB => ?_⟩
    · obtain ⟨G, rfl⟩ : ∃ k, F = k + 1 := ⟨F - 1, by omega⟩
      rw [LX.dbl] at hr
      by_cases hi : st.a < s.length
      · rw [if_pos hi] at hr
        have he : ended c st = .ok (decide (bt s st.a = 34)) := by
          unfold ended
          rw [hc, if_neg (by omega), if_neg (by rw [ho]; simp), if_pos hp]
        by_cases h1 : bt s st.a = 34
        · rw [if_pos h1] at hr
          rw [decide_eq_true h1] at he
          rw [run_succ, he]
          show (flush st).a + 1 = E
          rw [flush_a']
          exact congrArg Prod.fst hr
        · rw [if_neg h1] at hr
          rw [decide_eq_false h1] at he
          obtain ⟨h4, h5⟩ := LX.thn_ok hr
          have hg := ((LX.good_all G).ins s st.a true true hi).2.1 h4
          refine safe_run he (ins_step hT (F := G) (k := (LX.ins G s st.a true true).1) hc hl hi (by omega) (decide_eq_true hp) (by omega) (by rw [← h4])) (fun y hy => ?_)
          rw [← hy.1] at h5 hg
          exact hT.dbl G a E c y hc hp ho (by omega) h5
      · rw [if_neg hi] at hr; simp at hr
    · obtain ⟨G, rfl⟩ : ∃ k, F = k + 1 := ⟨F - 1, by omega⟩
      rw [LX.ari] at hr
      by_cases hi : st.a < s.length
      · rw [if_pos hi] at hr
        have hd : dOf c = false := decide_eq_false (by omega)
        have hst : ended c st = .ok false → ∀ m, depth c st = m → LX.thn (LX.ins G s st.a true false) (fun k => LX.ari G s a k m) = (E, 0) → Safe (run (f + 1) c st) fun y => y.a + 2 = E := by
          intro he m hm hr
          obtain ⟨h4, h5⟩ := LX.thn_ok hr
          have hg := ((LX.good_all G).ins s st.a true false hi).2.1 h4
          refine safe_run he (ins_step hT (F := G) (k := (LX.ins G s st.a true false).1) hc hl hi (by omega) hd (by omega) (by rw [← h4])) (fun y hy => ?_)
          rw [← hy.1] at h5 hg
          rw [← hm, ← hy.2] at h5
          exact hT.ari G a E c y hc hp ho (by omega) h5
        have hen : ended c st = if bt s st.a = 41 ∧ st.dep = 0 then (if st.a + 1 = s.length then .error (c.opn, 7) else if bt s (st.a + 1) = 41 then .ok true else .error (st.a, 6)) else .ok false := by
          unfold ended
          rw [hc, if_neg (by omega), if_neg (by rw [ho]; simp), if_neg (by omega)]
          by_cases hx : bt s st.a = 41 ∧ st.dep = 0
          · rw [if_pos ⟨hp, hx⟩, if_pos hx]
          · rw [if_neg (fun e => hx e.2), if_neg hx]
        have hdp : depth c st = if bt s st.a = 40 then st.dep + 1 else if bt s st.a = 41 then st.dep - 1 else st.dep := by
          unfold depth
          rw [hc, if_pos ⟨hp, ho⟩]
        by_cases h40 : bt s st.a = 40
        · rw [if_pos h40] at hr hdp
          rw [if_neg (by omega)] at hen
          exact hst hen _ hdp hr
        rw [if_neg h40] at hr hdp
        by_cases h41 : bt s st.a = 41 ∧ 0 < st.dep
        · rw [if_pos h41] at hr
          rw [if_pos h41.1] at hdp
          rw [if_neg (by omega)] at hen
          exact hst hen _ hdp hr
        rw [if_neg h41] at hr
        by_cases h41' : bt s st.a = 41
        · rw [if_pos h41'] at hr
          rw [if_pos ⟨h41', by omega⟩] at hen
          by_cases h2 : st.a + 1 = s.length
          · rw [if_pos h2] at hr; simp at hr
          rw [if_neg h2] at hr hen
          by_cases h3 : bt s (st.a + 1) = 41
          · rw [if_pos h3] at hr hen
            rw [run_succ, hen]
            show (flush st).a + 2 = E
            rw [flush_a']
            exact congrArg Prod.fst hr
          · rw [if_neg h3] at hr; simp at hr
        · rw [if_neg h41'] at hr hdp
          rw [if_neg (fun e => h41' e.1)] at hen
          exact hst hen _ hdp hr
      · rw [if_neg hi] at hr; simp at hr
    · have hi := hB.lt
      have he : ended c st = .ok (decide (bt s st.a = 125)) := by
        unfold ended
        rw [hc, if_neg (by omega), if_pos ho]
      by_cases h1 : bt s st.a = 125
      · rw [decide_eq_true h1] at he
        rw [run_succ, he]
        show (flush st).a + 1 = E
        rw [flush_a']
        exact (hB.close h1).symm
      · rw [decide_eq_false h1] at he
        by_cases h2 : ((bt s st.a = 34 ∨ bt s st.a = 39) ∧ qOf c = true) ∨ LX.begins s st.a = false
        · refine safe_run he (plain_step hc hi ?_) (fun y hy => hT.brc a E c y hc ho (by rw [hy.1]; exact hB.over h1 h2))
          rcases h2 with ⟨e, e2⟩ | e
          · exact .inr ⟨e.symm, of_decide_eq_true e2⟩
          · exact .inl e
        · obtain ⟨G, e, hG, hcn, hB2⟩ := hB.con h1 h2
          have hb : LX.begins s st.a = true := by
            cases hb : LX.begins s st.a
            · exact absurd (.inr hb) h2
            · rfl
          refine safe_run he (con_step hT hc hl hi hb (fun x => ?_) hG hcn) (fun y hy => hT.brc a E c y hc ho (by rw [hy.1]; exact hB2))
          by_cases hp : c.pl = 0
          · exact hp
          · exact absurd (.inl ⟨x.symm, decide_eq_true hp⟩) h2
theorem word_safe (hl : s.length ≤ 16384) : ∀ (f F : Nat) (c : Ctx) (st : St), c.s = s → c.pl = 0 → c.op = false → ¬ 0 ≤ c.opn → st.a ≤ s.length → LX.word F s st.a = (s.length, 0) → Safe (run f c st) fun _ => True
  | 0, F, c, st, _, _, _, _, _, _ => (by decide : ¬ (0 : Int) = 7)
  | f + 1, F, c, st, hc, hp, ho, hn, ha, hr => by
    rcases Nat.eq_or_lt_of_le ha with he | hlt
    · rw [run_succ]
      unfold ended
      rw [hc, if_pos he, if_neg hn]
      exact trivial
    · have he := ended_bare (st := st) hp ho (by rw [hc]; exact hlt)
      cases F with
      | zero => rw [LX.word] at hr; have := congrArg Prod.fst hr; dsimp only at this; omega
      | succ F =>
        rw [LX.word] at hr
        by_cases hd : st.a < s.length ∧ LX.divides (bt s st.a) = false
        · rw [if_pos hd] at hr
          by_cases hb : LX.begins s st.a = true
          · rw [if_pos hb] at hr
            obtain ⟨h4, h5⟩ := LX.thn_ok hr
            have hg := LX.construct_good (q := false) (d := false) hd.1 hb
            have hq : qOf c = false := decide_eq_false (fun x => x hp)
            have hdd : dOf c = false := decide_eq_false (by omega)
            refine safe_run he (con_step (trk_all hl f) (G := 3 * s.length + 3) (E := (LX.construct s st.a false false).1) hc hl hlt hb (fun _ => hp) (by omega) (by rw [hq, hdd, ← h4]; rfl)) (fun y hy => ?_)
            rw [← hy.1] at h5
            exact word_safe hl f F c y hc hp ho hn (by rw [hy.1]; exact hg.1) h5
          · rw [if_neg hb] at hr
            refine safe_run he (plain_step hc hlt (.inl (by simpa using hb))) (fun y hy => ?_)
            rw [← hy.1] at hr
            exact word_safe hl f F c y hc hp ho hn (by omega) hr
        · rw [if_neg hd] at hr
          have := congrArg Prod.fst hr
          dsimp only at this
          omega
end
/-- What Parse gives at the text of a token that is a word or a number. -/
theorem token_safe {s : Str} {a : Nat} {t : LX.Tok} (ha : a ≤ s.length) (h : LX.next s a = (t, 0)) (hk : t.kind = 1 ∨ t.kind = 4) : Safe (parse t.text 0) fun _ => True := by
  unfold LX.next at h
  by_cases hl : 16384 < s.length
  · rw [if_pos hl] at h; simp at h
  rw [if_neg hl] at h
  obtain ⟨p, hp⟩ : ∃ p, LX.skipTo s a = p := ⟨_, rfl⟩
  have hple := LX.skipTo_le ha
  rw [hp] at h hple
  unfold LX.nextAt at h
  by_cases h1 : p = s.length
  · rw [if_pos h1] at h
    have := congrArg Prod.fst h
    dsimp only at this
    rw [← this] at hk
    rcases hk with e | e <;> cases e
  rw [if_neg h1] at h
  by_cases h2 : bt s p = 10
  · rw [if_pos h2] at h
    have := congrArg Prod.fst h
    dsimp only at this
    rw [← this] at hk
    rcases hk with e | e <;> cases e
  rw [if_neg h2] at h
  by_cases h3 : 0 < LX.opLen s p
  · rw [if_pos h3] at h
    have := congrArg Prod.fst h
    dsimp only at this
    rw [← this] at hk
    rcases hk with e | e <;> cases e
  rw [if_neg h3] at h
  unfold LX.nextW at h
  by_cases h4 : (LX.wordEnd s p).2 = 0
  · rw [if_pos h4] at h
    have ht := congrArg Prod.fst h
    dsimp only at ht
    have htx : t.text = cut s p (LX.wordEnd s p).1 := by rw [← ht]; rfl
    have hg := LX.word_good (s.length + 1) s p hple
    have hge := hg.2.1 h4
    obtain ⟨hP, hlen⟩ := LX.piece_cut (s := s) (p := p) (e := (LX.wordEnd s p).1) hge hg.1
    have hw : LX.word (s.length + 1) (cut s p (LX.wordEnd s p).1) 0 = ((cut s p (LX.wordEnd s p).1).length, 0) := by
      refine hP.word _ 0 (Nat.zero_le _) ?_
      rw [hlen]
      show LX.word (s.length + 1) s p = _
      have : LX.word (s.length + 1) s p = ((LX.wordEnd s p).1, 0) := by rw [← h4]; rfl
      rw [this]
      have : p ≤ (LX.wordEnd s p).1 := hge
      rw [show p + ((LX.wordEnd s p).1 - p) = (LX.wordEnd s p).1 by omega]
    rw [htx]
    have hf := hP.fit
    unfold parse
    rw [if_neg (by omega)]
    have := word_safe (s := cut s p (LX.wordEnd s p).1) (by omega) ((cut s p (LX.wordEnd s p).1).length + 1) _ ⟨cut s p (LX.wordEnd s p).1, 0, false, 1, -1⟩ ⟨0, 0, [], []⟩ rfl rfl rfl (show ¬ (0 : Int) ≤ -1 by decide) (Nat.zero_le _) hw
    cases hr : run ((cut s p (LX.wordEnd s p).1).length + 1) ⟨cut s p (LX.wordEnd s p).1, 0, false, 1, -1⟩ ⟨0, 0, [], []⟩ with
    | error x => rw [hr] at this; exact this
    | ok y => exact trivial
  · rw [if_neg h4] at h
    have := congrArg Prod.snd h
    exact absurd this h4
end WP
end Go.Proofs.Ytijibooneochjaa
