/- Several texts in one: P08e P08f P08g P08h. -/
import Derived.Test.YtmgomklpjjkehaaGreatP08b
import Derived.Test.YtmgomklpjjkehaaGreatYP
namespace Go.Proofs.YtmgomklpjjkehaaGreat
open K
namespace LX
def sh (n : Nat) (r : Nat × Int) : Nat × Int := (n + r.1, r.2)
theorem sh_ite {n : Nat} {c : Prop} [Decidable c] (x y : Nat × Int) : sh n (if c then x else y) = if c then sh n x else sh n y := by
  by_cases h : c
  · rw [if_pos h, if_pos h]
  · rw [if_neg h, if_neg h]
theorem sh_mk (n k : Nat) (e : Int) : sh n (k, e) = (n + k, e) := rfl
theorem thn_sh {n : Nat} {r : Nat × Int} {k k' : Nat → Nat × Int} (h : ∀ j, k' (n + j) = sh n (k j)) : thn (sh n r) k' = sh n (thn r k) := by
  unfold thn
  by_cases e : r.2 = 0
  · rw [if_pos e, if_pos (show (sh n r).2 = 0 from e)]; exact h _
  · rw [if_neg e, if_neg (show ¬ (sh n r).2 = 0 from e)]
section
variable (A s : Str)
theorem bt_sh (i : Nat) : bt (A ++ s) (A.length + i) = bt s i := by
  unfold bt
  rw [List.getD_eq_getElem?_getD, List.getD_eq_getElem?_getD, List.getElem?_append_right (by omega), Nat.add_sub_cancel_left]
theorem drop_sh (i : Nat) : (A ++ s).drop (A.length + i) = s.drop i := by
  rw [List.drop_append, List.drop_eq_nil_of_le (by omega)]
  simp
theorem find_sh (i : Nat) (c : UInt8) : find (A ++ s) (A.length + i) c = find s i c := by unfold find; rw [drop_sh]
theorem joins_sh (i : Nat) : joins (A ++ s) (A.length + i) = joins s i := by unfold joins; rw [drop_sh]
theorem comment_sh (i : Nat) : comment (A ++ s) (A.length + i) = A.length + comment s i := by
  unfold comment
  rw [find_sh]
  cases find s i 10 with
  | none => simp
  | some n => simp; omega
theorem nameEnd_sh (i : Nat) : nameEnd (A ++ s) (A.length + i) = A.length + nameEnd s i := by
  unfold nameEnd
  rw [drop_sh, Nat.add_assoc]
theorem dollar_sh (i : Nat) : dollar (A ++ s) (A.length + i) = dollar s i := by
  unfold dollar
  rw [bt_sh, List.length_append]
  simp only [Nat.add_lt_add_iff_left]
theorem begins_sh (i : Nat) : begins (A ++ s) (A.length + i) = begins s i := by
  unfold begins
  rw [bt_sh, Nat.add_assoc, dollar_sh]
theorem bkq_sh : ∀ (f a i : Nat), bkq f (A ++ s) (A.length + a) (A.length + i) = sh A.length (bkq f s a i)
  | 0, a, i => by rw [bkq, bkq]; rfl
  | f + 1, a, i => by
    rw [bkq, bkq]
    simp only [bt_sh, List.length_append, Nat.add_assoc, Nat.add_lt_add_iff_left, Nat.add_left_cancel_iff, sh_ite, sh_mk, bkq_sh f]
structure AllSh (f : Nat) : Prop where
  con : ∀ (a : Nat) (q d : Bool), con f (A ++ s) (A.length + a) q d = sh A.length (con f s a q d)
  ins : ∀ (a : Nat) (q d : Bool), ins f (A ++ s) (A.length + a) q d = sh A.length (ins f s a q d)
  dbl : ∀ (a i : Nat), dbl f (A ++ s) (A.length + a) (A.length + i) = sh A.length (dbl f s a i)
  ari : ∀ (a i n : Nat), ari f (A ++ s) (A.length + a) (A.length + i) n = sh A.length (ari f s a i n)
  cmd : ∀ (a i n : Nat) (b : Bool), cmd f (A ++ s) (A.length + a) (A.length + i) n b = sh A.length (cmd f s a i n b)
  brc : ∀ (a i : Nat) (q d : Bool), brc f (A ++ s) (A.length + a) (A.length + i) q d = sh A.length (brc f s a i q d)
theorem all_sh : ∀ f, AllSh A s f
  | 0 => ⟨fun a q d => by rw [con, con]; rfl, fun a q d => by rw [ins, ins]; rfl, fun a i => by rw [dbl, dbl]; rfl, fun a i n => by rw [ari, ari]; rfl, fun a i n b => by rw [cmd, cmd]; rfl, fun a i q d => by rw [brc, brc]; rfl⟩
  | f + 1 => by
    have ih := all_sh f
    refine ⟨fun a q d => ?_, fun a q d => ?_, fun a i => ?_, fun a i n => ?_, fun a i n b => ?_, fun a i q d => ?_⟩
    · rw [con, con]
      simp only [bt_sh, drop_sh, find_sh, List.length_append, Nat.add_assoc, Nat.add_left_cancel_iff, sh_ite, sh_mk, bkq_sh, nameEnd_sh, ih.dbl, ih.ari, ih.cmd, ih.brc]
      cases find s (a + 1) 39 with
      | none => rfl
      | some n => simp only [sh_mk]
    · rw [ins, ins]
      simp only [bt_sh, begins_sh, Nat.add_assoc, sh_ite, sh_mk, ih.con]
    · rw [dbl, dbl]
      simp only [bt_sh, List.length_append, Nat.add_assoc, Nat.add_lt_add_iff_left, sh_ite, sh_mk, ih.ins]
      rw [thn_sh (k := fun k => LX.dbl f s a k) fun j => ih.dbl a j]
    · rw [ari, ari]
      simp only [bt_sh, List.length_append, Nat.add_assoc, Nat.add_lt_add_iff_left, Nat.add_left_cancel_iff, sh_ite, sh_mk, ih.ins]
      rw [thn_sh (k := fun k => LX.ari f s a k (n + 1)) fun j => ih.ari a j _, thn_sh (k := fun k => LX.ari f s a k (n - 1)) fun j => ih.ari a j _, thn_sh (k := fun k => LX.ari f s a k n) fun j => ih.ari a j _]
    · rw [cmd, cmd]
      simp only [bt_sh, joins_sh, begins_sh, comment_sh, List.length_append, Nat.add_assoc, Nat.add_lt_add_iff_left, sh_ite, sh_mk, ih.con, ih.cmd]
      rw [thn_sh (k := fun k => LX.cmd f s a k n false) fun j => ih.cmd a j _ _]
    · rw [brc, brc]
      simp only [bt_sh, begins_sh, List.length_append, Nat.add_assoc, Nat.add_lt_add_iff_left, sh_ite, sh_mk, ih.con, ih.brc]
      rw [thn_sh (k := fun k => LX.brc f s a k q d) fun j => ih.brc a j _ _]
end
theorem dbl_far : ∀ (f : Nat) (s : Str) (a i e : Nat), dbl f s a i = (e, 0) → i < e
  | 0, s, a, i, e, h => by rw [dbl] at h; simp at h
  | f + 1, s, a, i, e, h => by
    rw [dbl] at h
    by_cases hi : i < s.length
    · rw [if_pos hi] at h
      by_cases h1 : bt s i = 34
      · rw [if_pos h1] at h; have := congrArg Prod.fst h; dsimp only at this; omega
      rw [if_neg h1] at h
      obtain ⟨h2, h3⟩ := thn_ok h
      have := dbl_far f s a _ e h3
      have := ((good_all f).ins s i true true hi).2.1 h2
      omega
    · rw [if_neg hi] at h; simp at h
theorem ari_far : ∀ (f : Nat) (s : Str) (a i n e : Nat), ari f s a i n = (e, 0) → i < e
  | 0, s, a, i, n, e, h => by rw [ari] at h; simp at h
  | f + 1, s, a, i, n, e, h => by
    rw [ari] at h
    by_cases hi : i < s.length
    · rw [if_pos hi] at h
      have hg := ((good_all f).ins s i true false hi).2.1
      by_cases h1 : bt s i = 40
      · rw [if_pos h1] at h
        obtain ⟨h2, h3⟩ := thn_ok h
        have := ari_far f s a _ _ e h3
        have := hg h2
        omega
      rw [if_neg h1] at h
      by_cases h4 : bt s i = 41 ∧ 0 < n
      · rw [if_pos h4] at h
        obtain ⟨h2, h3⟩ := thn_ok h
        have := ari_far f s a _ _ e h3
        have := hg h2
        omega
      rw [if_neg h4] at h
      by_cases h5 : bt s i = 41
      · rw [if_pos h5] at h
        split at h
        · simp at h
        split at h
        · have := congrArg Prod.fst h; dsimp only at this; omega
        · simp at h
      rw [if_neg h5] at h
      obtain ⟨h2, h3⟩ := thn_ok h
      have := ari_far f s a _ _ e h3
      have := hg h2
      omega
    · rw [if_neg hi] at h; simp at h
theorem brc_far : ∀ (f : Nat) (s : Str) (a i : Nat) (q d : Bool) (e : Nat), brc f s a i q d = (e, 0) → i < e
  | 0, s, a, i, q, d, e, h => by rw [brc] at h; simp at h
  | f + 1, s, a, i, q, d, e, h => by
    rw [brc] at h
    by_cases hi : i < s.length
    · rw [if_pos hi] at h
      by_cases h1 : bt s i = 125
      · rw [if_pos h1] at h; have := congrArg Prod.fst h; dsimp only at this; omega
      rw [if_neg h1] at h
      by_cases h2 : bt s i = 34 ∧ d = true
      · rw [if_pos h2] at h; simp at h
      rw [if_neg h2] at h
      by_cases h3 : ((bt s i = 34 ∨ bt s i = 39) ∧ q = true) ∨ begins s i = false
      · rw [if_pos h3] at h; have := brc_far f s a _ _ _ e h; omega
      rw [if_neg h3] at h
      obtain ⟨h4, h5⟩ := thn_ok h
      have := brc_far f s a _ _ _ e h5
      have hb : begins s i = true := by
        cases hb : begins s i
        · exact absurd (.inr hb) h3
        · rfl
      have := ((good_all f).con s i q d hi hb).2.1 h4
      omega
    · rw [if_neg hi] at h; simp at h
section
variable (u r r' : Str)
theorem bt_tl {i : Nat} (h : i < u.length) : bt (u ++ r) i = bt (u ++ r') i := by
  unfold bt
  rw [List.getD_eq_getElem?_getD, List.getD_eq_getElem?_getD, List.getElem?_append_left h, List.getElem?_append_left h]
theorem drop_tl {i : Nat} (h : i ≤ u.length) (r : Str) : (u ++ r).drop i = u.drop i ++ r := by
  rw [List.drop_append, Nat.sub_eq_zero_of_le h, List.drop_zero]
theorem find_tl {i m : Nat} {c : UInt8} (h : find (u ++ r) i c = some m) (hm : i + m < u.length) : find (u ++ r') i c = some m := by
  unfold find at h ⊢
  rw [drop_tl u (by omega)] at h ⊢
  rw [List.findIdx?_append] at h ⊢
  cases hf : (u.drop i).findIdx? (· == c) with
  | some k => rw [hf] at h; exact h
  | none =>
    rw [hf] at h
    simp only [Option.none_or, Option.map_eq_some_iff] at h
    obtain ⟨k, -, hk⟩ := h
    rw [List.length_drop] at hk
    omega
theorem joins_tl {i : Nat} (h : i + 1 < u.length) : joins (u ++ r) i = joins (u ++ r') i := by
  cases h1 : joins (u ++ r) i with
  | true =>
    obtain ⟨a, b, _⟩ := joins_iff.1 h1
    exact (joins_iff.2 ⟨by rw [← bt_tl u r r' (by omega)]; exact a, by rw [← bt_tl u r r' h]; exact b, by simp; omega⟩).symm
  | false =>
    cases h2 : joins (u ++ r') i with
    | false => rfl
    | true =>
      obtain ⟨a, b, _⟩ := joins_iff.1 h2
      have := joins_iff.2 ⟨by rw [bt_tl u r r' (show i < u.length by omega)]; exact a, by rw [bt_tl u r r' h]; exact b, (by simp; omega : i + 2 ≤ (u ++ r).length)⟩
      rw [h1] at this
      exact absurd this (by simp)
theorem begins_tl {i : Nat} (h : i + 1 < u.length) : begins (u ++ r) i = begins (u ++ r') i := by
  unfold begins dollar
  rw [bt_tl u r r' (show i < u.length by omega), bt_tl u r r' h]
  simp only [List.length_append, show i + 1 < u.length + r.length from by omega, show i + 1 < u.length + r'.length from by omega]
theorem nameEnd_tl {i k : Nat} (hi : i ≤ u.length) (h : nameEnd (u ++ r) i = k) (hk : k < u.length) : nameEnd (u ++ r') i = k := by
  unfold nameEnd at h ⊢
  rw [drop_tl u hi] at h ⊢
  rw [List.takeWhile_append] at h ⊢
  split at h
  · rename_i hl
    simp only [List.length_append, List.length_drop] at h hl
    omega
  · rename_i hl
    rw [if_neg hl]
    exact h
theorem pref_tl {i : Nat} (h : i + 3 ≤ u.length) : Lib.hasPrefix ((u ++ r).drop i) [36, 40, 40] = Lib.hasPrefix ((u ++ r').drop i) [36, 40, 40] := by
  rw [drop_tl u (by omega), drop_tl u (by omega)]
  have hl : 3 ≤ (u.drop i).length := by rw [List.length_drop]; omega
  match hd : u.drop i, hl with
  | x :: y :: z :: w, _ => simp [Lib.hasPrefix, List.isPrefixOf]
  | [], h => simp at h
  | [_], h => simp at h
  | [_, _], h => simp at h
theorem comment_tl {i k : Nat} (h : comment (u ++ r) i = k) (hk : k < u.length) : comment (u ++ r') i = k := by
  unfold comment at h ⊢
  cases hf : find (u ++ r) i 10 with
  | none => rw [hf] at h; simp at h; omega
  | some m =>
    rw [hf] at h
    dsimp only at h
    rw [find_tl u r r' hf (by omega)]
    exact h
theorem bkq_tl : ∀ (f g a b i k : Nat), k - i ≤ g → bkq f (u ++ r) a i = (k, 0) → k ≤ u.length → bkq g (u ++ r') b i = (k, 0)
  | 0, g, a, b, i, k, _, h, _ => by rw [bkq] at h; simp at h
  | f + 1, 0, a, b, i, k, hg, h, _ => absurd (bkq_far _ _ _ _ _ h) (by omega)
  | f + 1, g + 1, a, b, i, k, hg, h, hk => by
    have hfar := bkq_far _ _ _ _ _ h
    rw [bkq] at h ⊢
    rw [if_pos (by simp; omega)] at h ⊢
    rw [← bt_tl u r r' (show i < u.length by omega)]
    by_cases h1 : bt (u ++ r) i = 96
    · rw [if_pos h1] at h ⊢; exact h
    rw [if_neg h1] at h ⊢
    by_cases h2 : bt (u ++ r) i = 92
    · rw [if_pos h2] at h ⊢
      by_cases h3 : i + 1 = (u ++ r).length
      · rw [if_pos h3] at h; simp at h
      rw [if_neg h3] at h
      have := bkq_far _ _ _ _ _ h
      rw [if_neg (by simp; omega)]
      exact bkq_tl f g a b _ k (by omega) h hk
    · rw [if_neg h2] at h ⊢
      exact bkq_tl f g a b _ k (by omega) h hk
structure AllTl (f : Nat) : Prop where
  con : ∀ (g a k : Nat) (q d : Bool), 3 * (k - a) ≤ g + 2 → con f (u ++ r) a q d = (k, 0) → a < u.length → begins (u ++ r) a = true → k ≤ u.length → (k < u.length ∨ bt (u ++ r) (a + 1) = 40) → con g (u ++ r') a q d = (k, 0)
  ins : ∀ (g a k : Nat) (q d : Bool), 3 * (k - a) ≤ g + 1 → ins f (u ++ r) a q d = (k, 0) → a < u.length → k < u.length → ins g (u ++ r') a q d = (k, 0)
  dbl : ∀ (g a b i k : Nat), 3 * (k - i) ≤ g → dbl f (u ++ r) a i = (k, 0) → k ≤ u.length → dbl g (u ++ r') b i = (k, 0)
  ari : ∀ (g a b i n k : Nat), 3 * (k - i) ≤ g → ari f (u ++ r) a i n = (k, 0) → k ≤ u.length → ari g (u ++ r') b i n = (k, 0)
  cmd : ∀ (g a b i n : Nat) (x : Bool) (k : Nat), 3 * (k - i) ≤ g → cmd f (u ++ r) a i n x = (k, 0) → k ≤ u.length → cmd g (u ++ r') b i n x = (k, 0)
  brc : ∀ (g a b i : Nat) (q d : Bool) (k : Nat), 3 * (k - i) ≤ g → brc f (u ++ r) a i q d = (k, 0) → k ≤ u.length → brc g (u ++ r') b i q d = (k, 0)
theorem thn_pair {x : Nat × Int} {j : Nat} {k : Nat → Nat × Int} (h : x = (j, 0)) : thn x k = k j := by rw [h]; unfold thn; rw [if_pos rfl]
theorem pair_of {x : Nat × Int} (h : x.2 = 0) : x = (x.1, 0) := by rw [← h]
theorem all_tl : ∀ f, AllTl u r r' f
  | 0 => ⟨fun g a k q d _ h => by rw [con] at h; simp at h, fun g a k q d _ h => by rw [ins] at h; simp at h, fun g a b i k _ h => by rw [dbl] at h; simp at h, fun g a b i n k _ h => by rw [ari] at h; simp at h, fun g a b i n x k _ h => by rw [cmd] at h; simp at h, fun g a b i q d k _ h => by rw [brc] at h; simp at h⟩
  | f + 1 => by
    have ih := all_tl f
    refine ⟨fun g a k q d hg h ha hb hk hn => ?_, fun g a k q d hg h ha hk => ?_, fun g a b i k hg h hk => ?_, fun g a b i n k hg h hk => ?_, fun g a b i n x k hg h hk => ?_, fun g a b i q d k hg h hk => ?_⟩
    · have hgk := ((good_all (f + 1)).con (u ++ r) a q d (by simp; omega) hb).2.1 (by rw [h])
      rw [h] at hgk
      dsimp only at hgk
      obtain ⟨g, rfl⟩ : ∃ g', g = g' + 1 := ⟨g - 1, by omega⟩
      rw [con] at h ⊢
      rw [← bt_tl u r r' ha]
      by_cases h1 : bt (u ++ r) a = 92
      · rw [if_pos h1] at h ⊢
        split at h
        · simp at h
        · have := congrArg Prod.fst h
          dsimp only at this
          rw [if_neg (by simp; omega)]
          exact h
      rw [if_neg h1] at h ⊢
      by_cases h2 : bt (u ++ r) a = 39
      · rw [if_pos h2] at h ⊢
        cases hf : find (u ++ r) (a + 1) 39 with
        | none => rw [hf] at h; simp at h
        | some m =>
          rw [hf] at h
          have := congrArg Prod.fst h
          dsimp only at this
          rw [find_tl u r r' hf (by omega)]
          exact h
      rw [if_neg h2] at h ⊢
      by_cases h3 : bt (u ++ r) a = 34
      · rw [if_pos h3] at h ⊢
        exact ih.dbl g a a _ k (by omega) h hk
      rw [if_neg h3] at h ⊢
      by_cases h4 : bt (u ++ r) a = 96
      · rw [if_pos h4] at h ⊢
        exact bkq_tl u r r' f g a a _ k (by omega) h hk
      rw [if_neg h4] at h ⊢
      by_cases h5 : Lib.hasPrefix ((u ++ r).drop a) [36, 40, 40] = true
      · rw [if_pos h5] at h
        have := ari_far _ _ _ _ _ _ h
        rw [if_pos (by rw [← pref_tl u r r' (by omega)]; exact h5)]
        exact ih.ari g a a _ _ k (by omega) h hk
      rw [if_neg h5] at h
      have hd := begins_dollar hb (begins_other hb h1 h2 h3 h4)
      by_cases h6 : bt (u ++ r) (a + 1) = 40
      · rw [if_pos h6] at h
        have hc := cmd_far _ _ _ _ _ _ _ h
        rw [if_neg (by rw [← pref_tl u r r' (by omega)]; exact h5), if_pos (by rw [← bt_tl u r r' (by omega)]; exact h6)]
        exact ih.cmd g a a _ _ _ k (by omega) h hk
      rw [if_neg h6] at h
      have hku : k < u.length := hn.resolve_right h6
      have hka : a + 1 < u.length := by omega
      rw [if_neg (fun hp => h6 (by rw [bt_tl u r r' hka]; exact (has3 hp).2.2.1)), ← bt_tl u r r' hka, if_neg h6]
      by_cases h7 : bt (u ++ r) (a + 1) = 123
      · rw [if_pos h7] at h ⊢
        exact ih.brc g a a _ _ _ k (by omega) h hk
      rw [if_neg h7] at h ⊢
      by_cases h8 : starts (bt (u ++ r) (a + 1)) = false
      · rw [if_pos h8] at h ⊢; exact h
      rw [if_neg h8] at h ⊢
      have h9 := congrArg Prod.fst h
      dsimp only at h9
      rw [nameEnd_tl u r r' (by omega) h9 hku]
    · have hgk := ((good_all (f + 1)).ins (u ++ r) a q d (by simp; omega)).2.1 (by rw [h])
      rw [h] at hgk
      dsimp only at hgk
      obtain ⟨g, rfl⟩ : ∃ g', g = g' + 1 := ⟨g - 1, by omega⟩
      rw [ins] at h ⊢
      rw [← bt_tl u r r' ha, ← begins_tl u r r' (by omega)]
      by_cases h1 : bt (u ++ r) a = 39 ∨ bt (u ++ r) a = 34 ∨ begins (u ++ r) a = false
      · rw [if_pos h1] at h ⊢; exact h
      rw [if_neg h1] at h ⊢
      exact ih.con g a k q d (by omega) h ha (by
        cases hb : begins (u ++ r) a
        · exact absurd (.inr (.inr hb)) h1
        · rfl) (by omega) (.inl hk)
    · have hfar := dbl_far _ _ _ _ _ h
      obtain ⟨g, rfl⟩ : ∃ g', g = g' + 1 := ⟨g - 1, by omega⟩
      rw [dbl] at h ⊢
      rw [if_pos (by simp; omega)] at h ⊢
      rw [← bt_tl u r r' (show i < u.length by omega)]
      by_cases h1 : bt (u ++ r) i = 34
      · rw [if_pos h1] at h ⊢; exact h
      rw [if_neg h1] at h ⊢
      obtain ⟨h2, h3⟩ := thn_ok h
      have hj := dbl_far _ _ _ _ _ h3
      have hij := ((good_all f).ins (u ++ r) i true true (by simp; omega)).2.1 h2
      rw [thn_pair (ih.ins g i _ true true (by omega) (pair_of h2) (by omega) (by omega))]
      exact ih.dbl g a b _ k (by omega) h3 hk
    · have hfar := ari_far _ _ _ _ _ _ h
      obtain ⟨g, rfl⟩ : ∃ g', g = g' + 1 := ⟨g - 1, by omega⟩
      rw [ari] at h ⊢
      rw [if_pos (by simp; omega)] at h ⊢
      rw [← bt_tl u r r' (show i < u.length by omega)]
      by_cases h1 : bt (u ++ r) i = 40
      · rw [if_pos h1] at h ⊢
        obtain ⟨h2, h3⟩ := thn_ok h
        have hj := ari_far _ _ _ _ _ _ h3
        have hij := ((good_all f).ins (u ++ r) i true false (by simp; omega)).2.1 h2
        rw [thn_pair (ih.ins g i _ true false (by omega) (pair_of h2) (by omega) (by omega))]
        exact ih.ari g a b _ _ k (by omega) h3 hk
      rw [if_neg h1] at h ⊢
      by_cases h4 : bt (u ++ r) i = 41 ∧ 0 < n
      · rw [if_pos h4] at h ⊢
        obtain ⟨h2, h3⟩ := thn_ok h
        have hj := ari_far _ _ _ _ _ _ h3
        have hij := ((good_all f).ins (u ++ r) i true false (by simp; omega)).2.1 h2
        rw [thn_pair (ih.ins g i _ true false (by omega) (pair_of h2) (by omega) (by omega))]
        exact ih.ari g a b _ _ k (by omega) h3 hk
      rw [if_neg h4] at h ⊢
      by_cases h5 : bt (u ++ r) i = 41
      · rw [if_pos h5] at h ⊢
        split at h
        · simp at h
        split at h
        · rename_i h6
          have h7 := congrArg Prod.fst h
          dsimp only at h7
          rw [if_neg (by simp; omega), if_pos (by rw [← bt_tl u r r' (by omega)]; exact h6)]
          exact h
        · simp at h
      rw [if_neg h5] at h ⊢
      obtain ⟨h2, h3⟩ := thn_ok h
      have hj := ari_far _ _ _ _ _ _ h3
      have hij := ((good_all f).ins (u ++ r) i true false (by simp; omega)).2.1 h2
      rw [thn_pair (ih.ins g i _ true false (by omega) (pair_of h2) (by omega) (by omega))]
      exact ih.ari g a b _ _ k (by omega) h3 hk
    · have hfar := cmd_far _ _ _ _ _ _ _ h
      obtain ⟨g, rfl⟩ : ∃ g', g = g' + 1 := ⟨g - 1, by omega⟩
      rw [cmd] at h ⊢
      rw [if_pos (by simp; omega)] at h ⊢
      rw [← bt_tl u r r' (show i < u.length by omega)]
      by_cases hlast : i + 1 < u.length
      · rw [← joins_tl u r r' hlast, ← begins_tl u r r' hlast]
        by_cases h1 : joins (u ++ r) i = true
        · rw [if_pos h1] at h ⊢
          exact ih.cmd g a b _ _ _ k (by omega) h hk
        rw [if_neg h1] at h ⊢
        by_cases h2 : bt (u ++ r) i = 35 ∧ x = true
        · rw [if_pos h2] at h ⊢
          have hj := cmd_far _ _ _ _ _ _ _ h
          have hij := comment_lt (show i < (u ++ r).length by simp; omega) (by rw [h2.1]; decide)
          rw [comment_tl u r r' rfl (by omega)]
          exact ih.cmd g a b _ _ _ k (by omega) h hk
        rw [if_neg h2] at h ⊢
        by_cases h3 : begins (u ++ r) i = true
        · rw [if_pos h3] at h ⊢
          obtain ⟨h4, h5⟩ := thn_ok h
          have hj := cmd_far _ _ _ _ _ _ _ h5
          have hij := ((good_all f).con (u ++ r) i false false (by simp; omega) h3).2.1 h4
          rw [thn_pair (ih.con g i _ false false (by omega) (pair_of h4) (by omega) h3 (by omega) (.inl (by omega)))]
          exact ih.cmd g a b _ _ _ k (by omega) h5 hk
        rw [if_neg h3] at h ⊢
        by_cases h4 : bt (u ++ r) i = 40
        · rw [if_pos h4] at h ⊢
          exact ih.cmd g a b _ _ _ k (by omega) h hk
        rw [if_neg h4] at h ⊢
        by_cases h5 : bt (u ++ r) i = 41 ∧ n = 0
        · rw [if_pos h5] at h ⊢; exact h
        rw [if_neg h5] at h ⊢
        by_cases h6 : bt (u ++ r) i = 41
        · rw [if_pos h6] at h ⊢
          exact ih.cmd g a b _ _ _ k (by omega) h hk
        · rw [if_neg h6] at h ⊢
          exact ih.cmd g a b _ _ _ k (by omega) h hk
      · have hki : k = i + 1 := by omega
        have hnj : ∀ v : Str, bt v i = 41 → joins v i = false := fun v hv => by
          cases hj : joins v i with
          | false => rfl
          | true => rw [(joins_iff.1 hj).1] at hv; exact absurd hv (by decide)
        have hnb : ∀ v : Str, bt v i = 41 → begins v i = false := fun v hv => by
          unfold begins
          rw [if_neg (by rw [hv]; decide)]
          exact decide_eq_false (by rw [hv]; decide)
        have h41 : bt (u ++ r) i = 41 ∧ n = 0 := by
          by_cases h1 : joins (u ++ r) i = true
          · rw [if_pos h1] at h; have := cmd_far _ _ _ _ _ _ _ h; omega
          rw [if_neg h1] at h
          by_cases h2 : bt (u ++ r) i = 35 ∧ x = true
          · rw [if_pos h2] at h
            have hj := cmd_far _ _ _ _ _ _ _ h
            have := comment_lt (show i < (u ++ r).length by simp; omega) (by rw [h2.1]; decide)
            omega
          rw [if_neg h2] at h
          by_cases h3 : begins (u ++ r) i = true
          · rw [if_pos h3] at h
            obtain ⟨h4, h5⟩ := thn_ok h
            have hj := cmd_far _ _ _ _ _ _ _ h5
            have := ((good_all f).con (u ++ r) i false false (by simp; omega) h3).2.1 h4
            omega
          rw [if_neg h3] at h
          by_cases h4 : bt (u ++ r) i = 40
          · rw [if_pos h4] at h; have := cmd_far _ _ _ _ _ _ _ h; omega
          rw [if_neg h4] at h
          by_cases h5 : bt (u ++ r) i = 41 ∧ n = 0
          · exact h5
          rw [if_neg h5] at h
          by_cases h6 : bt (u ++ r) i = 41
          · rw [if_pos h6] at h; have := cmd_far _ _ _ _ _ _ _ h; omega
          · rw [if_neg h6] at h; have := cmd_far _ _ _ _ _ _ _ h; omega
        have h42 : bt (u ++ r') i = 41 := by rw [← bt_tl u r r' (by omega)]; exact h41.1
        rw [if_neg (by rw [hnj _ h42]; simp), if_neg (by rw [h41.1]; rintro ⟨e, -⟩; exact absurd e (by decide)), if_neg (by rw [hnb _ h42]; simp), if_neg (by rw [h41.1]; decide), if_pos h41, hki]
    · have hfar := brc_far _ _ _ _ _ _ _ h
      obtain ⟨g, rfl⟩ : ∃ g', g = g' + 1 := ⟨g - 1, by omega⟩
      rw [brc] at h ⊢
      rw [if_pos (by simp; omega)] at h ⊢
      rw [← bt_tl u r r' (show i < u.length by omega)]
      by_cases h1 : bt (u ++ r) i = 125
      · rw [if_pos h1] at h ⊢; exact h
      rw [if_neg h1] at h ⊢
      by_cases h2 : bt (u ++ r) i = 34 ∧ d = true
      · rw [if_pos h2] at h; simp at h
      rw [if_neg h2] at h ⊢
      have hi1 : i + 1 < u.length := by
        by_cases h3 : ((bt (u ++ r) i = 34 ∨ bt (u ++ r) i = 39) ∧ q = true) ∨ begins (u ++ r) i = false
        · rw [if_pos h3] at h; have := brc_far _ _ _ _ _ _ _ h; omega
        rw [if_neg h3] at h
        obtain ⟨h4, h5⟩ := thn_ok h
        have hj := brc_far _ _ _ _ _ _ _ h5
        have := ((good_all f).con (u ++ r) i q d (by simp; omega) (by
          cases hb : begins (u ++ r) i
          · exact absurd (.inr hb) h3
          · rfl)).2.1 h4
        omega
      rw [← begins_tl u r r' hi1]
      by_cases h3 : ((bt (u ++ r) i = 34 ∨ bt (u ++ r) i = 39) ∧ q = true) ∨ begins (u ++ r) i = false
      · rw [if_pos h3] at h ⊢
        exact ih.brc g a b _ _ _ k (by omega) h hk
      rw [if_neg h3] at h ⊢
      obtain ⟨h4, h5⟩ := thn_ok h
      have hj := brc_far _ _ _ _ _ _ _ h5
      have hb : begins (u ++ r) i = true := by
        cases hb : begins (u ++ r) i
        · exact absurd (.inr hb) h3
        · rfl
      have hij := ((good_all f).con (u ++ r) i q d (by simp; omega) hb).2.1 h4
      rw [thn_pair (ih.con g i _ q d (by omega) (pair_of h4) (by omega) hb (by omega) (.inl (by omega)))]
      exact ih.brc g a b _ _ _ k (by omega) h5 hk
end
/-- A command substitution is closed alike wherever it stands. -/
theorem close_move {s s2 u r r2 : Str} {a a2 : Nat} (h : close s a = (a + u.length, 0)) (hd : s.drop a = u ++ r) (h40 : bt s (a + 1) = 40) (h36 : bt s a = 36) (h2 : s2.drop a2 = u ++ r2) (ha2 : a2 ≤ s2.length) (hl : s2.length ≤ 16384) : close s2 a2 = (a2 + u.length, 0) := by
  obtain ⟨c1, c2, c3, -⟩ := close_ok h
  unfold construct at c3
  have hs : s = s.take a ++ (u ++ r) := by rw [← hd, List.take_append_drop]
  have hs2 : s2 = s2.take a2 ++ (u ++ r2) := by rw [← h2, List.take_append_drop]
  have hta : (s.take a).length = a := by rw [List.length_take]; omega
  have hta2 : (s2.take a2).length = a2 := by rw [List.length_take]; omega
  have hb0 : bt (u ++ r) 0 = 36 := by rw [← h36]; conv => rhs; rw [hs]; 
                                      have := bt_sh (s.take a) (u ++ r) 0
                                      rw [hta, Nat.add_zero] at this
                                      exact this.symm
  have hb1 : bt (u ++ r) 1 = 40 := by
    rw [← h40]; conv => rhs; rw [hs]
    have := bt_sh (s.take a) (u ++ r) 1
    rw [hta] at this
    exact this.symm
  have hbg : begins (u ++ r) 0 = true := by
    have := begins_sh (s.take a) (u ++ r) 0
    rw [hta, Nat.add_zero, ← hs] at this
    rw [← this]
    exact c2
  have hcon : con (3 * s.length + 3) (u ++ r) 0 false false = (u.length, 0) := by
    have := (all_sh (s.take a) (u ++ r) (3 * s.length + 3)).con 0 false false
    rw [hta, ← hs] at this
    simp only [Nat.add_zero] at this
    rw [c3] at this
    have h1 := congrArg Prod.fst this
    have h3 := congrArg Prod.snd this
    unfold sh at h1 h3
    dsimp only at h1 h3
    exact Prod.ext (by dsimp only; omega) h3.symm
  have hu0 : 0 < u.length := by
    have := ((good_all (3 * s.length + 3)).con (u ++ r) 0 false false (by
      rcases Nat.eq_zero_or_pos (u ++ r).length with e | e
      · rw [List.eq_nil_of_length_eq_zero e] at hb0
        exact absurd hb0 (by decide)
      · exact e) hbg).2.1 (by rw [hcon])
    rw [hcon] at this
    exact this
  have hlen2 : s2.length = a2 + (u.length + r2.length) := by
    conv => lhs; rw [hs2]
    simp only [List.length_append]
    omega
  have hcon2 := (all_tl u r r2 (3 * s.length + 3)).con (3 * s2.length + 3) 0 u.length false false (by omega) hcon hu0 hbg (Nat.le_refl _) (.inr hb1)
  have hu1 : 1 < u.length := by
    rcases Nat.lt_or_ge 1 u.length with e | e
    · exact e
    · have hk := hcon
      rw [con, if_neg (by rw [hb0]; decide), if_neg (by rw [hb0]; decide), if_neg (by rw [hb0]; decide), if_neg (by rw [hb0]; decide)] at hk
      split at hk
      · have := ari_far _ _ _ _ _ _ hk; omega
      have := cmd_far _ _ _ _ _ _ _ hk
      omega
  unfold close
  rw [if_neg (by omega), if_pos]
  · unfold construct
    have := (all_sh (s2.take a2) (u ++ r2) (3 * s2.length + 3)).con 0 false false
    rw [hta2, Nat.add_zero, ← hs2, hcon2] at this
    exact this
  · refine ⟨by omega, ?_⟩
    have := begins_sh (s2.take a2) (u ++ r2) 0
    rw [hta2, Nat.add_zero, ← hs2] at this
    rw [this, ← begins_tl u r r2 (show 0 + 1 < u.length by omega)]
    exact hbg
end LX
end Go.Proofs.YtmgomklpjjkehaaGreat
namespace Go.Proofs.YtmgomklpjjkehaaGreat
open K
namespace WP
theorem hp1 (x : UInt8) (r : Str) (c : UInt8) : Lib.hasPrefix (x :: r) [c] = decide (x = c) := by
  by_cases h : x = c
  · simp [Lib.hasPrefix, h]
  · have h2 : ¬ c = x := fun e => h e.symm
    simp [Lib.hasPrefix, List.isPrefixOf, h, h2]
theorem hp1n (c : UInt8) : Lib.hasPrefix [] [c] = false := by simp [Lib.hasPrefix]
theorem hp2 (x y : UInt8) (r : Str) (c d : UInt8) : Lib.hasPrefix (x :: y :: r) [c, d] = decide (x = c ∧ y = d) := by
  by_cases h : x = c ∧ y = d
  · simp [Lib.hasPrefix, h.1, h.2]
  · rw [decide_eq_false h]
    cases hp : Lib.hasPrefix (x :: y :: r) [c, d] with
    | false => rfl
    | true =>
      simp [Lib.hasPrefix] at hp
      exact absurd ⟨hp.1.symm, hp.2.symm⟩ h
theorem hp2a (x c d : UInt8) : Lib.hasPrefix [x] [c, d] = false := by simp [Lib.hasPrefix, List.isPrefixOf]
theorem hp2n (c d : UInt8) : Lib.hasPrefix [] [c, d] = false := by simp [Lib.hasPrefix]
theorem hp2h {l : Str} {c d : UInt8} (h : ∀ x r, l = x :: r → x ≠ c) : Lib.hasPrefix l [c, d] = false := by
  match l with
  | [] => exact hp2n _ _
  | [x] => exact hp2a _ _ _
  | x :: y :: r => rw [hp2]; exact decide_eq_false fun e => h x _ rfl e.1
theorem hp1h {l : Str} {c : UInt8} (h : ∀ x r, l = x :: r → x ≠ c) : Lib.hasPrefix l [c] = false := by
  match l with
  | [] => exact hp1n _
  | x :: r => rw [hp1]; exact decide_eq_false fun e => h x _ rfl e
/-- The bytes of bare text. -/
structure Ch (op : Bool) (x : UInt8) : Prop where
  n92 : x ≠ 92
  n96 : x ≠ 96
  n39 : x ≠ 39
  n34 : x ≠ 34
  dv : LX.divides (x.toNat : Int) = true → op = true
  n125 : op = true → x ≠ 125
/-- The bytes behind a lone $. -/
structure OkD (x : UInt8) : Prop where
  one : one8 (x.toNat : Int) = false
  dig : LX.digit (x.toNat : Int) = false
  sta : LX.starts (x.toNat : Int) = false
  n40 : x ≠ 40
  n123 : x ≠ 123
  n96 : x ≠ 96
/-- What may follow a lone $. -/
def SafeD (R : Str) : Prop := ∀ x r, R = x :: r → OkD x ∧ (x = 92 → ∀ y r', r = y :: r' → y ≠ 10)
theorem toNat_ne {x y : UInt8} (h : x ≠ y) : ¬ (x.toNat : Int) = (y.toNat : Int) := fun e => h (UInt8.toNat_inj.1 (by omega))
theorem by8_of {s : Str} {a : Nat} {x : UInt8} (h : bt s a = (x.toNat : Int)) : by8 (bt s a) = x := by8_bt h
section
variable {N : Nest} {c : Ctx} {st : St}
theorem ended0 (hp : c.pl = 0) {x : UInt8} {r : Str} (hd : c.s.drop st.a = x :: r) (hx : c.op = true → x ≠ 125) : ended c st = .ok false := by
  obtain ⟨h1, h2, -⟩ := LX.drop_head hd
  unfold ended
  rw [if_neg (by omega)]
  by_cases ho : c.op = true
  · rw [if_pos ho, h2]
    exact congrArg _ (decide_eq_false (toNat_ne (y := 125) (hx ho)))
  · rw [if_neg ho, if_neg (by omega), if_neg (by omega)]
theorem next0_char (hp : c.pl = 0) {x : UInt8} {r : Str} (hd : c.s.drop st.a = x :: r) (hx : Ch c.op x) (h36 : x ≠ 36) (ht : x = 126 → tilde c st = false) : next N c st = .ok (lit x 1 st) := by
  obtain ⟨h1, h2, -⟩ := LX.drop_head hd
  have hb := by8_of h2
  unfold next
  rw [if_neg (by rw [h2]; exact toNat_ne (y := 92) hx.n92), if_neg (by rw [h2]; exact toNat_ne (y := 36) h36), if_neg (by rw [h2]; exact toNat_ne (y := 96) hx.n96), if_pos hp]
  unfold unquoted
  rw [if_neg (by rw [h2]; exact toNat_ne (y := 39) hx.n39), if_neg (by rw [h2]; exact toNat_ne (y := 34) hx.n34), hb]
  by_cases hdv : LX.divides (bt c.s st.a) = true
  · rw [if_pos hdv, if_pos (hx.dv (by rw [← h2]; exact hdv))]
  · rw [if_neg hdv, if_neg]
    rintro ⟨e1, e2⟩
    rw [ht (UInt8.toNat_inj.1 (by rw [h2] at e1; have : (126 : UInt8).toNat = 126 := rfl; omega))] at e2
    exact absurd e2 (by simp)
theorem dollar_lone {r : Str} (hd : c.s.drop st.a = 36 :: r) (hs : SafeD r) : next N c st = .ok (lit 36 1 st) := by
  obtain ⟨h1, h2', h3⟩ := LX.drop_head hd
  have h2 : bt c.s st.a = 36 := h2'
  unfold next
  rw [if_neg (by rw [h2]; decide), if_pos h2]
  unfold dollar
  rw [h3]
  cases r with
  | nil =>
    have hl : st.a + 1 = c.s.length := by have := congrArg List.length h3; rw [List.length_drop] at this; simp at this; omega
    have hp : parameter c.s (st.a + 1) = st.a + 1 := by unfold parameter; rw [if_pos hl]
    rw [hp2n, hp1n, hp1n, hp1n, hp2n, hp]
    simp
    omega
  | cons y r' =>
    obtain ⟨hy, h92⟩ := hs y r' rfl
    obtain ⟨g1, g2, g3⟩ := LX.drop_head h3
    have hp : parameter c.s (st.a + 1) = st.a + 1 := by
      unfold parameter
      rw [if_neg (by omega), g2, if_neg (by rw [hy.one]; simp), if_neg (by rw [hy.dig]; simp), if_neg (by rw [hy.sta]; simp)]
    have hj : Lib.hasPrefix (y :: r') [92, 10] = false := by
      match r' with
      | [] => exact hp2a _ _ _
      | z :: r'' => rw [hp2]; exact decide_eq_false fun e => h92 e.1 z r'' rfl e.2
    rw [hp2h (fun x r e => by injection e with e _; rw [← e]; exact hy.n40), hp1, hp1, hp1, hj, hp, g2, hy.dig]
    simp [hy.n40, hy.n123, hy.n96]
/-- A byte of text within quotes and the like, escaped or not. -/
theorem nextQ_esc (hp : c.pl ≠ 0) {x : UInt8} {r : Str} (hd : c.s.drop st.a = 92 :: x :: r) (he : escapes c.pl (x.toNat : Int) c.op = true) : ended c st = .ok false ∧ next N c st = .ok (lit x 2 st) := by
  obtain ⟨h1, h2', h3⟩ := LX.drop_head hd
  have h2 : bt c.s st.a = 92 := h2'
  obtain ⟨g1, g2, -⟩ := LX.drop_head h3
  have hb := by8_of g2
  constructor
  · unfold ended
    rw [if_neg (by omega), h2]
    by_cases ho : c.op = true
    · rw [if_pos ho]; rfl
    · rw [if_neg ho]
      split
      · rfl
      · rw [if_neg (by rintro ⟨-, e, -⟩; exact absurd e (by decide))]
  · unfold next
    rw [if_pos h2]
    unfold backslash
    rw [if_neg (by omega), if_neg, if_neg hp, g2, if_pos he, ← g2, hb]
    rw [g2]
    intro e
    unfold escapes at he
    rw [e] at he
    simp at he
theorem dep_eq (c : Ctx) (st : St) (x : UInt8) (h : bt c.s st.a = (x.toNat : Int)) : depth c st = if c.pl = 2 ∧ c.op = false then (if x = 40 then st.dep + 1 else if x = 41 then st.dep - 1 else st.dep) else st.dep := by
  unfold depth
  rw [h]
  by_cases h1 : c.pl = 2 ∧ c.op = false
  · rw [if_pos h1, if_pos h1]
    by_cases h40 : x = 40
    · subst h40; rfl
    · rw [if_neg (show ¬ (x.toNat : Int) = 40 from toNat_ne (y := 40) h40), if_neg h40]
      by_cases h41 : x = 41
      · subst h41; rfl
      · rw [if_neg (show ¬ (x.toNat : Int) = 41 from toNat_ne (y := 41) h41), if_neg h41]
  · rw [if_neg h1, if_neg h1]
theorem nextQ_raw (hp : c.pl = 1 ∨ c.pl = 2) {x : UInt8} {r : Str} (hd : c.s.drop st.a = x :: r) (he : escapes c.pl (x.toNat : Int) c.op = false) (hz : c.pl = 2 → c.op = false → x = 41 → st.dep ≠ 0) :
    ended c st = .ok false ∧ next N c st = .ok (lit x 1 { st with dep := depth c st }) := by
  obtain ⟨h1, h2, -⟩ := LX.drop_head hd
  have hb := by8_of h2
  have n0 : c.pl ≠ 0 := by omega
  have n36 : x ≠ 36 := by rintro rfl; unfold escapes at he; simp [n0] at he
  have n96 : x ≠ 96 := by rintro rfl; unfold escapes at he; simp [n0] at he
  have n92 : x ≠ 92 := by rintro rfl; unfold escapes at he; simp [n0] at he
  have n34 : c.pl = 1 → x ≠ 34 := by intro e; rintro rfl; unfold escapes at he; simp [e] at he
  have n125 : c.op = true → x ≠ 125 := by intro e; rintro rfl; unfold escapes at he; simp [e, n0] at he
  constructor
  · unfold ended
    rw [if_neg (by omega)]
    by_cases ho : c.op = true
    · rw [if_pos ho, h2]
      exact congrArg _ (decide_eq_false (toNat_ne (y := 125) (n125 ho)))
    · rw [if_neg ho]
      by_cases h3 : c.pl = 1
      · rw [if_pos h3, h2]
        exact congrArg _ (decide_eq_false (toNat_ne (y := 34) (n34 h3)))
      · rw [if_neg h3, if_neg]
        rintro ⟨e1, e2, e3⟩
        rw [h2] at e2
        exact hz e1 (by simpa using ho) (UInt8.toNat_inj.1 (by have : (41 : UInt8).toNat = 41 := rfl; omega)) e3
  · unfold next
    rw [if_neg (by rw [h2]; exact toNat_ne (y := 92) n92), if_neg (by rw [h2]; exact toNat_ne (y := 36) n36), if_neg (by rw [h2]; exact toNat_ne (y := 96) n96), if_neg n0, if_neg, hb]
    rintro ⟨e1, e2⟩
    rw [h2] at e1
    exact n34 e2 (UInt8.toNat_inj.1 (by have : (34 : UInt8).toNat = 34 := rfl; omega))
/-! The parts. -/
theorem step_apos (hp : c.pl = 0) {r : Str} (hd : c.s.drop st.a = 92 :: 39 :: r) : next N c st = .ok (add (.mk 2 [39] 0 false []) (st.a + 2) st) := by
  obtain ⟨h1, h2', h3⟩ := LX.drop_head hd
  have h2 : bt c.s st.a = 92 := h2'
  obtain ⟨g1, g2', g3⟩ := LX.drop_head h3
  have g2 : bt c.s (st.a + 1) = 39 := g2'
  have hc : cut c.s (st.a + 1) (st.a + 2) = [39] := by
    have := cut_one c.s (st.a + 1) g1
    rw [g2] at this
    exact this
  unfold next
  rw [if_pos h2]
  unfold backslash
  rw [if_neg (by omega), if_neg (by rw [g2]; decide), if_pos hp, hc]
theorem step_single (hp : c.pl = 0) (hl : c.s.length ≤ 16384) {t r : Str} (hd : c.s.drop st.a = 39 :: (t ++ 39 :: r)) (ht : ∀ k : Nat, t[k]? ≠ some 39) : next N c st = .ok (add (.mk 2 t 0 false []) (st.a + t.length + 2) st) := by
  obtain ⟨q1, q2, q3, q4⟩ := cls_single hl hd ht
  obtain ⟨h1, h2', h3⟩ := LX.drop_head hd
  have h2 : bt c.s st.a = 39 := h2'
  unfold next
  rw [if_neg (by rw [h2]; decide), if_neg (by rw [h2]; decide), if_neg (by rw [h2]; decide), if_pos hp]
  unfold unquoted
  rw [if_pos h2, q1]
  dsimp only
  rw [q2]
theorem step_double (hp : c.pl = 0) {ps : List Part} {r : Str} {e : Nat} (hd : c.s.drop st.a = 34 :: r) (hv : c.lv ≠ 32) (hN : N ⟨c.s, 1, false, c.lv + 1, st.a⟩ (st.a + 1) = .ok (ps, e)) : next N c st = .ok (add (.mk 3 [] 0 false ps) (e + 1) st) := by
  obtain ⟨h1, h2', h3⟩ := LX.drop_head hd
  have h2 : bt c.s st.a = 34 := h2'
  unfold next
  rw [if_neg (by rw [h2]; decide), if_neg (by rw [h2]; decide), if_neg (by rw [h2]; decide), if_pos hp]
  unfold unquoted
  rw [if_neg (by rw [h2]; decide), if_pos h2, if_neg hv, hN]
theorem step_tilde (hp : c.pl = 0) {r : Str} (hd : c.s.drop st.a = 126 :: r) (ht : tilde c st = true) : next N c st = .ok (add (.mk 7 [] 0 false []) (st.a + 1) st) := by
  obtain ⟨h1, h2', h3⟩ := LX.drop_head hd
  have h2 : bt c.s st.a = 126 := h2'
  unfold next
  rw [if_neg (by rw [h2]; decide), if_neg (by rw [h2]; decide), if_neg (by rw [h2]; decide), if_pos hp]
  unfold unquoted
  rw [if_neg (by rw [h2]; decide), if_neg (by rw [h2]; decide), if_neg (by rw [h2]; decide), if_pos ⟨h2, ht⟩]
/-- What the text of a command substitution is good for. -/
def CmdT (t : Str) : Prop := subst t = true ∧ (∀ x r, t = x :: r → x ≠ 40)
theorem step_cmd (hl : c.s.length ≤ 16384) {t r : Str} (hd : c.s.drop st.a = 36 :: 40 :: (t ++ 41 :: r)) (ht : CmdT t) : next N c st = .ok (add (.mk 5 t 0 false []) (st.a + t.length + 3) st) := by
  obtain ⟨h1, h2', h3⟩ := LX.drop_head hd
  have h2 : bt c.s st.a = 36 := h2'
  obtain ⟨g1, g2', g3⟩ := LX.drop_head h3
  obtain ⟨p1, p2, p3⟩ := drop_parts g3 (by omega)
  have hs := of_decide_eq_true ht.1
  have hcl : LX.close c.s st.a = (st.a + (t.length + 3), 0) := by
    have := LX.close_move (s := 36 :: 40 :: (t ++ [41])) (s2 := c.s) (u := 36 :: 40 :: (t ++ [41])) (r := []) (r2 := r) (a := 0) (a2 := st.a) (by rw [hs]; simp) (by simp) rfl rfl (by rw [hd]; simp) (by omega) hl
    rw [this]
    simp
  unfold next
  rw [if_neg (by rw [h2]; decide), if_pos h2]
  unfold dollar
  have hno : Lib.hasPrefix (40 :: (t ++ 41 :: r)) [40, 40] = false := by
    cases t with
    | nil => rw [List.nil_append, hp2]; exact decide_eq_false fun e => absurd e.2 (by decide)
    | cons x t' => rw [List.cons_append, hp2]; exact decide_eq_false fun e => ht.2 x t' rfl e.2
  rw [h3, if_neg (by rw [hno]; simp), if_pos (by rw [hp1]; rfl)]
  unfold cls
  rw [hcl]
  dsimp only
  rw [if_pos rfl]
  dsimp only
  rw [show st.a + (t.length + 3) - 1 = st.a + 2 + t.length by omega, show cut c.s (st.a + 2) (st.a + 2 + t.length) = t from p1, show st.a + (t.length + 3) = st.a + t.length + 3 by omega]
theorem step_arith {ps : List Part} {r : Str} {e : Nat} (hd : c.s.drop st.a = 36 :: 40 :: 40 :: r) (hv : c.lv ≠ 32) (hN : N ⟨c.s, 2, false, c.lv + 1, st.a⟩ (st.a + 3) = .ok (ps, e)) : next N c st = .ok (add (.mk 6 [] 0 false ps) (e + 2) st) := by
  obtain ⟨h1, h2', h3⟩ := LX.drop_head hd
  have h2 : bt c.s st.a = 36 := h2'
  unfold next
  rw [if_neg (by rw [h2]; decide), if_pos h2]
  unfold dollar
  rw [h3, if_pos (by rw [hp2]; rfl), if_neg hv, hN]
end
end WP
end Go.Proofs.YtmgomklpjjkehaaGreat
namespace Go.Proofs.YtmgomklpjjkehaaGreat
open K
namespace WP
/-- What follows no longer belongs to a name or a number. -/
def Sep (r : Str) : Prop := ∀ x r', r = x :: r' → LX.starts (x.toNat : Int) = false ∧ LX.digit (x.toNat : Int) = false
structure NameT (t : Str) : Prop where
  ne : t ≠ []
  par : ∀ r, Sep r → parameter (t ++ r) 0 = t.length
  len : LX.starts (bt t 0) = true → t.length ≤ 32
  one : one8 (bt t 0) = true → t.length = 1
  num : LX.digit (bt t 0) = true → LX.number t = true
theorem par_sh (A s : Str) (i : Nat) : parameter (A ++ s) (A.length + i) = A.length + parameter s i := by
  unfold parameter
  simp only [LX.bt_sh, LX.drop_sh, LX.nameEnd_sh, List.length_append, Nat.add_left_cancel_iff]
  split
  · rfl
  split
  · rw [Nat.add_assoc]
  split
  · rw [Nat.add_assoc]
  split
  · rfl
  · rfl
theorem par_at {s t r : Str} {k : Nat} (hd : s.drop k = t ++ r) (hk : k ≤ s.length) : parameter s k = k + parameter (t ++ r) 0 := by
  have hs : s = s.take k ++ (t ++ r) := by rw [← hd, List.take_append_drop]
  have hl : (s.take k).length = k := by rw [List.length_take]; omega
  have := par_sh (s.take k) (t ++ r) 0
  rw [← hs, hl, Nat.add_zero] at this
  exact this
theorem bt_at {s t r : Str} {k : Nat} (hd : s.drop k = t ++ r) (ht : t ≠ []) : bt s k = bt t 0 := by
  cases t with
  | nil => exact absurd rfl ht
  | cons x t' =>
    obtain ⟨-, h, -⟩ := LX.drop_head (r := t' ++ r) hd
    rw [h]; rfl
theorem sep_nil : Sep [] := fun x r h => by cases h
theorem NameT.head {t : Str} (h : NameT t) : one8 (bt t 0) = true ∨ LX.digit (bt t 0) = true ∨ LX.starts (bt t 0) = true := by
  have h1 := h.par [] sep_nil
  rw [List.append_nil] at h1
  unfold parameter at h1
  have h0 : 0 < t.length := List.length_pos_iff.2 h.ne
  rw [if_neg (by omega)] at h1
  by_cases a : one8 (bt t 0) = true
  · exact .inl a
  rw [if_neg a] at h1
  by_cases b : LX.digit (bt t 0) = true
  · exact .inr (.inl b)
  rw [if_neg b] at h1
  by_cases e : LX.starts (bt t 0) = true
  · exact .inr (.inr e)
  rw [if_neg e] at h1
  omega
theorem head_ne {t : Str} (h : NameT t) {n : Int} (hn : one8 n = false ∧ LX.digit n = false ∧ LX.starts n = false) : ¬ bt t 0 = n := fun e => by
  rcases h.head with a | a | a
  · rw [e, hn.1] at a; cases a
  · rw [e, hn.2.1] at a; cases a
  · rw [e, hn.2.2] at a; cases a
theorem too_no {s t r : Str} {k : Nat} (h : NameT t) (hd : s.drop k = t ++ r) : tooLong s k (k + t.length) = false := by
  unfold tooLong
  rw [bt_at hd h.ne]
  cases hs : LX.starts (bt t 0) with
  | false => rfl
  | true =>
    have := h.len hs
    rw [Bool.true_and]
    exact decide_eq_false (by omega)
theorem one8_stop {s t r : Str} {k : Nat} (h : NameT t) (hd : s.drop k = t ++ r) (hk : k ≤ s.length) (ho : one8 (bt t 0) = true) : parameter s k = k + t.length := by
  have h1 := h.one ho
  obtain ⟨-, -, h3⟩ := drop_parts hd hk
  unfold parameter
  rw [if_neg (by omega), bt_at hd h.ne, if_pos ho, h1]
theorem par_in {s t r : Str} {k : Nat} (h : NameT t) (hd : s.drop k = t ++ r) (hk : k ≤ s.length) (hs : Sep r ∨ one8 (bt t 0) = true) : parameter s k = k + t.length := by
  rcases hs with hs | ho
  · rw [par_at hd hk, h.par r hs]
  · exact one8_stop h hd hk ho
section
variable {N : Nest} {c : Ctx} {st : St}
/-- $name and the like. -/
theorem step_param {t r : Str} (hd : c.s.drop st.a = 36 :: (t ++ r)) (h : NameT t) (hdig : LX.digit (bt t 0) = true → t.length = 1) (hs : Sep r ∨ one8 (bt t 0) = true ∨ LX.digit (bt t 0) = true) : next N c st = .ok (add (.mk 4 t 0 false []) (st.a + 1 + t.length) st) := by
  obtain ⟨h1, h2', h3⟩ := LX.drop_head hd
  have h2 : bt c.s st.a = 36 := h2'
  obtain ⟨p1, p2, p3⟩ := drop_parts h3 (by omega)
  have hb := bt_at h3 h.ne
  have h0 : 0 < t.length := List.length_pos_iff.2 h.ne
  unfold next
  rw [if_neg (by rw [h2]; decide), if_pos h2]
  unfold dollar
  have n40 : ∀ x r', t ++ r = x :: r' → x ≠ 40 := fun x r' e => by
    rintro rfl
    rw [e] at h3
    obtain ⟨-, hb2, -⟩ := LX.drop_head h3
    exact head_ne h (n := 40) (by decide) (by rw [← hb, hb2]; rfl)
  have n123 : ∀ x r', t ++ r = x :: r' → x ≠ 123 := fun x r' e => by
    rintro rfl
    rw [e] at h3
    obtain ⟨-, hb2, -⟩ := LX.drop_head h3
    exact head_ne h (n := 123) (by decide) (by rw [← hb, hb2]; rfl)
  rw [h3, if_neg (by rw [hp2h n40]; simp), if_neg (by rw [hp1h n40]; simp), if_neg (by rw [hp1h n123]; simp), hb]
  by_cases hg : LX.digit (bt t 0) = true
  · have ht := hdig hg
    rw [if_pos ⟨by omega, hg⟩, show st.a + 1 + t.length = st.a + 2 by omega]
    rw [show cut c.s (st.a + 1) (st.a + 2) = t by rw [show st.a + 2 = st.a + 1 + t.length by omega]; exact p1]
  · rw [if_neg (fun e => hg e.2)]
    have hp := par_in h h3 (by omega) (by
      rcases hs with a | a | a
      · exact .inl a
      · exact .inr a
      · exact absurd a hg)
    rw [hp, if_pos (by omega), if_neg (by rw [too_no h h3]; simp), p1]
theorem dollar_braced {r : Str} (hd : c.s.drop st.a = 36 :: 123 :: r) : next N c st = match braced N c st with | .error x => .error x | .ok (p, e) => .ok (add p e st) := by
  obtain ⟨h1, h2', h3⟩ := LX.drop_head hd
  have h2 : bt c.s st.a = 36 := h2'
  unfold next
  rw [if_neg (by rw [h2]; decide), if_pos h2]
  unfold dollar
  rw [h3, if_neg (by rw [hp2h (fun x r e => by injection e with e _; rw [← e]; decide)]; simp), if_neg (by rw [hp1]; decide), if_pos (by rw [hp1]; rfl)]
  cases braced N c st with
  | error x => rfl
  | ok y => rfl
theorem sep_of {x : UInt8} (r : Str) (h : LX.starts (x.toNat : Int) = false ∧ LX.digit (x.toNat : Int) = false) : Sep (x :: r) := fun y r' e => by
  injection e with e _
  rw [← e]
  exact h
/-- ${name} -/
theorem step_bare {t r : Str} (hd : c.s.drop st.a = 36 :: 123 :: (t ++ 125 :: r)) (h : NameT t) (h35 : ¬ bt t 0 = 35) : next N c st = .ok (add (.mk 4 t 0 false []) (st.a + t.length + 3) st) := by
  rw [dollar_braced hd]
  obtain ⟨h1, -, h3⟩ := LX.drop_head hd
  obtain ⟨g1, -, g3⟩ := LX.drop_head h3
  have g3 : c.s.drop (st.a + 2) = t ++ 125 :: r := g3
  obtain ⟨p1, p2, p3⟩ := drop_parts g3 (by omega)
  have h0 : 0 < t.length := List.length_pos_iff.2 h.ne
  have hb1 : braced1 c st = .ok none := by
    unfold braced1
    rw [if_neg]
    rintro ⟨-, e, -⟩
    exact h35 (by rw [← bt_at g3 h.ne]; exact e)
  have hp := par_in h g3 (by omega) (.inl (sep_of r (x := 125) (by decide)))
  unfold braced
  rw [hb1]
  dsimp only
  unfold braced2
  rw [hp, if_neg (by omega), if_neg (by rw [too_no h g3]; simp), p2, if_pos (by rw [hp1]; rfl), p1]
  dsimp only
  rw [show st.a + 2 + t.length + 1 = st.a + t.length + 3 by omega]
/-- ${#name} -/
theorem step_length {t r : Str} (hd : c.s.drop st.a = 36 :: 123 :: 35 :: (t ++ 125 :: r)) (h : NameT t) : next N c st = .ok (add (.mk 4 t 5 false []) (st.a + t.length + 4) st) := by
  rw [dollar_braced hd]
  obtain ⟨h1, -, h3⟩ := LX.drop_head hd
  obtain ⟨g1, -, g3⟩ := LX.drop_head h3
  obtain ⟨k1, k2', k3⟩ := LX.drop_head g3
  have k2 : bt c.s (st.a + 2) = 35 := k2'
  have k3 : c.s.drop (st.a + 3) = t ++ 125 :: r := k3
  obtain ⟨p1, p2, p3⟩ := drop_parts k3 (by omega)
  obtain ⟨q1, q2', -⟩ := LX.drop_head p2
  have q2 : bt c.s (st.a + 3 + t.length) = 125 := q2'
  have h0 : 0 < t.length := List.length_pos_iff.2 h.ne
  have hp := par_in h k3 (by omega) (.inl (sep_of r (x := 125) (by decide)))
  have hb1 : braced1 c st = .ok (some (.mk 4 t 5 false [], st.a + t.length + 4)) := by
    unfold braced1
    rw [hp, if_pos ⟨by omega, k2, by omega⟩, if_neg (by rw [too_no h k3]; simp), if_neg (by omega), if_pos q2, p1, show st.a + 3 + t.length + 1 = st.a + t.length + 4 by omega]
  unfold braced
  rw [hb1]
/-- The operator's bytes. -/
def ysym (y : Str) (cl : Bool) : Str := if cl = true then 58 :: y else y
/-- What stands behind an operator: it is not drawn into it. -/
structure Behind (o : Nat) (cl : Bool) (t R : Str) : Prop where
  pct : o = 6 → ∀ r, R ≠ 37 :: r
  hash : o = 8 → ∀ r, R ≠ 35 :: r
  join : ∀ r, R ≠ 92 :: 10 :: r
  none : t = [35] → cl = false → o = 1 ∨ o = 3 ∨ o = 8 → ∀ r, R ≠ 125 :: r
  ne : R ≠ []
theorem oper_no {t : Str} {o : Nat} {y R : Str} (hy : symbol o = some y) (hb : Behind o false t R) : operator (y ++ R) false = (o, y.length) := by
  have hne : y ++ R ≠ [] := by
    intro e
    have := List.append_eq_nil_iff.1 e
    exact hb.ne this.2
  unfold symbol at hy
  have sub : ∀ {a b : Int}, a = b → b = a := fun e => e.symm
  unfold operator
  rw [if_neg hne]
  split at hy
  · rename_i h; injection hy with hy; subst hy; obtain rfl : o = 1 := by omega
    rfl
  split at hy
  · rename_i h; injection hy with hy; subst hy; obtain rfl : o = 2 := by omega
    rfl
  split at hy
  · rename_i h; injection hy with hy; subst hy; obtain rfl : o = 3 := by omega
    rfl
  split at hy
  · rename_i h; injection hy with hy; subst hy; obtain rfl : o = 4 := by omega
    rfl
  split at hy
  · rename_i h; injection hy with hy; subst hy; obtain rfl : o = 6 := by omega
    have h37 : Lib.hasPrefix (37 :: R) [37, 37] = false := by
      match R, hb.pct rfl with
      | [], _ => exact hp2a _ _ _
      | x :: R', h => rw [hp2]; exact decide_eq_false fun e => h R' (by rw [e.2])
    show (if bt (37 :: R) 0 = 45 then _ else _) = _
    rw [if_neg (by show ¬ (37 : Int) = 45; decide), if_neg (by show ¬ (37 : Int) = 61; decide), if_neg (by show ¬ (37 : Int) = 63; decide), if_neg (by show ¬ (37 : Int) = 43; decide), if_neg (by decide), if_neg (by show ¬ Lib.hasPrefix (37 :: R) [37, 37] = true; rw [h37]; simp), if_neg (by show ¬ Lib.hasPrefix (37 :: R) [35, 35] = true; rw [hp2h (fun x r e => by injection e with e _; rw [← e]; decide)]; simp), if_pos (by rfl)]
    rfl
  split at hy
  · rename_i h; injection hy with hy; subst hy; obtain rfl : o = 7 := by omega
    show (if bt (37 :: 37 :: R) 0 = 45 then _ else _) = _
    rw [if_neg (by show ¬ (37 : Int) = 45; decide), if_neg (by show ¬ (37 : Int) = 61; decide), if_neg (by show ¬ (37 : Int) = 63; decide), if_neg (by show ¬ (37 : Int) = 43; decide), if_neg (by decide), if_pos (by show Lib.hasPrefix (37 :: 37 :: R) [37, 37] = true; rw [hp2]; rfl)]
    rfl
  split at hy
  · rename_i h; injection hy with hy; subst hy; obtain rfl : o = 8 := by omega
    have h35 : Lib.hasPrefix (35 :: R) [35, 35] = false := by
      match R, hb.hash rfl with
      | [], _ => exact hp2a _ _ _
      | x :: R', h => rw [hp2]; exact decide_eq_false fun e => h R' (by rw [e.2])
    show (if bt (35 :: R) 0 = 45 then _ else _) = _
    rw [if_neg (by show ¬ (35 : Int) = 45; decide), if_neg (by show ¬ (35 : Int) = 61; decide), if_neg (by show ¬ (35 : Int) = 63; decide), if_neg (by show ¬ (35 : Int) = 43; decide), if_neg (by decide), if_neg (by show ¬ Lib.hasPrefix (35 :: R) [37, 37] = true; rw [hp2h (fun x r e => by injection e with e _; rw [← e]; decide)]; simp), if_neg (by show ¬ Lib.hasPrefix (35 :: R) [35, 35] = true; rw [h35]; simp), if_neg (by show ¬ (35 : Int) = 37; decide), if_pos (by rfl)]
    rfl
  split at hy
  · rename_i h; injection hy with hy; subst hy; obtain rfl : o = 9 := by omega
    show (if bt (35 :: 35 :: R) 0 = 45 then _ else _) = _
    rw [if_neg (by show ¬ (35 : Int) = 45; decide), if_neg (by show ¬ (35 : Int) = 61; decide), if_neg (by show ¬ (35 : Int) = 63; decide), if_neg (by show ¬ (35 : Int) = 43; decide), if_neg (by decide), if_neg (by show ¬ Lib.hasPrefix (35 :: 35 :: R) [37, 37] = true; rw [hp2h (fun x r e => by injection e with e _; rw [← e]; decide)]; simp), if_pos (by show Lib.hasPrefix (35 :: 35 :: R) [35, 35] = true; rw [hp2]; rfl)]
    rfl
  · cases hy
theorem oper_yes {o : Nat} {y R : Str} (hy : symbol o = some y) (h4 : o ≤ 4) : operator (y ++ R) true = (o, 1) ∧ y.length = 1 := by
  unfold symbol at hy
  unfold operator
  split at hy
  · rename_i h; injection hy with hy; subst hy; obtain rfl : o = 1 := by omega
    exact ⟨rfl, rfl⟩
  split at hy
  · rename_i h; injection hy with hy; subst hy; obtain rfl : o = 2 := by omega
    exact ⟨rfl, rfl⟩
  split at hy
  · rename_i h; injection hy with hy; subst hy; obtain rfl : o = 3 := by omega
    exact ⟨rfl, rfl⟩
  split at hy
  · rename_i h; injection hy with hy; subst hy; obtain rfl : o = 4 := by omega
    exact ⟨rfl, rfl⟩
  split at hy
  · omega
  split at hy
  · omega
  split at hy
  · omega
  split at hy
  · omega
  · cases hy
/-- The first byte of an operator. -/
theorem sym_head {o : Nat} {y : Str} (hy : symbol o = some y) : ∃ x r, y = x :: r ∧ (x = 45 ∧ o = 1 ∨ x = 61 ∨ x = 63 ∧ o = 3 ∨ x = 43 ∨ x = 37 ∨ x = 35 ∧ (o = 8 ∧ r = [] ∨ o = 9 ∧ r = [35])) := by
  unfold symbol at hy
  split at hy
  · injection hy with hy; exact ⟨45, [], hy.symm, .inl ⟨rfl, by omega⟩⟩
  split at hy
  · injection hy with hy; exact ⟨61, [], hy.symm, .inr (.inl rfl)⟩
  split at hy
  · injection hy with hy; exact ⟨63, [], hy.symm, .inr (.inr (.inl ⟨rfl, by omega⟩))⟩
  split at hy
  · injection hy with hy; exact ⟨43, [], hy.symm, .inr (.inr (.inr (.inl rfl)))⟩
  split at hy
  · injection hy with hy; exact ⟨37, [], hy.symm, .inr (.inr (.inr (.inr (.inl rfl))))⟩
  split at hy
  · injection hy with hy; exact ⟨37, [37], hy.symm, .inr (.inr (.inr (.inr (.inl rfl))))⟩
  split at hy
  · injection hy with hy; exact ⟨35, [], hy.symm, .inr (.inr (.inr (.inr (.inr ⟨rfl, .inl ⟨by omega, rfl⟩⟩))))⟩
  split at hy
  · injection hy with hy; exact ⟨35, [35], hy.symm, .inr (.inr (.inr (.inr (.inr ⟨rfl, .inr ⟨by omega, rfl⟩⟩))))⟩
  · cases hy
/-- ${name op parts} -/
theorem step_oper {t y R : Str} {o : Nat} {cl : Bool} {ps : List Part} (hd : c.s.drop st.a = 36 :: 123 :: (t ++ (ysym y cl ++ R))) (h : NameT t) (hy : symbol o = some y) (h4 : cl = true → o ≤ 4) (hb : Behind o cl t R) (hv : c.lv ≠ 32) {j : Nat}
    (hN : N ⟨c.s, c.pl, true, c.lv + 1, st.a⟩ (st.a + 2 + t.length + (ysym y cl).length) = .ok (ps, j)) : next N c st = .ok (add (.mk 4 t o cl ps) (j + 1) st) := by
  rw [dollar_braced hd]
  obtain ⟨h1, -, h3⟩ := LX.drop_head hd
  obtain ⟨g1, -, g3⟩ := LX.drop_head h3
  have g3 : c.s.drop (st.a + 2) = t ++ (ysym y cl ++ R) := g3
  obtain ⟨p1, p2, p3⟩ := drop_parts g3 (by omega)
  obtain ⟨q1, q2, q3⟩ := drop_parts p2 p3
  have h0 : 0 < t.length := List.length_pos_iff.2 h.ne
  obtain ⟨x, y', hxy, hx⟩ := sym_head hy
  have hsep : Sep (ysym y cl ++ R) := by
    unfold ysym
    cases cl with
    | true => exact sep_of (x := 58) _ (by decide)
    | false =>
      rw [hxy]
      refine sep_of (x := x) _ ?_
      rcases hx with ⟨rfl, -⟩ | rfl | ⟨rfl, -⟩ | rfl | rfl | ⟨rfl, -⟩ <;> decide
  have hp := par_in h g3 (by omega) (.inl hsep)
  have hRl : st.a + 2 + t.length + (ysym y cl).length < c.s.length := by
    have := congrArg List.length q2
    rw [List.length_drop] at this
    have hr : 0 < R.length := List.length_pos_iff.2 hb.ne
    omega
  have hb1 : braced1 c st = .ok none := by
    unfold braced1
    by_cases hc : st.a + 2 < c.s.length ∧ bt c.s (st.a + 2) = 35 ∧ st.a + 3 < parameter c.s (st.a + 3)
    · rw [if_pos hc]
      obtain ⟨-, c2, c3⟩ := hc
      rw [bt_at g3 h.ne] at c2
      have ht1 := h.one (by rw [c2]; decide)
      have ht : t = [35] := by
        match t, ht1 with
        | [z], _ =>
          have : (z.toNat : Int) = 35 := c2
          exact congrArg (fun q => [q]) (UInt8.toNat_inj.1 (by have : (35 : UInt8).toNat = 35 := rfl; omega))
      have hd3 : c.s.drop (st.a + 3) = ysym y cl ++ R := by rw [show st.a + 3 = st.a + 2 + t.length by omega]; exact p2
      cases cl with
      | true =>
        exfalso
        obtain ⟨k1, k2, -⟩ := LX.drop_head (show c.s.drop (st.a + 3) = 58 :: (y ++ R) from hd3)
        have : parameter c.s (st.a + 3) = st.a + 3 := by
          unfold parameter
          rw [if_neg (by omega), k2, if_neg (by decide), if_neg (by decide), if_neg (by decide)]
        omega
      | false =>
        have hd4 : c.s.drop (st.a + 3) = x :: (y' ++ R) := by rw [hd3]; unfold ysym; rw [hxy]; rfl
        obtain ⟨k1, k2, k3⟩ := LX.drop_head hd4
        have hop := oper_no hy hb
        have hyl : 0 < y.length := by rw [hxy]; simp
        by_cases ho : one8 (x.toNat : Int) = true
        · have hpar : parameter c.s (st.a + 3) = st.a + 4 := by
            unfold parameter
            rw [if_neg (by omega), k2, if_pos ho]
          have htl : tooLong c.s (st.a + 3) (st.a + 4) = false := by
            unfold tooLong
            rw [show decide (32 < st.a + 4 - (st.a + 3)) = false from decide_eq_false (by omega), Bool.and_false]
          have hlast : ¬ st.a + 4 = c.s.length := by
            have h5 : (ysym y false).length = y.length := rfl
            omega
          have h125 : ¬ bt c.s (st.a + 4) = 125 := by
            intro e
            have k3 : c.s.drop (st.a + 4) = y' ++ R := k3
            rcases hx with ⟨-, ho1⟩ | rfl | ⟨-, ho1⟩ | rfl | rfl | ⟨-, ⟨ho1, hy'⟩ | ⟨ho1, hy'⟩⟩
            · have hyy : y' = [] := by
                have := hy
                rw [ho1] at this
                have h9 : symbol (1 : Nat) = some [45] := rfl
                rw [h9] at this
                injection this with this
                rw [hxy] at this
                injection this with _ this
                exact this.symm
              rw [hyy, List.nil_append] at k3
              match R, hb.none ht rfl (.inl ho1), k3 with
              | [], _, _ => exact hb.ne rfl
              | z :: R', hh, k3 =>
                obtain ⟨-, b2, -⟩ := LX.drop_head k3
                exact hh R' (by rw [show z = 125 from UInt8.toNat_inj.1 (by rw [b2] at e; have : (125 : UInt8).toNat = 125 := rfl; omega)])
            · exact absurd ho (by decide)
            · have hyy : y' = [] := by
                have := hy
                rw [ho1] at this
                have h9 : symbol (3 : Nat) = some [63] := rfl
                rw [h9] at this
                injection this with this
                rw [hxy] at this
                injection this with _ this
                exact this.symm
              rw [hyy, List.nil_append] at k3
              match R, hb.none ht rfl (.inr (.inl ho1)), k3 with
              | [], _, _ => exact hb.ne rfl
              | z :: R', hh, k3 =>
                obtain ⟨-, b2, -⟩ := LX.drop_head k3
                exact hh R' (by rw [show z = 125 from UInt8.toNat_inj.1 (by rw [b2] at e; have : (125 : UInt8).toNat = 125 := rfl; omega)])
            · exact absurd ho (by decide)
            · exact absurd ho (by decide)
            · rw [hy', List.nil_append] at k3
              match R, hb.none ht rfl (.inr (.inr ho1)), k3 with
              | [], _, _ => exact hb.ne rfl
              | z :: R', hh, k3 =>
                obtain ⟨-, b2, -⟩ := LX.drop_head k3
                exact hh R' (by rw [show z = 125 from UInt8.toNat_inj.1 (by rw [b2] at e; have : (125 : UInt8).toNat = 125 := rfl; omega)])
            · rw [hy'] at k3
              obtain ⟨-, b2, -⟩ := LX.drop_head (r := R) k3
              rw [b2] at e
              exact absurd e (by decide)
          have hd5 : c.s.drop (st.a + 3) = y ++ R := hd3
          rw [hpar, htl, if_neg (by simp), if_neg hlast, if_neg h125, hd5, hop, if_neg (by dsimp only; omega)]
        · exfalso
          have hx2 : LX.digit (x.toNat : Int) = false ∧ LX.starts (x.toNat : Int) = false := by
            rcases hx with ⟨rfl, -⟩ | rfl | ⟨rfl, -⟩ | rfl | rfl | ⟨rfl, -⟩ <;> decide
          have : parameter c.s (st.a + 3) = st.a + 3 := by
            unfold parameter
            rw [if_neg (by omega), k2, if_neg ho, if_neg (by rw [hx2.1]; simp), if_neg (by rw [hx2.2]; simp)]
          omega
    · rw [if_neg hc]
  unfold braced
  rw [hb1]
  dsimp only
  unfold braced2
  rw [hp, if_neg (by omega), if_neg (by rw [too_no h g3]; simp), p2]
  have hj : Lib.hasPrefix R [92, 10] = false := by
    match R, hb.join with
    | [], _ => exact hp2n _ _
    | [z], _ => exact hp2a _ _ _
    | z :: w :: R', hh => rw [hp2]; exact decide_eq_false fun e => hh R' (by rw [e.1, e.2])
  cases cl with
  | true =>
    obtain ⟨ho, hyl⟩ := oper_yes (R := R) hy (h4 rfl)
    have hd6 : c.s.drop (st.a + 2 + t.length + 1) = y ++ R := (LX.drop_head (show c.s.drop (st.a + 2 + t.length) = 58 :: (y ++ R) from p2)).2.2
    have hd7 : c.s.drop (st.a + 2 + t.length + 1 + 1) = R := by
      have : (ysym y true).length = 2 := by show (58 :: y).length = 2; rw [List.length_cons, hyl]
      rw [this] at q2
      exact q2
    rw [show ysym y true ++ R = 58 :: (y ++ R) from rfl, if_neg (by rw [hp1]; decide), if_pos (by rw [hp1]; rfl), hd6, ho]
    unfold braced3
    rw [if_neg (by dsimp only; omega), if_neg hv]
    dsimp only
    rw [hd7, hj, if_neg (by simp)]
    have hNN : N ⟨c.s, c.pl, true, c.lv + 1, st.a⟩ (st.a + 2 + t.length + 1 + 1) = .ok (ps, j) := by
      have : (ysym y true).length = 2 := by show (58 :: y).length = 2; rw [List.length_cons, hyl]
      rw [this] at hN
      exact hN
    rw [hNN, p1]
  | false =>
    have ho := oper_no hy hb
    have hyl : 0 < y.length := by rw [hxy]; simp
    have hn1 : Lib.hasPrefix (y ++ R) [125] = false := hp1h fun z r e => by
      rw [hxy] at e
      injection e with e _
      rw [← e]
      rcases hx with ⟨rfl, -⟩ | rfl | ⟨rfl, -⟩ | rfl | rfl | ⟨rfl, -⟩ <;> decide
    have hn2 : Lib.hasPrefix (y ++ R) [58] = false := hp1h fun z r e => by
      rw [hxy] at e
      injection e with e _
      rw [← e]
      rcases hx with ⟨rfl, -⟩ | rfl | ⟨rfl, -⟩ | rfl | rfl | ⟨rfl, -⟩ <;> decide
    have q2 : c.s.drop (st.a + 2 + t.length + y.length) = R := q2
    rw [show ysym y false ++ R = y ++ R from rfl, if_neg (by rw [hn1]; simp), if_neg (by rw [hn2]; simp)]
    rw [ho]
    unfold braced3
    rw [if_neg (by dsimp only; omega), if_neg hv]
    dsimp only
    rw [q2, hj, if_neg (by simp)]
    have hNN : N ⟨c.s, c.pl, true, c.lv + 1, st.a⟩ (st.a + 2 + t.length + y.length) = .ok (ps, j) := hN
    rw [hNN, p1]
end
end WP
end Go.Proofs.YtmgomklpjjkehaaGreat
namespace Go.Proofs.YtmgomklpjjkehaaGreat
open K
namespace WP
/-- Bare text: its bytes; fin: whether a $ may stand at its end. -/
def TX (op fin : Bool) : Str → Prop
  | [] => True
  | [x] => Ch op x ∧ (x = 36 → fin = true)
  | x :: y :: r => Ch op x ∧ (x = 36 → OkD y) ∧ TX op fin (y :: r)
def fin (nx : List Part) : Bool := match nx with | [] => true | .mk k _ _ _ _ :: _ => decide (k = 2 ∨ k = 3)
def notText (nx : List Part) : Prop := ∀ p r, nx = p :: r → p.kind ≠ 1
/-- A text that begins with a ~ that is no part. -/
def NoTil (t : Str) (nx : List Part) : Prop := ∀ r, t = 126 :: r → (r = [] → nx ≠ []) ∧ ∀ y r', r = y :: r' → y ≠ 47
def dpt : Nat → Str → Option Nat
  | d, [] => some d
  | d, x :: r => if x = 40 then dpt (d + 1) r else if x = 41 then (if d = 0 then none else dpt (d - 1) r) else dpt d r
def dps (pl : Nat) (op : Bool) (d : Nat) (t : Str) : Option Nat := if pl = 2 ∧ op = false then dpt d t else some d
def dpP (pl : Nat) (op : Bool) (d : Nat) : Part → Option Nat
  | .mk k t _ _ _ => if k = 1 then dps pl op d t else some d
def oL (pl : Nat) (op : Bool) (ps : List Part) : Str := outL pl op (gpL ps)
mutual
def okP (pl : Nat) (op : Bool) (lv : Nat) (fst : Bool) (nx : List Part) : Part → Prop
  | .mk k t o c ps =>
    (k = 1 ∧ o = 0 ∧ c = false ∧ ps = [] ∧ t ≠ [] ∧ notText nx ∧ (pl = 0 → TX op (fin nx) t ∧ (fst = true → NoTil t nx)))
    ∨ (k = 2 ∧ o = 0 ∧ c = false ∧ ps = [] ∧ pl = 0 ∧ (t = [39] ∨ ∀ j : Nat, t[j]? ≠ some 39))
    ∨ (k = 3 ∧ t = [] ∧ o = 0 ∧ c = false ∧ pl = 0 ∧ lv ≠ 32 ∧ okL 1 false (lv + 1) 0 true ps)
    ∨ (k = 4 ∧ NameT t ∧ ((o = 0 ∧ c = false ∧ ps = []) ∨ (o = 5 ∧ c = false ∧ ps = []) ∨ ((∃ y, symbol o = some y) ∧ (c = true → o ≤ 4) ∧ lv ≠ 32 ∧ Behind o c t (outL pl true (gpL ps) ++ [125]) ∧ okL pl true (lv + 1) 0 true ps)))
    ∨ (k = 5 ∧ o = 0 ∧ c = false ∧ ps = [] ∧ CmdT t)
    ∨ (k = 6 ∧ t = [] ∧ o = 0 ∧ c = false ∧ lv ≠ 32 ∧ okL 2 false (lv + 1) 0 true ps)
    ∨ (k = 7 ∧ t = [] ∧ o = 0 ∧ c = false ∧ ps = [] ∧ pl = 0 ∧ fst = true ∧ (nx = [] ∨ ∃ r rest, nx = .mk 1 (47 :: r) 0 false [] :: rest))
def okL (pl : Nat) (op : Bool) (lv d : Nat) (fst : Bool) : List Part → Prop
  | [] => d = 0
  | p :: r => okP pl op lv fst r p ∧ ∃ d', dpP pl op d p = some d' ∧ okL pl op lv d' false r
end
theorem escT0 (op : Bool) : ∀ t : Str, escT 0 op t = t
  | [] => rfl
  | x :: r => by
    rw [escT, escT0 op r, if_neg]
    · rfl
    · unfold escapes
      split
      · simp
      · split
        · simp
        · split <;> simp
/-- How the source of a part begins that is no text. -/
theorem out_head {pl : Nat} {op : Bool} {lv : Nat} {fst : Bool} {nx : List Part} {p : Part} {n : Int} (h : okP pl op lv fst nx p) (hk : p.kind ≠ 1) : ∃ x r, outP pl op n (gp p) = x :: r ∧ (x = 39 ∧ pl = 0 ∧ p.kind = 2 ∨ x = 34 ∧ pl = 0 ∧ p.kind = 3 ∨ x = 36 ∨ x = 126 ∧ fst = true ∧ pl = 0 ∨ x = 92 ∧ r = [39] ∧ pl = 0 ∧ p.kind = 2) := by
  obtain ⟨k, t, o, c, ps⟩ := p
  rw [okP] at h
  rw [gp, outP]
  rcases h with ⟨rfl, -⟩ | ⟨rfl, -, -, -, hp, ht⟩ | ⟨rfl, -, -, -, hp, -⟩ | ⟨rfl, -, ho⟩ | ⟨rfl, -⟩ | ⟨rfl, -⟩ | ⟨rfl, -, -, -, -, hp, hf, -⟩
  · exact absurd rfl hk
  · rw [if_neg (by omega), if_neg (by omega), if_pos (by rfl)]
    split
    · exact ⟨92, [39], rfl, .inr (.inr (.inr (.inr ⟨rfl, rfl, hp, rfl⟩)))⟩
    · exact ⟨39, _, rfl, .inl ⟨rfl, hp, rfl⟩⟩
  · rw [if_neg (by omega), if_neg (by omega), if_neg (by omega), if_pos (by rfl)]
    exact ⟨34, _, rfl, .inr (.inl ⟨rfl, hp, rfl⟩)⟩
  · rw [if_neg (by omega), if_neg (by omega), if_neg (by omega), if_neg (by omega), if_neg (by omega), if_neg (by omega), if_pos (by rfl)]
    split
    · split
      · exact ⟨36, _, rfl, .inr (.inr (.inl rfl))⟩
      · exact ⟨36, _, rfl, .inr (.inr (.inl rfl))⟩
    · split
      · exact ⟨36, _, rfl, .inr (.inr (.inl rfl))⟩
      · rename_i h0 h5
        rcases ho with ⟨e, -⟩ | ⟨e, -⟩ | ⟨⟨y, hy⟩, -⟩
        · exact absurd (by rw [e]; rfl) h0
        · exact absurd (by rw [e]; rfl) h5
        · rw [hy]
          exact ⟨36, _, rfl, .inr (.inr (.inl rfl))⟩
  · rw [if_neg (by omega), if_neg (by omega), if_neg (by omega), if_neg (by omega), if_pos (by rfl)]
    exact ⟨36, _, rfl, .inr (.inr (.inl rfl))⟩
  · rw [if_neg (by omega), if_neg (by omega), if_neg (by omega), if_neg (by omega), if_neg (by omega), if_pos (by rfl)]
    exact ⟨36, _, rfl, .inr (.inr (.inl rfl))⟩
  · rw [if_pos (by rfl)]
    exact ⟨126, _, rfl, .inr (.inr (.inr (.inl ⟨rfl, hf, hp⟩)))⟩
/-- What stands behind the parts of a context. -/
def TailOK (c : Ctx) (T : Str) : Prop :=
  (c.op = true ∧ ∃ r, T = 125 :: r) ∨ (c.op = false ∧ c.pl = 0 ∧ T = [] ∧ ¬ 0 ≤ c.opn) ∨ (c.op = false ∧ c.pl = 1 ∧ ∃ r, T = 34 :: r) ∨ (c.op = false ∧ c.pl = 2 ∧ ∃ r, T = 41 :: 41 :: r)
theorem tail_end {c : Ctx} {st : St} {T : Str} (h : TailOK c T) (hd : c.s.drop st.a = T) (ha : st.a ≤ c.s.length) (h0 : st.dep = 0) : ended c st = .ok true := by
  unfold ended
  rcases h with ⟨ho, r, rfl⟩ | ⟨ho, hp, rfl, hn⟩ | ⟨ho, hp, r, rfl⟩ | ⟨ho, hp, r, rfl⟩
  · obtain ⟨h1, h2, -⟩ := LX.drop_head hd
    rw [if_neg (by omega), if_pos ho, h2]
    rfl
  · have := congrArg List.length hd
    rw [List.length_drop] at this
    rw [if_pos (by simp at this; omega), if_neg hn]
  · obtain ⟨h1, h2, -⟩ := LX.drop_head hd
    rw [if_neg (by omega), if_neg (by rw [ho]; simp), if_pos hp, h2]
    rfl
  · obtain ⟨h1, h2, h3⟩ := LX.drop_head hd
    obtain ⟨g1, g2, -⟩ := LX.drop_head h3
    rw [if_neg (by omega), if_neg (by rw [ho]; simp), if_neg (by omega), if_pos ⟨hp, by rw [h2]; rfl, h0⟩, if_neg (by omega), if_pos (by rw [g2]; rfl)]
theorem ended36 {c : Ctx} {st : St} {r : Str} (hd : c.s.drop st.a = 36 :: r) : ended c st = .ok false := by
  obtain ⟨h1, h2', -⟩ := LX.drop_head hd
  have h2 : bt c.s st.a = 36 := h2'
  unfold ended
  rw [if_neg (by omega), h2]
  split
  · rfl
  split
  · rfl
  rw [if_neg (by rintro ⟨-, e, -⟩; exact absurd e (by decide))]
/-- The source behind a text's lone $. -/
theorem safe_tail {c : Ctx} {lv d : Nat} {r : List Part} {T : Str} (hp : c.pl = 0) (hr : okL c.pl c.op lv d false r) (hf : fin r = true) (hT : TailOK c T) : SafeD (oL c.pl c.op r ++ T) := by
  intro x r' e
  cases r with
  | nil =>
    have e : T = x :: r' := e
    rcases hT with ⟨ho, q, rfl⟩ | ⟨ho, hp, rfl, hn⟩ | ⟨ho, hp1, q, rfl⟩ | ⟨ho, hp2, q, rfl⟩
    · injection e with e _
      rw [← e]
      exact ⟨⟨by decide, by decide, by decide, by decide, by decide, by decide⟩, fun h => absurd h (by decide)⟩
    · cases e
    · omega
    · omega
  | cons p r2 =>
    rw [okL] at hr
    obtain ⟨k, t, o, cl, ps⟩ := p
    have hk : k = 2 ∨ k = 3 := by unfold fin at hf; exact of_decide_eq_true hf
    obtain ⟨y, q, hq, hx⟩ := out_head (n := nextB (gpL r2)) hr.1 (show k ≠ 1 by omega)
    unfold oL at e
    rw [gpL, outL, hq, List.cons_append, List.cons_append] at e
    injection e with e1 e2
    subst e1
    rcases hx with ⟨rfl, -⟩ | ⟨rfl, -⟩ | rfl | ⟨rfl, hff, -⟩ | ⟨rfl, rfl, -⟩
    · exact ⟨⟨by decide, by decide, by decide, by decide, by decide, by decide⟩, fun h => absurd h (by decide)⟩
    · exact ⟨⟨by decide, by decide, by decide, by decide, by decide, by decide⟩, fun h => absurd h (by decide)⟩
    · exfalso
      have h36 := hr.1
      rw [okP] at h36
      rw [gp, outP] at hq
      rcases hk with rfl | rfl
      · rw [if_neg (by omega), if_neg (by omega), if_pos (by rfl)] at hq
        split at hq
        · injection hq with hq _; exact absurd hq (by decide)
        · injection hq with hq _; exact absurd hq (by decide)
      · rw [if_neg (by omega), if_neg (by omega), if_neg (by omega), if_pos (by rfl)] at hq
        injection hq with hq _; exact absurd hq (by decide)
    · exact absurd hff (by simp)
    · refine ⟨⟨by decide, by decide, by decide, by decide, by decide, by decide⟩, fun _ z w ez => ?_⟩
      rw [ez] at e2
      injection e2 with e2 _
      rw [← e2]
      decide
theorem tx_cons {op f : Bool} {x : UInt8} {t : Str} (h : TX op f (x :: t)) : Ch op x ∧ (x = 36 → (t = [] → f = true) ∧ ∀ y r, t = y :: r → OkD y) ∧ TX op f t := by
  cases t with
  | nil => exact ⟨h.1, fun e => ⟨fun _ => h.2 e, fun y r e2 => by cases e2⟩, trivial⟩
  | cons y r => exact ⟨h.1, fun e => ⟨(fun e2 => by cases e2), fun z r' e2 => by injection e2 with e2 _; rw [← e2]; exact h.2.1 e⟩, h.2.2⟩
theorem tilde_no {c : Ctx} {st : St} {t R : Str} (hd : c.s.drop st.a = 126 :: (t ++ R)) (h92 : ∀ q, t ++ R ≠ 92 :: 10 :: q) (hne : t ++ R ≠ []) (h47 : ∀ q, t ++ R ≠ 47 :: q) (h125 : c.op = true → ∀ q, t ++ R ≠ 125 :: q) : tilde c st = false := by
  obtain ⟨h1, -, h3⟩ := LX.drop_head hd
  unfold tilde tildeAt
  rw [h3]
  have hs : strip c.s.length (t ++ R) = t ++ R := by
    obtain ⟨k, hk⟩ : ∃ k, c.s.length = k + 1 := ⟨c.s.length - 1, by omega⟩
    rw [hk, strip, if_neg]
    match hq : t ++ R, h92 with
    | [], _ => rw [hp2n]; simp
    | [z], _ => rw [hp2a]; simp
    | z :: w :: q, hh => rw [hp2]; intro e; have := of_decide_eq_true e; exact hh q (by rw [this.1, this.2])
  rw [hs]
  have e1 : decide (t ++ R = []) = false := decide_eq_false hne
  match hq : t ++ R with
  | [] => exact absurd hq hne
  | z :: q =>
    rw [hq] at e1 h47 h125
    have e2 : decide (bt (z :: q) 0 = 47) = false := decide_eq_false fun e => by
      have : z = 47 := UInt8.toNat_inj.1 (by have h9 : bt (z :: q) 0 = (z.toNat : Int) := rfl; rw [h9] at e; have : (47 : UInt8).toNat = 47 := rfl; omega)
      exact h47 q (by rw [this])
    have e3 : (c.op && decide (bt (z :: q) 0 = 125)) = false := by
      cases ho : c.op with
      | false => rfl
      | true =>
        rw [Bool.true_and]
        refine decide_eq_false fun e => ?_
        have : z = 125 := UInt8.toNat_inj.1 (by have h9 : bt (z :: q) 0 = (z.toNat : Int) := rfl; rw [h9] at e; have : (125 : UInt8).toNat = 125 := rfl; omega)
        exact h125 ho q (by rw [this])
    rw [e1, e2, e3]
    simp
/-- Bare text is read. -/
theorem text0 {c : Ctx} (hp : c.pl = 0) {R : Str} {f : Bool} (hf : f = true → SafeD R) : ∀ (t : Str) (st : St) (F : Nat), TX c.op f t → c.s.drop st.a = t ++ R → (t ≠ [] → ∀ q, t = 126 :: q → tilde c st = false) → c.s.length - st.a < F → ∃ F', run F c st = run F' c { st with tx := st.tx ++ t, a := st.a + t.length } ∧ c.s.length - (st.a + t.length) < F'
  | [], st, F, _, _, _, hF => ⟨F, by simp, by simpa using hF⟩
  | x :: t, st, F, h, hd, ht, hF => by
    obtain ⟨F, rfl⟩ : ∃ k, F = k + 1 := ⟨F - 1, by omega⟩
    obtain ⟨h1, h2, h3⟩ := tx_cons h
    obtain ⟨d1, d2, d3⟩ := LX.drop_head (r := t ++ R) hd
    have hn : next (nest F) c st = .ok (lit x 1 st) := by
      by_cases h36 : x = 36
      · subst h36
        refine dollar_lone (r := t ++ R) hd ?_
        obtain ⟨g1, g2⟩ := h2 rfl
        cases t with
        | nil => exact hf (g1 rfl)
        | cons y t' =>
          intro z q e
          injection e with e _
          rw [← e]
          exact ⟨g2 y t' rfl, fun e2 => absurd e2 ((tx_cons h3).1.n92)⟩
      · exact next0_char hp hd h1 h36 (fun e => ht (by simp) t (by rw [e]))
    rw [run_succ, ended0 hp hd h1.n125]
    dsimp only
    rw [hn]
    dsimp only
    obtain ⟨F', e1, e2⟩ := text0 hp hf t (lit x 1 st) F h3 d3 (fun _ q _ => by unfold tilde lit; simp) (by show c.s.length - (st.a + 1) < F; omega)
    refine ⟨F', ?_, ?_⟩
    · rw [e1]
      unfold lit
      dsimp only
      rw [List.append_assoc, List.length_cons, Nat.add_assoc, Nat.add_comm 1]
      rfl
    · have : c.s.length - (st.a + 1 + t.length) < F' := e2
      rw [List.length_cons]
      omega
/-- Text within quotes and the like is read. -/
theorem textQ {c : Ctx} (hp : c.pl = 1 ∨ c.pl = 2) {R : Str} : ∀ (t : Str) (st : St) (F d' : Nat), dps c.pl c.op st.dep t = some d' → c.s.drop st.a = escT c.pl c.op t ++ R → c.s.length - st.a < F → ∃ F', run F c st = run F' c ⟨st.a + (escT c.pl c.op t).length, d', st.tx ++ t, st.ls⟩ ∧ c.s.length - (st.a + (escT c.pl c.op t).length) < F'
  | [], st, F, d', h, _, hF => by
    have : st.dep = d' := by unfold dps at h; split at h <;> (injection h)
    refine ⟨F, ?_, by simpa [escT] using hF⟩
    rw [← this]
    simp [escT]
  | x :: t, st, F, d', h, hd, hF => by
    obtain ⟨F, rfl⟩ : ∃ k, F = k + 1 := ⟨F - 1, by omega⟩
    rw [escT] at hd ⊢
    by_cases he : escapes c.pl (x.toNat : Int) c.op = true
    · rw [if_pos he] at hd ⊢
      obtain ⟨g1, g2⟩ := nextQ_esc (N := nest F) (r := escT c.pl c.op t ++ R) (by omega) (by simpa using hd) he
      have d3 : c.s.drop (st.a + 2) = escT c.pl c.op t ++ R := by
        obtain ⟨-, -, k3⟩ := LX.drop_head (r := x :: (escT c.pl c.op t ++ R)) (by simpa using hd)
        exact (LX.drop_head k3).2.2
      have hl : st.a < c.s.length := (LX.drop_head (r := x :: (escT c.pl c.op t ++ R)) (by simpa using hd)).1
      have hdp : dps c.pl c.op st.dep t = some d' := by
        unfold dps at h ⊢
        split at h
        · rename_i hc
          rw [if_pos hc]
          rw [dpt] at h
          have n40 : x ≠ 40 := by rintro rfl; unfold escapes at he; simp at he
          have n41 : x ≠ 41 := by rintro rfl; unfold escapes at he; simp at he
          rw [if_neg n40, if_neg n41] at h
          exact h
        · rename_i hc; rw [if_neg hc]; exact h
      rw [run_succ, g1]
      dsimp only
      rw [g2]
      dsimp only
      obtain ⟨F', e1, e2⟩ := textQ hp t (lit x 2 st) F d' hdp d3 (by show c.s.length - (st.a + 2) < F; omega)
      refine ⟨F', ?_, ?_⟩
      · rw [e1]
        show run F' c ⟨st.a + 2 + (escT c.pl c.op t).length, d', (st.tx ++ [x]) ++ t, st.ls⟩ = _
        rw [List.append_assoc, show ([92, x] ++ escT c.pl c.op t).length = 2 + (escT c.pl c.op t).length by simp; omega, ← Nat.add_assoc]
        rfl
      · have : c.s.length - (st.a + 2 + (escT c.pl c.op t).length) < F' := e2
        rw [show ([92, x] ++ escT c.pl c.op t).length = 2 + (escT c.pl c.op t).length by simp; omega]
        omega
    · have he : escapes c.pl (x.toNat : Int) c.op = false := by simpa using he
      rw [he, if_neg (by simp)] at hd ⊢
      have hd : c.s.drop st.a = x :: (escT c.pl c.op t ++ R) := by simpa using hd
      have hz : c.pl = 2 → c.op = false → x = 41 → st.dep ≠ 0 := fun e1 e2 e3 e4 => by
        unfold dps at h
        rw [if_pos ⟨e1, e2⟩, dpt, e3, if_neg (by decide), if_pos rfl, if_pos e4] at h
        cases h
      obtain ⟨g1, g2⟩ := nextQ_raw (N := nest F) hp hd he hz
      obtain ⟨hl, b2, d3⟩ := LX.drop_head hd
      have hdp : dps c.pl c.op (depth c st) t = some d' := by
        rw [dep_eq c st x b2]
        unfold dps at h ⊢
        split at h
        · rename_i hc
          rw [if_pos hc, if_pos hc]
          rw [dpt] at h
          by_cases h40 : x = 40
          · rw [if_pos h40] at h ⊢; exact h
          rw [if_neg h40] at h ⊢
          by_cases h41 : x = 41
          · rw [if_pos h41] at h ⊢
            split at h
            · cases h
            · exact h
          · rw [if_neg h41] at h ⊢; exact h
        · rename_i hc; rw [if_neg hc, if_neg hc]; exact h
      rw [run_succ, g1]
      dsimp only
      rw [g2]
      dsimp only
      obtain ⟨F', e1, e2⟩ := textQ hp t (lit x 1 { st with dep := depth c st }) F d' hdp d3 (by show c.s.length - (st.a + 1) < F; omega)
      refine ⟨F', ?_, ?_⟩
      · rw [e1]
        show run F' c ⟨st.a + 1 + (escT c.pl c.op t).length, d', (st.tx ++ [x]) ++ t, st.ls⟩ = _
        rw [List.append_assoc, show ([x] ++ escT c.pl c.op t).length = 1 + (escT c.pl c.op t).length by simp; omega, ← Nat.add_assoc]
        rfl
      · have : c.s.length - (st.a + 1 + (escT c.pl c.op t).length) < F' := e2
        rw [show ([x] ++ escT c.pl c.op t).length = 1 + (escT c.pl c.op t).length by simp; omega]
        omega
end WP
end Go.Proofs.YtmgomklpjjkehaaGreat
