/- Chapter 43 in plain Lean: what the laws say: loading what was saved, saving what was loaded, the last line, a line's number. -/
import Derived.Test.YtbiilbdflmiehaaDoorP43b
import Derived.Test.YtbiilbdflmiehaaDoorP43d
namespace Go.Proofs.YtbiilbdflmiehaaDoor
open K
namespace P

theorem digs_append (l m : List UInt8) : ∀ a, digs a (l ++ m) = (digs a l).bind fun z => digs z m := by
  induction l with
  | nil => intro a; rfl
  | cons c r ih =>
    intro a
    rw [List.cons_append, digs, digs]
    split
    · rfl
    · rw [ih]
theorem digs_one (a : Int) (d : Nat) (h : d < 10) : digs a [UInt8.ofNat (48 + d)] = some (a * 10 + d) := by
  have e : (UInt8.ofNat (48 + d)).toNat = 48 + d := by rw [UInt8.toNat_ofNat']; omega
  rw [digs, if_neg (by rw [e]; omega), e, digs]
  congr 1; omega
theorem digs_dec : ∀ n u : Nat, u ≤ n → digs 0 (Lib.decDigits u) = some (u : Int)
  | n, u, h => by
    by_cases hu : u < 10
    · rw [Lib.decDigits_one hu, digs_one 0 u hu]; simp
    · match n, h with
      | 0, h => omega
      | n + 1, h =>
        rw [Lib.decDigits, dif_neg hu, digs_append, digs_dec n (u / 10) (by omega)]
        simp only [Option.bind_some]
        rw [digs_one _ _ (by omega)]
        congr 1; omega
theorem dec_ne (u : Nat) : Lib.decDigits u ≠ [] := by
  rw [Lib.decDigits]; split <;> simp
theorem dec_head : ∀ n u : Nat, u ≤ n → 1 ≤ u → bt (Lib.decDigits u) 0 ≠ 48
  | n, u, h, h1 => by
    by_cases hu : u < 10
    · rw [Lib.decDigits_one hu]
      have e : (UInt8.ofNat (48 + u)).toNat = 48 + u := by rw [UInt8.toNat_ofNat']; omega
      have : bt [UInt8.ofNat (48 + u)] 0 = (((UInt8.ofNat (48 + u)).toNat : Nat) : Int) := rfl
      rw [this, e]; omega
    · match n, h with
      | 0, h => omega
      | n + 1, h =>
        have ih := dec_head n (u / 10) (by omega) (by omega)
        rw [Lib.decDigits, dif_neg hu]
        have hne := dec_ne (u / 10)
        cases hd : Lib.decDigits (u / 10) with
        | nil => exact absurd hd hne
        | cons c r => rw [hd] at ih; exact ih
theorem itoa_pos (n : Int) (h : 0 ≤ n) : Lib.itoa n = Lib.decDigits n.toNat := by unfold Lib.itoa; rw [if_neg (by omega)]
theorem num_itoa (n : Int) (h1 : 1 ≤ n) (h2 : n ≤ 2147483647) : numH (Lib.itoa n) = some n := by
  have hl := itoa_len n (by omega) h2
  unfold numH
  rw [if_neg, itoa_pos n (by omega), digs_dec _ _ (Nat.le_refl _), Int.toNat_of_nonneg (by omega), numCap_ok h2]
  rw [itoa_pos n (by omega)] at hl ⊢
  rintro (h | h | h)
  · exact dec_ne _ h
  · omega
  · exact dec_head _ _ (Nat.le_refl _) (by omega) h
theorem digs_feeds (l : List UInt8) : ∀ a n, digs a l = some n → feeds l = false := by
  induction l with
  | nil => intro a n _; rfl
  | cons c r ih =>
    intro a n h
    rw [digs] at h
    split at h
    · cases h
    · have := ih _ _ h
      simp [feeds] at this ⊢
      exact ⟨by omega, this⟩
theorem itoa_feeds (n : Int) (h : 0 ≤ n) : feeds (Lib.itoa n) = false := by
  rw [itoa_pos n h]; exact digs_feeds _ 0 _ (digs_dec _ _ (Nat.le_refl _))
theorem dec_digs : ∀ (k : Nat) (l : List UInt8) (n : Int), l.length ≤ k → l ≠ [] → bt l 0 ≠ 48 → digs 0 l = some n → Lib.decDigits n.toNat = l ∧ 1 ≤ n
  | 0, l, n, hk, hne, _, _ => absurd (List.eq_nil_of_length_eq_zero (by omega)) hne
  | k + 1, l, n, hk, hne, h0, hd => by
    rcases List.eq_nil_or_concat l with h | ⟨m, c, hmc⟩
    · exact absurd h hne
    · rw [List.concat_eq_append] at hmc
      subst hmc
      rw [digs_append] at hd
      cases hm : digs 0 m with
      | none => rw [hm] at hd; cases hd
      | some z =>
        rw [hm] at hd
        simp only [Option.bind_some] at hd
        rw [digs] at hd
        split at hd
        · cases hd
        · rename_i hc
          simp only [digs, Option.some.injEq] at hd
          have hu : UInt8.ofNat (48 + (c.toNat - 48)) = c := by
            rw [show 48 + (c.toNat - 48) = c.toNat by omega]; simp
          by_cases hmn : m = []
          · subst hmn
            simp [digs] at hm
            subst hm
            have hb : bt ([] ++ [c]) 0 = (c.toNat : Int) := rfl
            rw [hb] at h0
            refine ⟨?_, by omega⟩
            rw [show n.toNat = c.toNat - 48 by omega, Lib.decDigits_one (by omega), hu]
            rfl
          · have hb : bt m 0 ≠ 48 := by
              cases m with
              | nil => exact absurd rfl hmn
              | cons x r => exact h0
            obtain ⟨e, hz⟩ := dec_digs k m z (by simp at hk; omega) hmn hb hm
            refine ⟨?_, by omega⟩
            rw [Lib.decDigits, dif_neg (by omega), show n.toNat / 10 = z.toNat by omega, e, show n.toNat % 10 = c.toNat - 48 by omega, hu]
theorem itoa_num {l : List UInt8} {n : Int} (h : numH l = some n) : Lib.itoa n = l := by
  obtain ⟨p1, p2⟩ := numH_pos h
  unfold numH at h
  split at h
  · cases h
  · rename_i hc
    unfold numCap at h
    cases hd : digs 0 l with
    | none => rw [hd] at h; cases h
    | some m =>
      rw [hd] at h
      simp only [Option.bind_some] at h
      split at h
      · injection h with h
        subst h
        rw [itoa_pos m (by omega)]
        exact (dec_digs l.length l m (Nat.le_refl _) (fun e => hc (.inl e)) (fun e => hc (.inr (.inr e))) hd).1
      · cases h

theorem linesR_save (r : List UInt8) : ∀ (s cur : List UInt8), feeds s = false → linesR cur (s ++ 10 :: r) = (cur ++ s) :: linesR [] r := by
  intro s
  induction s with
  | nil => intro cur _; rw [List.nil_append, linesR, if_pos (by decide)]; simp
  | cons c s ih =>
    intro cur h
    simp [feeds] at h
    have h2 : feeds s = false := by simpa [feeds] using h.2
    rw [List.cons_append, linesR, if_neg (by omega), ih _ h2]
    simp
theorem linesR_all (ls : List (List UInt8)) : (∀ s ∈ ls, feeds s = false) → linesR [] (saveLines ls) = ls := by
  induction ls with
  | nil => intro _; rfl
  | cons s r ih =>
    intro h
    rw [saveLines, linesR_save _ _ _ (h s (by simp)), ih (fun t ht => h t (by simp [ht]))]
    rfl
theorem save_ends (ls : List (List UInt8)) : ∀ x, ∃ t, saveLines (x :: ls) = t ++ [10] := by
  induction ls with
  | nil => intro x; exact ⟨x, by simp [saveLines]⟩
  | cons s r ih => intro x; obtain ⟨t, h⟩ := ih s; exact ⟨x ++ 10 :: t, by rw [saveLines, h]; simp⟩
theorem save_split (t : List UInt8) : saveLines (splitNL t) = t ++ [10] := by
  induction t with
  | nil => rfl
  | cons c r ih =>
    rw [splitNL]
    split
    · rename_i hc
      have : c = 10 := UInt8.toNat_inj.1 (by have : (10 : UInt8).toNat = 10 := rfl; omega)
      rw [saveLines, ih, this]; rfl
    · cases hr : splitNL r with
      | nil => exact absurd hr (splitNL_ne r)
      | cons h t => rw [hr] at ih; simp only [saveLines] at ih ⊢; rw [List.cons_append, ih]; rfl
theorem end_take (t : List UInt8) : (t ++ [10]).take ((t ++ [10]).length - 1) = t ∧ bt (t ++ [10]) ((t ++ [10]).length - 1) = 10 := by
  refine ⟨by simp, ?_⟩
  simp [bt, List.getD_eq_getElem?_getD]
theorem take_end {s : List UInt8} (h1 : s ≠ []) (h2 : bt s (s.length - 1) = 10) : s = s.take (s.length - 1) ++ [10] := by
  have hl := List.length_pos_iff.2 h1
  obtain ⟨x, hx, hb, _⟩ := drop_cons s (s.length - 1) (by omega)
  have hx2 : x = 10 := UInt8.toNat_inj.1 (by have : (10 : UInt8).toNat = 10 := rfl; omega)
  have := List.take_append_drop (s.length - 1) s
  rw [hx, show s.length - 1 + 1 = s.length by omega, List.drop_length, hx2] at this
  exact this.symm
theorem lerr_mem {ls : List (List UInt8)} : ∀ {p}, lerr p ls = 0 → ∀ s ∈ ls, s ≠ [] ∧ feeds s = false ∧ s.length ≤ 4096 := by
  induction ls with
  | nil => intro p _ s hs; simp at hs
  | cons x r ih =>
    intro p h s hs
    rw [lerr] at h
    split at h
    · omega
    · rename_i h1
      split at h
      · omega
      · split at h
        · omega
        · rcases List.mem_cons.1 hs with rfl | hs
          · refine ⟨fun e => h1 (.inl e), ?_, by omega⟩
            cases hf : feeds s
            · rfl
            · exact absurd (.inr hf) h1
          · exact ih h s hs
theorem valid_parts {first : Int} {ls : List (List UInt8)} (h : valid first ls = 0) : ls.length ≤ 128 ∧ 1 ≤ first ∧ first ≤ 2147483519 ∧ lerr none ls = 0 := by
  unfold valid at h
  split at h
  · omega
  · split at h
    · omega
    · exact ⟨by omega, by omega, by omega, h⟩
theorem valid_mk {first : Int} {ls : List (List UInt8)} (h1 : ls.length ≤ 128) (h2 : 1 ≤ first) (h3 : first ≤ 2147483519) (h4 : lerr none ls = 0) : valid first ls = 0 := by
  unfold valid; rw [if_neg (by omega), if_neg (by omega), h4]
theorem load_save {first : Int} {ls : List (List UInt8)} (h : valid first ls = 0) : loadH (saveH first ls) = (first, ls, 0) := by
  obtain ⟨h1, h2, h3, h4⟩ := valid_parts h
  obtain ⟨t, ht⟩ := save_ends ls (Lib.itoa first)
  have hs : saveH first ls = t ++ [10] := ht
  have hall : ∀ s ∈ Lib.itoa first :: ls, feeds s = false := by
    intro s hs
    rcases List.mem_cons.1 hs with rfl | hs
    · exact itoa_feeds _ (by omega)
    · exact (lerr_mem h4 s hs).2.1
  have hsp : splitNL t = Lib.itoa first :: ls := by
    rw [← linesR_split, ← ht, linesR_all _ hall]
  obtain ⟨e1, e2⟩ := end_take t
  unfold loadH
  rw [hs, if_neg (by rintro (h | h); simp at h; exact h e2), e1, hsp]
  simp only [List.headD_cons, List.tail_cons]
  rw [num_itoa first h2 (by omega)]
  simp [h]
theorem save_load {s : List UInt8} {f : Int} {l : List (List UInt8)} (h : loadH s = (f, l, 0)) : saveH f l = s ∧ valid f l = 0 := by
  unfold loadH at h
  split at h
  · cases h
  · rename_i hc
    have h1 : s ≠ [] := fun e => hc (.inl e)
    have h2 : bt s (s.length - 1) = 10 := by
      by_cases e : bt s (s.length - 1) = 10
      · exact e
      · exact absurd (.inr e) hc
    have hs := take_end h1 h2
    generalize s.take (s.length - 1) = t at h hs
    have hsv := save_split t
    cases hsp : splitNL t with
    | nil => exact absurd hsp (splitNL_ne t)
    | cons x r =>
      rw [hsp] at h hsv
      split at h
      · cases h
      · rename_i n hn
        by_cases hv : valid n (x :: r).tail = 0
        · rw [if_pos hv] at h
          injection h with e1 e2
          injection e2 with e2 e3
          subst e1 e2
          refine ⟨?_, hv⟩
          rw [hs, ← hsv]
          unfold saveH
          rw [itoa_num (l := x) hn]; rfl
        · rw [if_neg hv] at h
          injection h with e1 e2
          injection e2 with e2 e3
          exact absurd e3 hv

theorem lerr_weak {ls : List (List UInt8)} {p} (h : lerr p ls = 0) : lerr none ls = 0 := by
  cases ls with
  | nil => rfl
  | cons s r =>
    rw [lerr] at h ⊢
    split at h
    · omega
    · rename_i h1
      rw [if_neg h1]
      split at h
      · omega
      · rename_i h2
        rw [if_neg h2]
        split at h
        · omega
        · rw [if_neg (by simp)]; exact h
theorem lerr_snoc {line : List UInt8} (h1 : line ≠ []) (h2 : feeds line = false) (h3 : line.length ≤ 4096) : ∀ (ls : List (List UInt8)) (p : Option (List UInt8)), lerr p ls = 0 → (ls = [] → p ≠ some line) → (ls ≠ [] → ls.getD (ls.length - 1) [] ≠ line) → lerr p (ls ++ [line]) = 0
  | [], p, _, hp, _ => by
    rw [List.nil_append, lerr, if_neg (by rintro (h | h); exact h1 h; rw [h2] at h; cases h), if_neg (by omega), if_neg (hp rfl)]; rfl
  | s :: r, p, h, _, hl => by
    rw [List.cons_append]
    rw [lerr] at h ⊢
    split at h
    · omega
    · rename_i g1
      rw [if_neg g1]
      split at h
      · omega
      · rename_i g2
        rw [if_neg g2]
        split at h
        · omega
        · rename_i g3
          rw [if_neg g3]
          refine lerr_snoc h1 h2 h3 r (some s) h ?_ ?_
          · intro e e2
            subst e
            injection e2 with e2
            exact hl (by simp) (by simpa using e2)
          · intro e
            have := hl (by simp)
            cases r with
            | nil => exact absurd rfl e
            | cons y q => simpa using this
theorem getD_last_append (ls : List (List UInt8)) (x : List UInt8) : (ls ++ [x]).getD ((ls ++ [x]).length - 1) [] = x := by
  simp [List.getD_eq_getElem?_getD]
/-- What adding does: nothing, or the line is the last one. -/
inductive Added (first : Int) (ls : List (List UInt8)) (line : List UInt8) : Int → List (List UInt8) → Prop
  | same : ls ≠ [] → ls.getD (ls.length - 1) [] = line → Added first ls line first ls
  | more : ls.length < 128 → Added first ls line first (ls ++ [line])
  | moved : ls.length = 128 → first < 2147483519 → Added first ls line (first + 1) ((ls ++ [line]).drop 1)
theorem add_kept {first : Int} {ls : List (List UInt8)} {line : List UInt8} {r : Int × List (List UInt8) × Int} (h : addH first ls line = r) (he : r.2.2 ≠ 0 ∨ line = []) : r.1 = first ∧ r.2.1 = ls := by
  unfold addH at h
  repeat' split at h
  all_goals (subst h; try exact ⟨rfl, rfl⟩)
  all_goals
    rcases he with he | he
    · exact absurd rfl he
    · exact absurd (Or.inl he) (by assumption)
theorem add_new {first : Int} {ls : List (List UInt8)} {line : List UInt8} {f : Int} {l : List (List UInt8)} (hv : valid first ls = 0) (h : addH first ls line = (f, l, 0)) (hne : line ≠ []) : Added first ls line f l ∧ valid f l = 0 := by
  obtain ⟨v1, v2, v3, v4⟩ := valid_parts hv
  unfold addH at h
  split at h
  · cases h
  · rename_i hf
    split at h
    · cases h
    · rename_i h4
      split at h
      · rename_i hc
        injection h with e1 e2
        injection e2 with e2 _
        subst e1 e2
        rcases hc with hc | hc
        · exact absurd hc hne
        · exact ⟨.same hc.1 hc.2, hv⟩
      · rename_i hc
        have hf2 : feeds line = false := by cases h : feeds line; rfl; exact absurd h hf
        have hl : lerr none (ls ++ [line]) = 0 := lerr_snoc hne hf2 (by omega) ls none v4 (by simp) (fun a b => hc (.inr ⟨a, b⟩))
        split at h
        · injection h with e1 e2
          injection e2 with e2 _
          subst e1 e2
          exact ⟨.more (by assumption), valid_mk (by simp; omega) v2 v3 hl⟩
        · split at h
          · cases h
          · injection h with e1 e2
            injection e2 with e2 _
            subst e1 e2
            refine ⟨.moved (by omega) (by omega), valid_mk (by simp; omega) (by omega) (by omega) ?_⟩
            cases ls with
            | nil => simp at *
            | cons s r =>
              simp only [List.cons_append, List.drop_succ_cons, List.drop_zero]
              rw [List.cons_append, lerr] at hl
              split at hl
              · omega
              · split at hl
                · omega
                · split at hl
                  · omega
                  · exact lerr_weak hl
theorem added_last {first : Int} {ls : List (List UInt8)} {line : List UInt8} {f : Int} {l : List (List UInt8)} (h : Added first ls line f l) : l ≠ [] ∧ l.getD (l.length - 1) [] = line ∧ first + ls.length ≤ f + l.length := by
  cases h with
  | same h1 h2 => exact ⟨h1, h2, Int.le_refl _⟩
  | more h1 => exact ⟨by simp, getD_last_append _ _, by simp; omega⟩
  | moved h1 h2 =>
    cases ls with
    | nil => simp at h1
    | cons s r => exact ⟨by simp, getD_last_append r line, by simp; omega⟩
theorem get_last {f : Int} {l : List (List UInt8)} {line : List UInt8} (h1 : l ≠ []) (h2 : l.getD (l.length - 1) [] = line) : getH f l (f + l.length - 1) = (line, 0) ∧ getH f l (f + l.length - 1 + 1) = ([], 8) := by
  have := List.length_pos_iff.2 h1
  unfold getH
  refine ⟨?_, by rw [if_neg (by omega)]⟩
  rw [if_pos (by omega), show (f + (l.length : Int) - 1 - f).toNat = l.length - 1 by omega, h2]
theorem find_last {p : List UInt8 → Bool} {f : Int} {l : List (List UInt8)} {line : List UInt8} (h1 : l ≠ []) (h2 : l.getD (l.length - 1) [] = line) (hp : p line = true) : findH p f l l.length = some (f + l.length - 1) := by
  have := List.length_pos_iff.2 h1
  obtain ⟨k, hk⟩ : ∃ k, l.length = k + 1 := ⟨l.length - 1, by omega⟩
  rw [hk] at h2 ⊢
  rw [findH, show l.getD k [] = line from h2, if_pos hp]
  congr 1; omega
theorem begins_take (l : List UInt8) (i : Nat) : begins l (l.take i) = true := by
  rw [← begins_eq]
  unfold Lib.hasPrefix
  rw [List.isPrefixOf_iff_prefix]
  exact List.take_prefix i l
theorem containsAt_hit (s t : List UInt8) : ∀ (f i k : Nat), i ≤ k → k + t.length ≤ s.length → k < i + f → cut s k (k + t.length) = t → containsAt s t f i = true
  | 0, i, k, h1, _, h3, _ => by omega
  | f + 1, i, k, h1, h2, h3, h4 => by
    rw [containsAt, if_pos (by omega)]
    by_cases e : i = k
    · subst e; rw [h4]; simp
    · rw [containsAt_hit s t f (i + 1) k (by omega) h2 (by omega) h4]; simp
theorem contains_drop (l : List UInt8) (i : Nat) (h : i ≤ l.length) : contains l (l.drop i) = true := by
  unfold contains
  refine containsAt_hit l _ _ 0 i (by omega) (by simp; omega) (by omega) ?_
  rw [cut_drop]
  rw [List.take_of_length_le (Nat.le_refl _)]
/-- A line keeps its number. -/
def Kept (n : Int) (s : List UInt8) (f : Int) (l : List (List UInt8)) : Prop := valid f l = 0 ∧ (f ≤ n → n < f + l.length ∧ l.getD (n - f).toNat [] = s) ∧ (n < f → l.length = 128)
theorem kept_start {f : Int} {l : List (List UInt8)} (h : valid f l = 0) (hne : l ≠ []) : Kept (f + l.length - 1) (l.getD (l.length - 1) []) f l := by
  have := List.length_pos_iff.2 hne
  refine ⟨h, fun _ => ⟨by omega, ?_⟩, fun _ => by omega⟩
  rw [show (f + (l.length : Int) - 1 - f).toNat = l.length - 1 by omega]
theorem kept_add {n : Int} {s : List UInt8} {first : Int} {ls : List (List UInt8)} {line : List UInt8} {f : Int} {l : List (List UInt8)} (h : Kept n s first ls) (ha : addH first ls line = (f, l, 0)) (hne : line ≠ []) : Kept n s f l := by
  obtain ⟨hv, h1, h2⟩ := h
  obtain ⟨had, hv2⟩ := add_new hv ha hne
  refine ⟨hv2, ?_⟩
  cases had with
  | same => exact ⟨h1, h2⟩
  | more h3 =>
    refine ⟨fun h => ?_, fun h => by have := h2 h; omega⟩
    obtain ⟨a, b⟩ := h1 h
    refine ⟨by simp; omega, ?_⟩
    rw [← b, List.getD_eq_getElem?_getD, List.getD_eq_getElem?_getD, List.getElem?_append_left (by omega)]
  | moved h3 h4 =>
    refine ⟨fun h => ?_, fun h => by simp; omega⟩
    obtain ⟨a, b⟩ := h1 (by omega)
    refine ⟨by simp; omega, ?_⟩
    rw [← b, List.getD_eq_getElem?_getD, List.getD_eq_getElem?_getD, List.getElem?_drop, List.getElem?_append_left (by omega)]
    congr 2; omega
theorem kept_get {n : Int} {s : List UInt8} {f : Int} {l : List (List UInt8)} (h : Kept n s f l) : (f ≤ n ∧ getH f l n = (s, 0)) ∨ (n < f ∧ getH f l n = ([], 8) ∧ l.length = 128) := by
  obtain ⟨_, h1, h2⟩ := h
  by_cases hc : f ≤ n
  · obtain ⟨a, b⟩ := h1 hc
    left; refine ⟨hc, ?_⟩; unfold getH; rw [if_pos ⟨hc, a⟩, b]
  · right; refine ⟨by omega, ?_, h2 (by omega)⟩; unfold getH; rw [if_neg (by omega)]
theorem small_total {ls : List (List UInt8)} (h : small ls = true) : ls.length ≤ 140 ∧ total ls ≤ 31000 := by
  have key : ∀ d k m, ls.length - k ≤ d → smallFrom ls m k = true → ls.length ≤ 140 ∧ m + total (ls.drop k) ≤ lim + ls.length - k + (k - ls.length) := by
    intro d
    induction d with
    | zero =>
      intro k m hd h
      rw [smallFrom_stop (by omega)] at h
      simp only [decide_eq_true_eq] at h
      rw [List.drop_eq_nil_of_le (by omega)]
      simp only [total]; omega
    | succ d ih =>
      intro k m hd h
      by_cases hc : k < ls.length ∧ k < 140 ∧ m < lim
      · rw [smallFrom_step hc.1 hc.2.1 hc.2.2] at h
        have := ih (k + 1) _ (by omega) h
        rw [drop_getD hc.1]
        simp only [total]; omega
      · rw [smallFrom_stop hc] at h
        simp only [decide_eq_true_eq] at h
        rw [List.drop_eq_nil_of_le (by omega)]
        simp only [total]; omega
  have := key ls.length 0 0 (by omega) h
  simp at this
  unfold lim at this
  omega
theorem total_mem {ls : List (List UInt8)} {s : List UInt8} (h : s ∈ ls) : s.length ≤ total ls := by
  induction ls with
  | nil => simp at h
  | cons x r ih =>
    simp only [total]
    rcases List.mem_cons.1 h with rfl | h
    · omega
    · have := ih h; omega
theorem saveLines_len (ls : List (List UInt8)) : (saveLines ls).length = total ls := by
  induction ls with
  | nil => rfl
  | cons s r ih => simp [saveLines, total, ih]; omega
end P
end Go.Proofs.YtbiilbdflmiehaaDoor
