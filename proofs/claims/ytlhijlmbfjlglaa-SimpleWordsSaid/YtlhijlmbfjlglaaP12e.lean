/- Chapter 12 in plain Lean: quoted words separated by blanks are read as the words of a command. -/
import Derived.Test.YtlhijlmbfjlglaaP12d
import Derived.Test.YtlhijlmbfjlglaaYC
namespace Go.Proofs.Ytlhijlmbfjlglaa
open Go.RowKit K
open WP (GP gp gpL)
namespace LX
theorem plain_bt2 : ∀ n : Nat, n < 256 → P.pl (n : Int) = true → divides (n : Int) = false ∧ blank (n : Int) = false ∧ ¬ (n : Int) = 92 ∧ ¬ (n : Int) = 36 ∧ ¬ (n : Int) = 39 ∧ ¬ (n : Int) = 34 ∧ ¬ (n : Int) = 96 ∧ ¬ (n : Int) = 10 ∧ ¬ (n : Int) = 35 ∧ ¬ n = 61 := by decide +kernel
theorem begins_none {s : Str} {i : Nat} (h1 : ¬ bt s i = 36) (h2 : ¬ bt s i = 92) (h3 : ¬ bt s i = 39) (h4 : ¬ bt s i = 34) (h5 : ¬ bt s i = 96) : begins s i = false := by
  unfold begins
  rw [if_neg h1]
  exact decide_eq_false (by rintro (h | h | h | h) <;> contradiction)
def Ends (rest : Str) : Prop := rest = [] ∨ ∃ r, rest = 32 :: r
theorem word_end {f : Nat} {s rest : Str} {i : Nat} (hd : s.drop i = rest) (_hi : i ≤ s.length) (h : Ends rest) : word f s i = (i, 0) := by
  cases f with
  | zero => rfl
  | succ f =>
    rw [word, if_neg]
    rintro ⟨h1, h2⟩
    rcases h with rfl | ⟨r, rfl⟩
    · have := congrArg List.length hd
      rw [List.length_drop] at this
      simp at this
      omega
    · obtain ⟨-, hb, -⟩ := drop_head hd
      rw [hb] at h2
      exact absurd h2 (by decide)
theorem word_plain {rest : Str} (hr : Ends rest) : ∀ (t s : Str) (i f : Nat), s.drop i = t ++ rest → i ≤ s.length → t.all (fun x => P.pl (P.iv x)) = true → t.length < f → word f s i = (i + t.length, 0)
  | [], s, i, f, hd, hi, _, _ => word_end hd hi hr
  | x :: t, s, i, f, hd, hi, ha, hf => by
    obtain ⟨f, rfl⟩ : ∃ k, f = k + 1 := ⟨f - 1, by omega⟩
    obtain ⟨b1, b2, b3⟩ := drop_head (r := t ++ rest) hd
    rw [List.all_cons, Bool.and_eq_true] at ha
    obtain ⟨p1, p0, p2, p3, p4, p5, p6, -⟩ := plain_bt2 x.toNat x.toNat_lt (by simpa [P.iv] using ha.1)
    rw [word, if_pos ⟨b1, by rw [b2]; exact p1⟩, begins_none (by rw [b2]; exact p3) (by rw [b2]; exact p2) (by rw [b2]; exact p4) (by rw [b2]; exact p5) (by rw [b2]; exact p6), if_neg (by decide), word_plain hr t s (i + 1) f b3 (by omega) ha.2 (by simp at hf; omega), List.length_cons, Nat.add_assoc, Nat.add_comm 1]
theorem con_single {s u r : Str} {a : Nat} {q d : Bool} (h : s.drop a = 39 :: (u ++ 39 :: r)) (hu : ∀ k : Nat, u[k]? ≠ some 39) : construct s a q d = (a + u.length + 2, 0) ∧ begins s a = true ∧ a < s.length ∧ divides (bt s a) = false ∧ s.drop (a + u.length + 2) = r ∧ a + u.length + 2 ≤ s.length := by
  obtain ⟨h1, h2', h3⟩ := drop_head h
  have h2 : bt s a = 39 := h2'
  have hf := WP.find39 h3 hu
  obtain ⟨d1, d2, d3⟩ := WP.drop_parts h3 (by omega)
  obtain ⟨e1, e2, e3⟩ := drop_head d2
  refine ⟨?_, ?_, h1, by rw [h2]; decide, ?_, by omega⟩
  · rw [construct_eq, con, if_neg (by rw [h2]; decide), if_pos h2, hf]
  · unfold begins
    rw [if_neg (by rw [h2]; decide)]
    exact decide_eq_true (.inr (.inl h2))
  · rw [show a + u.length + 2 = a + 1 + u.length + 1 by omega]
    exact e3
theorem con_back {s : Str} {a : Nat} {q d : Bool} (hb : bt s a = 92) (h : a + 1 < s.length) : construct s a q d = (a + 2, 0) ∧ begins s a = true ∧ divides (bt s a) = false := by
  refine ⟨?_, ?_, by rw [hb]; decide⟩
  · rw [construct_eq, con, if_pos hb, if_neg (by omega)]
  · unfold begins
    rw [if_neg (by rw [hb]; decide)]
    exact decide_eq_true (.inl hb)
theorem word_con {f : Nat} {s : Str} {i k : Nat} (hc : construct s i false false = (k, 0)) (hb : begins s i = true) (hl : i < s.length) (hd : divides (bt s i) = false) : word (f + 1) s i = word f s k := by
  rw [word, if_pos ⟨hl, hd⟩, if_pos hb, hc]
  rfl
theorem word_quoted {rest : Str} (hr : Ends rest) : ∀ (n : Nat) (t s : Str) (i f : Nat), t.length ≤ n → s.drop i = 39 :: (P.quoteBody t ++ 39 :: rest) → s.length - i < f → word f s i = (i + (P.quoteBody t).length + 2, 0) := by
  intro n
  induction n with
  | zero =>
    intro t s i f ht hd hf
    have : t = [] := List.length_eq_zero_iff.1 (by omega)
    subst this
    obtain ⟨c1, c2, c3, c4, c5, c6⟩ := con_single (q := false) (d := false) (u := []) hd (fun k => by simp)
    obtain ⟨f, rfl⟩ : ∃ k, f = k + 1 := ⟨f - 1, by omega⟩
    rw [word_con c1 c2 c3 c4]
    exact word_end c5 c6 hr
  | succ n ih =>
    intro t s i f ht hd hf
    obtain ⟨f, rfl⟩ : ∃ k, f = k + 2 := ⟨f - 2, by have := congrArg List.length hd; rw [List.length_drop] at this; simp at this; omega⟩
    obtain ⟨u, r, htu, hu, hru⟩ := WP.split39 t
    rcases hru with rfl | ⟨t', rfl⟩
    · rw [List.append_nil] at htu
      subst htu
      rw [P.quoteBody_none _ hu] at hd ⊢
      obtain ⟨c1, c2, c3, c4, c5, c6⟩ := con_single (q := false) (d := false) hd hu
      rw [word_con c1 c2 c3 c4]
      exact word_end c5 c6 hr
    · subst htu
      have hq : P.quoteBody (u ++ 39 :: t') = u ++ (39 :: 92 :: 39 :: 39 :: P.quoteBody t') := by rw [P.quoteBody_append, P.quoteBody_none _ hu]; rfl
      rw [hq] at hd ⊢
      have hd2 : s.drop i = 39 :: (u ++ 39 :: (92 :: 39 :: (39 :: (P.quoteBody t' ++ 39 :: rest)))) := by rw [hd]; simp
      obtain ⟨c1, c2, c3, c4, c5, c6⟩ := con_single (q := false) (d := false) hd2 hu
      obtain ⟨e1, e2', e3⟩ := drop_head c5
      have e2 : bt s (i + u.length + 2) = 92 := e2'
      obtain ⟨g1, g2, g3⟩ := drop_head e3
      obtain ⟨b1, b2, b3⟩ := con_back (q := false) (d := false) e2 g1
      have hlen : (u ++ 39 :: t').length = u.length + (t'.length + 1) := by rw [List.length_append, List.length_cons]
      rw [word_con c1 c2 c3 c4, word_con b1 b2 e1 b3, ih t' s (i + u.length + 2 + 2) f (by omega) g3 (by omega)]
      simp
      omega
/-- A quoted form is one word. -/
theorem word_quote {q s rest : Str} {p : Nat} (hd : s.drop p = P.quote q ++ rest) (hp : p ≤ s.length) (hr : Ends rest) : wordEnd s p = (p + (P.quote q).length, 0) := by
  unfold wordEnd
  cases hpl : P.plainB q with
  | true =>
    have hq : P.quote q = q := by unfold P.quote; rw [if_pos hpl]
    rw [hq] at hd ⊢
    unfold P.plainB at hpl
    rw [Bool.and_eq_true] at hpl
    exact word_plain hr q s p _ hd hp hpl.1 (by have := congrArg List.length hd; rw [List.length_drop, List.length_append] at this; omega)
  | false =>
    have hq : P.quote q = 39 :: (P.quoteBody q ++ [39]) := by unfold P.quote; rw [if_neg (by rw [hpl]; simp)]
    rw [hq] at hd ⊢
    rw [word_quoted hr q.length q s p _ (Nat.le_refl _) (by rw [hd]; simp) (by omega)]
    simp
    omega
theorem quote_head (q : Str) : ∃ c r, P.quote q = c :: r ∧ divides (c.toNat : Int) = false ∧ blank (c.toNat : Int) = false ∧ ¬ (c.toNat : Int) = 92 ∧ ¬ (c.toNat : Int) = 10 ∧ ¬ (c.toNat : Int) = 35 := by
  cases hpl : P.plainB q with
  | true =>
    have hq : P.quote q = q := by unfold P.quote; rw [if_pos hpl]
    unfold P.plainB at hpl
    rw [Bool.and_eq_true] at hpl
    rw [hq]
    cases q with
    | nil => simp at hpl
    | cons c r =>
      have := hpl.1
      rw [List.all_cons, Bool.and_eq_true] at this
      obtain ⟨p1, p0, p2, p3, p4, p5, p6, p7, p8, -⟩ := plain_bt2 c.toNat c.toNat_lt (by simpa [P.iv] using this.1)
      exact ⟨c, r, rfl, p1, p0, p2, p7, p8⟩
  | false =>
    refine ⟨39, P.quoteBody q ++ [39], by unfold P.quote; rw [if_neg (by rw [hpl]; simp)], by decide, by decide, by decide, by decide, by decide⟩
theorem ops_div : ∀ t ∈ ops, ∃ x r, t = x :: r ∧ divides (x.toNat : Int) = true := by
  intro t ht
  simp only [ops, List.mem_cons, List.not_mem_nil, or_false] at ht
  rcases ht with rfl | rfl | rfl | rfl | rfl | rfl | rfl | rfl | rfl | rfl | rfl | rfl | rfl | rfl | rfl | rfl | rfl | rfl <;> exact ⟨_, _, rfl, by decide⟩
theorem op_none {s r : Str} {p : Nat} {c : UInt8} (hd : s.drop p = c :: r) (h : divides (c.toNat : Int) = false) : opLen s p = 0 := by
  have hz : ∀ n, opFrom s p n = 0 := by
    intro n
    induction n with
    | zero => rfl
    | succ n ih =>
      rw [opFrom, if_neg, ih]
      intro ho
      unfold isOp at ho
      obtain ⟨x, y, hx, hv⟩ := ops_div _ (of_decide_eq_true ho)
      unfold cut at hx
      rw [List.drop_take, hd, show p + (n + 1) - p = n + 1 by omega, List.take_succ_cons] at hx
      injection hx with hx _
      rw [← hx, h] at hv
      exact absurd hv (by decide)
  exact hz _
/-- The next token at a blank ahead of a quoted form. -/
theorem next_quote {q s rest : Str} {a : Nat} (hl : s.length ≤ 16384) (hd : s.drop a = 32 :: (P.quote q ++ rest)) (hr : Ends rest) : next s a = (⟨1, a + 1, a + 1 + (P.quote q).length, P.quote q⟩, 0) ∧ s.drop (a + 1 + (P.quote q).length) = rest ∧ a + 1 + (P.quote q).length ≤ s.length := by
  obtain ⟨h1, h2', h3⟩ := drop_head hd
  have h2 : bt s a = 32 := h2'
  obtain ⟨c, r, hq, q1, q2, q3, q4, q5⟩ := quote_head q
  have h3c : s.drop (a + 1) = c :: (r ++ rest) := by rw [h3, hq]; rfl
  obtain ⟨g1, g2, g3⟩ := drop_head h3c
  obtain ⟨d1, d2, d3⟩ := WP.drop_parts h3 (by omega)
  have hs : skipTo s a = a + 1 := by
    unfold skipTo
    rw [skip, if_pos h1, if_pos (by rw [h2]; decide)]
    obtain ⟨k, hk⟩ : ∃ k, s.length = k + 1 := ⟨s.length - 1, by omega⟩
    rw [hk, skip, if_pos g1, if_neg (by rw [g2, q2]; decide), if_neg, if_neg (by rw [g2]; exact q5)]
    intro hj
    have := (joins_iff.1 hj).1
    rw [g2] at this
    exact q3 this
  refine ⟨?_, d2, d3⟩
  unfold next
  rw [if_neg (by omega), hs]
  unfold nextAt
  rw [if_neg (by omega), if_neg (by rw [g2]; exact q4), op_none h3c q1, if_neg (by omega)]
  unfold nextW
  rw [word_quote h3 (by omega) hr]
  dsimp only
  rw [if_pos rfl, if_neg, tok, d1]
  rintro ⟨e1, e2, -⟩
  rcases hr with rfl | ⟨r', rfl⟩
  · have := congrArg List.length d2
    rw [List.length_drop] at this
    simp at this
    omega
  · obtain ⟨-, hb, -⟩ := drop_head d2
    rw [hb] at e2
    exact absurd e2 (by decide)
theorem next_end {s : Str} (hl : s.length ≤ 16384) : next s s.length = (⟨5, s.length, s.length, []⟩, 0) := by
  unfold next
  rw [if_neg (by omega), skipTo_end]
  unfold nextAt
  rw [if_pos rfl]
end LX
theorem SC.index_none : ∀ s : List UInt8, s.all (fun x => P.pl (P.iv x)) = true → Lib.index s [61] = -1
  | [], _ => rfl
  | x :: r, h => by
    rw [List.all_cons, Bool.and_eq_true] at h
    have hx : x ≠ 61 := by
      rintro rfl
      exact absurd h.1 (by decide)
    rw [SC.index_cons, if_neg hx, SC.index_none r h.2, if_pos rfl]
/-- A quoted form is no assignment. -/
theorem SC.asg_quote (q : List UInt8) : (SC.asg (P.quote q)).2.2 = false := by
  unfold SC.asg
  rw [if_neg]
  rintro ⟨h1, h2⟩
  cases hpl : P.plainB q with
  | true =>
    have hq : P.quote q = q := by unfold P.quote; rw [if_pos hpl]
    rw [hq] at h1
    unfold P.plainB at hpl
    rw [Bool.and_eq_true] at hpl
    unfold Lib.cut at h1
    rw [SC.index_none q hpl.1] at h1
    simp at h1
  | false =>
    have hq : P.quote q = 39 :: (P.quoteBody q ++ [39]) := by unfold P.quote; rw [if_neg (by rw [hpl]; simp)]
    rw [hq] at h1 h2
    unfold Lib.cut at h1 h2
    split at h1
    · rename_i hi
      rw [if_pos hi] at h2
      dsimp only at h2
      cases hm : (Lib.index (39 :: (P.quoteBody q ++ [39])) [61]).toNat with
      | zero => rw [hm] at h2; exact absurd h2 (by simp [P.nameB])
      | succ m =>
        rw [hm, List.take_succ_cons] at h2
        have h3 : P.wd (P.iv 39) = false := by decide
        simp [P.nameB, h3] at h2
    · exact absurd h1 (by simp)
theorem SC.redir_word {s : List UInt8} {z : Int} {t : LX.Tok} (h : LX.next s (LX.clamp s z) = (t, 0)) (h4 : t.kind ≠ 4) (h2 : t.kind ≠ 2) : SC.redir s z = .no := by
  unfold SC.redir
  rw [h]
  dsimp only
  rw [if_pos rfl, if_neg h4]
  unfold SC.redirO
  rw [if_pos]
  unfold SC.desc
  rw [if_neg h2]
/-- The source of quoted words, each behind a blank. -/
def SC.src : List (List UInt8) → List UInt8
  | [] => []
  | q :: r => 32 :: (P.quote q ++ SC.src r)
theorem SC.src_ends (l : List (List UInt8)) : LX.Ends (SC.src l) := by
  cases l with
  | nil => exact .inl rfl
  | cons q r => exact .inr ⟨_, rfl⟩
/-- What a word of a command is good for that stands for a string. -/
structure SC.WQ (ps : List WP.Part) (q : List UInt8) : Prop where
  lit : WP.litA ps = some q
  show_ : (WP.showG (gpL ps)).2 = 0
  parse : WP.parse (P.quote q) 0 = .ok ps
  kinds : ∀ x ∈ gpL ps, x.kind = 1 ∨ x.kind = 2
theorem SC.kinds_gp : ∀ ps : List WP.Part, (∀ x ∈ ps, x.kind = 2) → ∀ x ∈ gpL ps, x.kind = 1 ∨ x.kind = 2
  | [], _, x, h => by rw [gpL] at h; simp at h
  | .mk k t o c pp :: r, hk, x, h => by
    rw [gpL, List.mem_cons] at h
    rcases h with rfl | h
    · have := hk _ (List.mem_cons_self ..)
      simp [WP.Part.kind] at this
      subst this
      exact .inr rfl
    · exact SC.kinds_gp r (fun y hy => hk y (List.mem_cons_of_mem _ hy)) x h
theorem SC.add_quote {q : List UInt8} {n a b : Nat} (hq : q.length ≤ 4000) (hn : n = 0 → SC.resB q = false) : ∃ ps, SC.addR n ⟨1, a, b, P.quote q⟩ = .word ⟨a, ps⟩ ∧ SC.WQ ps q := by
  obtain ⟨ps, h1, h2, h3, h4, h5⟩ := WP.parse_quote2 q hq
  refine ⟨ps, ?_, h2, WP.valid_quote h1 h3 h4, h1, ?_⟩
  rotate_left
  · rcases h5 with ⟨-, rfl⟩ | ⟨-, -, -, hk⟩
    · intro x hx
      simp [gpL, gp] at hx
      rw [hx]
      exact .inl rfl
    · exact SC.kinds_gp ps hk
  unfold SC.addR
  dsimp only
  rw [if_neg (by rintro ⟨e, -⟩; rw [SC.asg_quote] at e; exact absurd e (by decide)), h1]
  unfold SC.addW
  dsimp only
  rw [if_neg]
  rintro ⟨e1, e2⟩
  rcases h5 with ⟨hp, rfl⟩ | ⟨p, r, rfl, hk⟩
  · have hqq : P.quote q = q := by unfold P.quote; rw [if_pos hp]
    have ha := SC.asg_quote q
    rw [hqq] at ha
    simp [gpL, gp, SC.first, WP.GP.kind, WP.GP.text, hn e1, ha] at e2
  · obtain ⟨k, t, o, c, pp⟩ := p
    have hk := hk _ (List.mem_cons_self ..)
    simp [WP.Part.kind] at hk
    subst hk
    simp [gpL, gp, SC.first, WP.GP.kind] at e2
theorem SC.cmd_words {s : List UInt8} (hl : s.length ≤ 16384) : ∀ (rest : List (List UInt8)) (k f n : Nat) (st : SC.St), s.drop k = SC.src rest → k ≤ s.length → st.a = (k : Int) → st.qs = [] → st.rs = [] → st.ds = [] → st.ws.length = n → (∀ q ∈ rest, q.length ≤ 4000) → (rest = [] → 0 < n) → (n = 0 → ∀ q r, rest = q :: r → SC.resB q = false) → rest.length < f →
    ∃ p wd, SC.cmd s f n st = .ok ⟨p, [], st.ws ++ wd, [], [], (s.length : Int)⟩ ∧ wd.length = rest.length ∧ ∀ (i : Nat) (q : List UInt8), rest[i]? = some q → ∃ x : SC.Wd, wd[i]? = some x ∧ SC.WQ x.parts q
  | [], k, f, n, st, hd, hk, ha, hq, hr, hds, hw, _, hn, _, hf => by
    obtain ⟨f, rfl⟩ : ∃ j, f = j + 1 := ⟨f - 1, by omega⟩
    have hke : k = s.length := by have := congrArg List.length hd; rw [List.length_drop] at this; simp [SC.src] at this; omega
    subst hke
    have hnx : LX.next s (LX.clamp s st.a) = (⟨5, s.length, s.length, []⟩, 0) := by rw [ha, LX.clamp_nat hk]; exact LX.next_end hl
    obtain ⟨p, qs, ws, rs, ds, a⟩ := st
    dsimp only at ha hq hr hds hw hnx ⊢
    subst hq hr hds ha
    have hn1 := hn rfl
    refine ⟨p, [], ?_, rfl, fun i q h => by simp at h⟩
    rw [SC.cmd, hnx]
    dsimp only
    rw [if_pos rfl, SC.redir_word hnx (show (5 : Nat) ≠ 4 by decide) (show (5 : Nat) ≠ 2 by decide), SC.stepA, if_neg (show ¬ (5 : Nat) = 1 by decide), if_neg (by omega), if_neg (by omega), List.append_nil]
  | q :: rest, k, f, n, st, hd, hk, ha, hq, hr, hds, hw, hsz, _, hn, hf => by
    obtain ⟨f, rfl⟩ : ∃ j, f = j + 1 := ⟨f - 1, by omega⟩
    obtain ⟨hnx, hd2, hk2⟩ := LX.next_quote hl hd (SC.src_ends rest)
    have hnx2 : LX.next s (LX.clamp s st.a) = (⟨1, k + 1, k + 1 + (P.quote q).length, P.quote q⟩, 0) := by rw [ha, LX.clamp_nat hk]; exact hnx
    obtain ⟨ps, hadd, hwq⟩ := SC.add_quote (n := n) (a := k + 1) (b := k + 1 + (P.quote q).length) (hsz q (List.mem_cons_self ..)) (fun e => hn e q rest rfl)
    obtain ⟨sp, hsp⟩ : ∃ sp, (if n = 0 then { st with pos := ((k + 1 : Nat) : Int) } else st) = sp := ⟨_, rfl⟩
    have hs : sp.qs = [] ∧ sp.rs = [] ∧ sp.ds = [] ∧ sp.ws = st.ws := by rw [← hsp]; split <;> exact ⟨hq, hr, hds, rfl⟩
    obtain ⟨p, wd, h1, h2, h3⟩ := SC.cmd_words hl rest (k + 1 + (P.quote q).length) f (n + 1) { sp with ws := sp.ws ++ [⟨((k + 1 : Nat) : Int), ps⟩], a := ((k + 1 + (P.quote q).length : Nat) : Int) } hd2 hk2 rfl hs.1 hs.2.1 hs.2.2.1 (by show (sp.ws ++ _).length = _; rw [hs.2.2.2, List.length_append, hw]; rfl) (fun x hx => hsz x (List.mem_cons_of_mem _ hx)) (fun _ => by omega) (fun e => by omega) (by simp at hf; omega)
    refine ⟨p, ⟨((k + 1 : Nat) : Int), ps⟩ :: wd, ?_, by rw [List.length_cons, List.length_cons, h2], fun i x hx => ?_⟩
    · rw [SC.cmd, hnx2]
      dsimp only
      rw [if_pos rfl, SC.redir_word hnx2 (show (1 : Nat) ≠ 4 by decide) (show (1 : Nat) ≠ 2 by decide), hsp, SC.stepA, if_pos rfl, hs.2.2.2, hw, hadd, SC.stepB]
      rw [show st.ws ++ (⟨((k + 1 : Nat) : Int), ps⟩ :: wd) = (sp.ws ++ [⟨((k + 1 : Nat) : Int), ps⟩]) ++ wd by rw [hs.2.2.2]; simp]
      exact h1
    · cases i with
      | zero =>
        simp at hx
        subst hx
        exact ⟨_, rfl, hwq⟩
      | succ i => exact h3 i x (by simpa using hx)
/-- The command of quoted words. -/
theorem SC.command_words {l : List (List UInt8)} (hl : (SC.src l).length ≤ 16384) (hne : l ≠ []) (hsz : ∀ q ∈ l, q.length ≤ 4000) (hr : ∀ q r, l = q :: r → SC.resB q = false) :
    ∃ p wd, SC.command (SC.src l) 0 = .ok ⟨p, [], wd, [], [], ((SC.src l).length : Int)⟩ ∧ wd.length = l.length ∧ ∀ (i : Nat) (q : List UInt8), l[i]? = some q → ∃ x : SC.Wd, wd[i]? = some x ∧ SC.WQ x.parts q := by
  have hlen : ∀ l : List (List UInt8), l.length ≤ (SC.src l).length := by
    intro l
    induction l with
    | nil => exact Nat.le_refl _
    | cons q r ih => rw [SC.src, List.length_cons, List.length_cons, List.length_append]; omega
  exact SC.cmd_words (s := SC.src l) hl l 0 ((SC.src l).length + 1) 0 ⟨0, [], [], [], [], 0⟩ rfl (Nat.zero_le _) rfl rfl rfl rfl rfl hsz (fun e => absurd e hne) (fun _ => hr) (by have := hlen l; omega)
end Go.Proofs.Ytlhijlmbfjlglaa
