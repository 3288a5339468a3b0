/- The words that Quote gives, their parts. -/
import Derived.Test.YtkceenmlhfkkhaaGreatDoorYP
import Derived.Test.YtkceenmlhfkkhaaGreatDoorP23
namespace Go.Proofs.YtkceenmlhfkkhaaGreatDoor
open Go.RowKit K
open WP (GP gp gpL)
namespace WP
theorem escT_zero (op : Bool) : ∀ t : Str, escT 0 op t = t
  | [] => rfl
  | x :: r => by
    rw [escT, escT_zero op r, if_neg]
    · rfl
    · unfold escapes
      split
      · simp
      · split
        · simp
        · split <;> simp
/-- The parts of a quoted form: what they denote, how they are written. -/
structure QP (ps : List Part) (t o : Str) : Prop where
  lit : litA ps = some t
  kind : ∀ p ∈ ps, p.kind = 2
  ne : ps ≠ []
  out : outL 0 false (gpL ps) = o
  bad : badL (gpL ps) = false
theorem QP.one {u : Str} (hu : ∀ k : Nat, u[k]? ≠ some 39) : QP [.mk 2 u 0 false []] u (39 :: (u ++ [39])) := by
  refine ⟨by simp [litA, lit1], fun p hp => by simp at hp; rw [hp]; rfl, by simp, ?_, by simp [gpL, gp, badL, badP]⟩
  have hne : u ≠ [39] := fun e => hu 0 (by rw [e]; rfl)
  simp [gpL, gp, outL, outP, hne]
theorem QP.cons {u t : Str} {ps : List Part} {o : Str} (hu : ∀ k : Nat, u[k]? ≠ some 39) (h : QP ps t o) : QP (.mk 2 u 0 false [] :: .mk 2 [39] 0 false [] :: ps) (u ++ 39 :: t) (39 :: (u ++ 39 :: 92 :: 39 :: o)) := by
  have hne : u ≠ [39] := fun e => hu 0 (by rw [e]; rfl)
  refine ⟨?_, fun p hp => ?_, by simp, ?_, ?_⟩
  · rw [litA, litA, h.lit, lit1, lit1, if_pos (.inr rfl), if_pos (.inr rfl)]
    simp
  · simp only [List.mem_cons] at hp
    rcases hp with rfl | rfl | hp
    · rfl
    · rfl
    · exact h.kind p hp
  · rw [gpL, gpL, outL, outL, h.out]
    simp [gp, outP, hne]
  · rw [gpL, gpL, badL, badL, h.bad]
    simp [gp, badP]
theorem run_quoted2 {c : Ctx} (hp : c.pl = 0) (ho : c.op = false) (hn : ¬ 0 ≤ c.opn) (hl : c.s.length ≤ 16384) : ∀ (n : Nat) (t : Str) (st : St) (f : Nat), t.length ≤ n → st.tx = [] → c.s.drop st.a = 39 :: (P.quoteBody t ++ [39]) → c.s.length - st.a < f →
    ∃ ps st', run f c st = .ok st' ∧ st'.ls = st.ls ++ ps ∧ QP ps t (39 :: (P.quoteBody t ++ [39])) := by
  intro n
  induction n with
  | zero =>
    intro t st f ht htx hd hf
    have : t = [] := List.length_eq_zero_iff.1 (by omega)
    subst this
    obtain ⟨q1, q2, q3, q4⟩ := cls_single (u := []) (r := []) hl hd (fun k => by simp)
    obtain ⟨b1, b2', b3⟩ := LX.drop_head hd
    have b2 : bt c.s st.a = 39 := b2'
    obtain ⟨f, rfl⟩ : ∃ k, f = k + 2 := ⟨f - 2, by omega⟩
    have he : st.a + 0 + 2 = c.s.length := by have := congrArg List.length q3; rw [List.length_drop] at this; simp at this q4 ⊢; omega
    refine ⟨[.mk 2 [] 0 false []], { st with ls := st.ls ++ [.mk 2 [] 0 false []], a := st.a + 2 }, ?_, rfl, QP.one (u := []) (fun k => by simp)⟩
    rw [run_succ, ended_bare hp ho b1]
    dsimp only
    rw [next, if_neg (by rw [b2]; decide), if_neg (by rw [b2]; decide), if_neg (by rw [b2]; decide), if_pos hp, unquoted, if_pos b2, q1]
    dsimp only
    rw [add_nil htx, show cut c.s (st.a + 1) (st.a + ([] : Str).length + 2 - 1) = [] from q2, run_succ, ended, if_pos (by simpa using he), if_neg hn]
    dsimp only
    rw [flush_nil' (by exact htx)]
    rfl
  | succ n ih =>
    intro t st f ht htx hd hf
    obtain ⟨u, r, htu, hu, hr⟩ := split39 t
    obtain ⟨b1, b2', b3⟩ := LX.drop_head hd
    have b2 : bt c.s st.a = 39 := b2'
    rcases hr with rfl | ⟨t', rfl⟩
    · rw [List.append_nil] at htu
      subst htu
      rw [P.quoteBody_none _ hu] at hd ⊢
      obtain ⟨q1, q2, q3, q4⟩ := cls_single (u := t) (r := []) hl hd hu
      obtain ⟨f, rfl⟩ : ∃ k, f = k + 2 := ⟨f - 2, by omega⟩
      have he : st.a + t.length + 2 = c.s.length := by have := congrArg List.length q3; rw [List.length_drop] at this; simp at this; omega
      refine ⟨[.mk 2 t 0 false []], { st with ls := st.ls ++ [.mk 2 t 0 false []], a := st.a + t.length + 2 }, ?_, rfl, QP.one hu⟩
      rw [run_succ, ended_bare hp ho b1]
      dsimp only
      rw [next, if_neg (by rw [b2]; decide), if_neg (by rw [b2]; decide), if_neg (by rw [b2]; decide), if_pos hp, unquoted, if_pos b2, q1]
      dsimp only
      rw [add_nil htx, q2, run_succ, ended, if_pos he, if_neg hn]
      dsimp only
      rw [flush_nil' (by exact htx)]
    · subst htu
      have hqb : 39 :: (P.quoteBody (u ++ 39 :: t') ++ [39]) = 39 :: (u ++ 39 :: (92 :: 39 :: (39 :: (P.quoteBody t' ++ [39])))) := by
        rw [P.quoteBody_append, P.quoteBody_none _ hu]
        have hq : P.quoteBody (39 :: t') = 39 :: 92 :: 39 :: 39 :: P.quoteBody t' := rfl
        rw [hq]
        simp
      rw [hqb] at hd ⊢
      obtain ⟨q1, q2, q3, q4⟩ := cls_single (u := u) hl hd hu
      obtain ⟨e1, e2', e3⟩ := LX.drop_head q3
      obtain ⟨g1, g2', g3⟩ := LX.drop_head e3
      obtain ⟨k1, k2, k3⟩ := LX.drop_head g3
      have e2 : bt c.s (st.a + u.length + 2) = 92 := e2'
      have g2 : bt c.s (st.a + u.length + 2 + 1) = 39 := g2'
      obtain ⟨f, rfl⟩ : ∃ k, f = k + 2 := ⟨f - 2, by omega⟩
      have hlen : (u ++ 39 :: t').length = u.length + (t'.length + 1) := by rw [List.length_append, List.length_cons]
      obtain ⟨ps, st', i1, i2, i3⟩ := ih t' { st with ls := st.ls ++ [.mk 2 u 0 false []] ++ [.mk 2 [39] 0 false []], a := st.a + u.length + 2 + 2 } f (by omega) htx g3 (by dsimp only; omega)
      refine ⟨.mk 2 u 0 false [] :: .mk 2 [39] 0 false [] :: ps, st', ?_, by rw [i2]; simp, i3.cons hu⟩
      rw [run_succ, ended_bare hp ho b1]
      dsimp only
      rw [next, if_neg (by rw [b2]; decide), if_neg (by rw [b2]; decide), if_neg (by rw [b2]; decide), if_pos hp, unquoted, if_pos b2, q1]
      dsimp only
      rw [add_nil htx, q2, run_succ, ended_bare hp ho e1]
      dsimp only
      rw [next, if_pos e2, backslash, if_neg (by dsimp only; omega), if_neg (by rw [g2]; decide), if_pos hp]
      dsimp only
      have hc : cut c.s (st.a + u.length + 2 + 1) (st.a + u.length + 2 + 2) = [39] := by
        have := cut_one c.s (st.a + u.length + 2 + 1) g1
        rw [g2] at this
        exact this
      rw [hc, add_nil (by exact htx)]
      exact i1
/-- Parse at a quoted form: the parts denote the string, are written as the form, and begin with no bare text unless the string is plain. -/
theorem parse_quote2 (s : Str) (hs : s.length ≤ 4000) : ∃ ps, parse (P.quote s) 0 = .ok ps ∧ litA ps = some s ∧ outL 0 false (gpL ps) = P.quote s ∧ badL (gpL ps) = false ∧ ((P.plainB s = true ∧ ps = [.mk 1 s 0 false []]) ∨ ∃ p r, ps = p :: r ∧ ∀ x ∈ ps, x.kind = 2) := by
  have hlen := P.quote_le s
  unfold parse
  rw [if_neg (by omega)]
  cases hpl : P.plainB s with
  | true =>
    have hq : P.quote s = s := by unfold P.quote; rw [if_pos hpl]
    rw [hq]
    unfold P.plainB at hpl
    rw [Bool.and_eq_true] at hpl
    have hne : s ≠ [] := by intro e; rw [e] at hpl; simp at hpl
    obtain ⟨st', h1, h2⟩ := run_plain (c := ⟨s, 0, false, 1, -1⟩) rfl rfl (show ¬ (0 : Int) ≤ -1 by decide) s ⟨0, 0, [], []⟩ (s.length + 1) (by simp) (by simp) hpl.1 (by simp)
    have h3 : st'.ls = [.mk 1 s 0 false []] := by
      rw [h2, flush, if_neg (by simpa using hne)]
      simp
    refine ⟨st'.ls, by rw [h1], ?_, ?_, ?_, .inl ⟨rfl, h3⟩⟩
    · rw [h3]; simp [litA, lit1]
    · rw [h3]; simp [gpL, gp, outL, outP, escT_zero]
    · rw [h3]; simp [gpL, gp, badL, badP]
  | false =>
    have hq : P.quote s = 39 :: (P.quoteBody s ++ [39]) := by unfold P.quote; rw [if_neg (by rw [hpl]; simp)]
    obtain ⟨ps, st', h1, h2, h3⟩ := run_quoted2 (c := ⟨P.quote s, 0, false, 1, -1⟩) rfl rfl (show ¬ (0 : Int) ≤ -1 by decide) (by show (P.quote s).length ≤ 16384; omega) s.length s ⟨0, 0, [], []⟩ ((P.quote s).length + 1) (Nat.le_refl _) rfl (by simpa using hq) (by simp)
    have h4 : st'.ls = ps := by rw [h2]; rfl
    refine ⟨st'.ls, by rw [h1], ?_, ?_, ?_, .inr ?_⟩
    · rw [h4]; exact h3.lit
    · rw [h4, hq]; exact h3.out
    · rw [h4]; exact h3.bad
    · rw [h4]
      cases ps with
      | nil => exact absurd rfl h3.ne
      | cons p r => exact ⟨p, r, rfl, h3.kind⟩
end WP
namespace SP
open WP
theorem plain_lit : ∀ n : Nat, n < 256 → P.pl n = true → ¬ n = 42 ∧ ¬ n = 63 ∧ ¬ n = 91 := by decide +kernel
theorem lit_plain {s : Str} (h : P.plainB s = true) (c : Int) : lit (s, c) := by
  refine .inr fun b hb => ?_
  unfold P.plainB at h
  rw [Bool.and_eq_true, List.all_eq_true] at h
  obtain ⟨h1, h2, h3⟩ := plain_lit b.toNat b.toNat_lt (by simpa [P.iv] using h.1 b hb)
  exact ⟨fun e => h1 (by rw [e]; rfl), fun e => h2 (by rw [e]; rfl), fun e => h3 (by rw [e]; rfl)⟩
/-- The runs of quoted parts. -/
def qruns (ps : List Part) : List Run := ps.map fun p => (p.text, 1)
theorem qruns_text : ∀ (ps : List Part) (s : Str), (∀ p ∈ ps, p.kind = 2) → litA ps = some s → text (qruns ps) = s
  | [], s, _, h => by
    simp only [litA, Option.some.injEq] at h
    subst h
    rfl
  | .mk k t o c qs :: ps, s, hk, h => by
    have h2 : k = 2 := hk _ List.mem_cons_self
    rw [litA, lit1, if_pos (.inr h2)] at h
    cases hr : litA ps with
    | none => rw [hr] at h; simp at h
    | some u =>
      rw [hr] at h
      simp at h
      have := qruns_text ps u (fun p hp => hk p (List.mem_cons_of_mem _ hp)) hr
      rw [← h, ← this]
      rfl
theorem qruns_sum : ∀ (ps : List Part) (s : Str), (∀ p ∈ ps, p.kind = 2) → litA ps = some s → ((qruns ps).map fun r => r.1.length + 1).sum = s.length + ps.length
  | [], s, _, h => by
    simp only [litA, Option.some.injEq] at h
    subst h
    rfl
  | .mk k t o c qs :: ps, s, hk, h => by
    have h2 : k = 2 := hk _ List.mem_cons_self
    rw [litA, lit1, if_pos (.inr h2)] at h
    cases hr : litA ps with
    | none => rw [hr] at h; simp at h
    | some u =>
      rw [hr] at h
      simp at h
      have := qruns_sum ps u (fun p hp => hk p (List.mem_cons_of_mem _ hp)) hr
      rw [← h]
      show t.length + 1 + ((qruns ps).map fun r => r.1.length + 1).sum = (t ++ u).length + (ps.length + 1)
      rw [this, List.length_append]
      omega
end SP
end Go.Proofs.YtkceenmlhfkkhaaGreatDoor
