/- Chapter 12 in plain Lean: the redirections of a command stand where they say. -/
import Derived.Test.YtlhijlmbfjlglaaYD
namespace Go.Proofs.Ytlhijlmbfjlglaa
open Go.RowKit K
open WP (GP gp gpL)
theorem SC.addR_ne {k : Nat} {t : LX.Tok} {p e : Int} (h : SC.addR k t = .err p e) : e ≠ 0 := by
  unfold SC.addR at h
  have hA : ∀ {n q y}, SC.addA t n q y = .err p e → (∀ x, y = .error x → x.2 ≠ 0) → e ≠ 0 := by
    intro n q y hy hx
    cases y with
    | error x =>
      injection hy with _ h2
      rw [← h2]; exact hx x rfl
    | ok ps => exact absurd hy (by simp [SC.addA])
  have hW : ∀ {y}, SC.addW k t y = .err p e → (∀ x, y = .error x → x.2 ≠ 0) → e ≠ 0 := by
    intro y hy hx
    cases y with
    | error x =>
      injection hy with _ h2
      rw [← h2]; exact hx x rfl
    | ok ps =>
      unfold SC.addW at hy
      dsimp only at hy
      split at hy
      · injection hy with _ h2
        rw [← h2]; decide
      · exact absurd hy (by simp)
  have hc : ∀ (u : List UInt8) x, WP.parse u 0 = .error x → x.2 ≠ 0 := fun u x hx => by have := WP.parse_code hx; omega
  split at h
  · exact hA h (hc _)
  · exact hW h (hc _)
theorem LX.next_pos {s : List UInt8} {a : Nat} {t : LX.Tok} (h : LX.next s a = (t, 0)) : t.pos = LX.skipTo s a := by
  unfold LX.next at h
  split at h
  · simp at h
  generalize LX.skipTo s a = p at h ⊢
  unfold LX.nextAt at h
  split at h
  · rename_i hp
    have := congrArg Prod.fst h
    dsimp only at this
    rw [← this]
  split at h
  · have := congrArg Prod.fst h
    dsimp only at this
    rw [← this]
    rfl
  split at h
  · have := congrArg Prod.fst h
    dsimp only at this
    rw [← this]
    rfl
  · unfold LX.nextW at h
    split at h
    · have := congrArg Prod.fst h
      dsimp only at this
      rw [← this]
      rfl
    · rename_i he
      exact absurd (congrArg Prod.snd h) he
/-- At a token's own offset the same token stands. -/
theorem LX.next_again {s : List UInt8} {a : Nat} {t : LX.Tok} (ha : a ≤ s.length) (h : LX.next s a = (t, 0)) : LX.next s (LX.clamp s (t.pos : Int)) = LX.next s a := by
  have hp := LX.next_pos h
  have hle := LX.skipTo_le ha
  rw [hp, LX.clamp_nat hle]
  unfold LX.next
  rw [LX.skipTo_twice ha]
def RR.at : RR → Option Int
  | .plain p _ _ _ _ _ => some p
  | .here p _ _ _ _ _ => some p
  | _ => none
def RR.cnt (L : Nat) : RR → Prop
  | .plain _ _ _ _ _ ps => WP.cntL (gpL ps) ≤ L
  | _ => True
theorem SC.redirW_at {f w : LX.Tok} {fd op : Int} {st : Bool} {p : Int} (h : (SC.redirW f fd op st w).at = some p) : p = f.pos := by
  unfold SC.redirW at h
  split at h
  · split at h
    · exact absurd h (by simp [RR.at])
    · split at h
      · split at h
        · exact absurd h (by simp [RR.at])
        · simpa [RR.at, eq_comm] using h
      · simpa [RR.at, eq_comm] using h
  · exact absurd h (by simp [RR.at])
theorem SC.redirO_at {s : List UInt8} {f o : LX.Tok} {p : Int} (h : (SC.redirO s f o).at = some p) : p = f.pos := by
  unfold SC.redirO at h
  split at h
  · exact absurd h (by simp [RR.at])
  · split at h
    · split at h
      · split at h
        · exact absurd h (by simp [RR.at])
        · exact SC.redirW_at h
      · exact SC.redirW_at h
    · exact absurd h (by simp [RR.at])
theorem SC.redir_at {s : List UInt8} {z p : Int} (h : (SC.redir s z).at = some p) : (LX.next s (LX.clamp s z)).2 = 0 ∧ p = (LX.next s (LX.clamp s z)).1.pos := by
  unfold SC.redir at h
  split at h
  · rename_i hx
    refine ⟨hx, ?_⟩
    split at h
    · split at h
      · exact SC.redirO_at h
      · exact absurd h (by simp [RR.at])
    · exact SC.redirO_at h
  · exact absurd h (by simp [RR.at])
/-- A redirection is found again at its own offset. -/
theorem SC.redir_again {s : List UInt8} {z p : Int} (h : (SC.redir s z).at = some p) : SC.redir s p = SC.redir s z := by
  obtain ⟨h1, h2⟩ := SC.redir_at h
  obtain ⟨t, x, ht⟩ : ∃ t x, LX.next s (LX.clamp s z) = (t, x) := ⟨_, _, rfl⟩
  rw [ht] at h1 h2
  dsimp only at h1 h2
  subst h1 h2
  have := LX.next_again (LX.clamp_le s z) ht
  unfold SC.redir
  rw [this]
theorem SC.redirW_cnt {f w : LX.Tok} {fd op : Int} {st : Bool} {L : Nat} (hl : w.text.length ≤ L) : (SC.redirW f fd op st w).cnt L := by
  unfold SC.redirW
  split
  · cases hp : WP.parse w.text 0 with
    | error x => trivial
    | ok ps =>
      dsimp only
      split
      · cases WP.litA ps with
        | none => trivial
        | some t => trivial
      · have := (WP.parse_wt hp).1
        show WP.cntL (gpL ps) ≤ L
        omega
  · trivial
theorem SC.redirO_cnt {s : List UInt8} {f o : LX.Tok} : (SC.redirO s f o).cnt s.length := by
  unfold SC.redirO
  split
  · trivial
  · obtain ⟨t, x, ht⟩ : ∃ t x, LX.next s (LX.clamp s o.stop) = (t, x) := ⟨_, _, rfl⟩
    rw [ht]
    have htl := W.tok_text ht
    dsimp only
    split
    · split
      · cases P.digitsI f.text with
        | none => trivial
        | some n => exact SC.redirW_cnt htl
      · exact SC.redirW_cnt htl
    · trivial
theorem SC.redir_cnt (s : List UInt8) (z : Int) : (SC.redir s z).cnt s.length := by
  unfold SC.redir
  split
  · split
    · split
      · exact SC.redirO_cnt
      · trivial
    · exact SC.redirO_cnt
  · trivial
/-- The delimiters of the redirection at an offset. -/
def SC.dAt (s : List UInt8) (z : Int) : List SC.Dl :=
  match SC.redir s z with
  | .here _ _ t st q _ => [⟨t, st, q⟩]
  | _ => []
/-- A redirection stands where it says. -/
def SC.GoodR (s : List UInt8) (r : SC.Rd) : Prop :=
  (∃ k, SC.redir s r.pos = .plain r.pos r.fd r.op r.wpos k r.parts) ∨ ∃ t st q k, SC.redir s r.pos = .here r.pos r.fd t st q k ∧ r.op = 8 ∧ r.wpos = 0 ∧ r.parts = []
/-- What a command in the making is good for. -/
structure SC.GoodS (s : List UInt8) (n : Nat) (st : SC.St) : Prop where
  red : ∀ r ∈ st.rs, SC.GoodR s r
  del : st.ds = st.rs.flatMap fun r => SC.dAt s r.pos
  rl : st.rs.length ≤ n
  dl : st.ds.length ≤ n
def SC.GoodC (s : List UInt8) : SC.CR → Prop
  | .err _ e => e ≠ 0
  | .ok st => SC.GoodS s s.length st
theorem SC.GoodS.up {s : List UInt8} {n m : Nat} {st : SC.St} (h : SC.GoodS s n st) (hm : n ≤ m) : SC.GoodS s m st := ⟨h.red, h.del, Nat.le_trans h.rl hm, Nat.le_trans h.dl hm⟩
theorem SC.cmd_good (s : List UInt8) : ∀ (f n : Nat) (st : SC.St), s.length < f + LX.clamp s st.a → n ≤ LX.clamp s st.a → SC.GoodS s n st → SC.GoodC s (SC.cmd s f n st)
  | 0, n, st, hf, _, _ => absurd (LX.clamp_le s st.a) (by omega)
  | f + 1, n, st, hf, hn, hg => by
    have hcl := LX.clamp_le s st.a
    rw [SC.cmd]
    obtain ⟨t, x, ht⟩ : ∃ t x, LX.next s (LX.clamp s st.a) = (t, x) := ⟨_, _, rfl⟩
    rw [ht]
    dsimp only
    by_cases hx : x = 0
    case neg => rw [if_neg hx]; exact hx
    subst hx
    rw [if_pos rfl]
    obtain ⟨sp, hsp⟩ : ∃ sp, (if n = 0 then { st with pos := (t.pos : Int) } else st) = sp := ⟨_, rfl⟩
    rw [hsp]
    have hs : sp.rs = st.rs ∧ sp.ds = st.ds ∧ sp.a = st.a := by rw [← hsp]; split <;> exact ⟨rfl, rfl, rfl⟩
    have hg2 : SC.GoodS s n sp := ⟨by rw [hs.1]; exact hg.red, by rw [hs.1, hs.2.1]; exact hg.del, by rw [hs.1]; exact hg.rl, by rw [hs.2.1]; exact hg.dl⟩
    have hfar := SC.redir_far s st.a
    have hag : ∀ p, (SC.redir s st.a).at = some p → SC.redir s p = SC.redir s st.a := fun p hp => SC.redir_again hp
    clear hsp hs hg
    cases hr : SC.redir s st.a with
    | err p e => rw [hr] at hfar; exact hfar
    | no =>
      rw [SC.stepA]
      by_cases hk : t.kind = 1
      · rw [if_pos hk]
        obtain ⟨j1, j2⟩ := (LX.next_far hcl ht).resolve_left (by omega)
        cases ha : SC.addR sp.ws.length t with
        | err p e => exact SC.addR_ne ha
        | asg y =>
          rw [SC.stepB]
          exact SC.cmd_good s f (n + 1) _ (by dsimp only; rw [LX.clamp_nat j2]; omega) (by dsimp only; rw [LX.clamp_nat j2]; omega) ⟨hg2.red, hg2.del, by have := hg2.rl; show sp.rs.length ≤ _; omega, by have := hg2.dl; show sp.ds.length ≤ _; omega⟩
        | word y =>
          rw [SC.stepB]
          exact SC.cmd_good s f (n + 1) _ (by dsimp only; rw [LX.clamp_nat j2]; omega) (by dsimp only; rw [LX.clamp_nat j2]; omega) ⟨hg2.red, hg2.del, by have := hg2.rl; show sp.rs.length ≤ _; omega, by have := hg2.dl; show sp.ds.length ≤ _; omega⟩
      · rw [if_neg hk]
        split
        · exact SC.miss_ne t
        · exact hg2.up (by omega)
    | plain p fd op wp k ps =>
      rw [hr] at hfar hag
      obtain ⟨j, rfl, j1, j2, -⟩ := hfar
      have ha := hag p rfl
      have hd : SC.dAt s p = [] := by unfold SC.dAt; rw [ha]
      rw [SC.stepA]
      refine SC.cmd_good s f (n + 1) _ (by dsimp only; rw [LX.clamp_nat j2]; omega) (by dsimp only; rw [LX.clamp_nat j2]; omega) ⟨?_, ?_, by have := hg2.rl; simp; omega, by have := hg2.dl; show sp.ds.length ≤ _; omega⟩
      · intro r hm
        rcases List.mem_append.1 hm with h | h
        · exact hg2.red r h
        · rw [List.mem_singleton] at h
          subst h
          exact .inl ⟨_, ha⟩
      · show sp.ds = _
        rw [List.flatMap_append, ← hg2.del]
        simp [hd]
    | here p fd tx stp q k =>
      rw [hr] at hfar hag
      obtain ⟨j, rfl, j1, j2⟩ := hfar
      have ha := hag p rfl
      have hd : SC.dAt s p = [⟨tx, stp, q⟩] := by unfold SC.dAt; rw [ha]
      rw [SC.stepA]
      refine SC.cmd_good s f (n + 1) _ (by dsimp only; rw [LX.clamp_nat j2]; omega) (by dsimp only; rw [LX.clamp_nat j2]; omega) ⟨?_, ?_, by have := hg2.rl; simp; omega, by have := hg2.dl; simp; omega⟩
      · intro r hm
        rcases List.mem_append.1 hm with h | h
        · exact hg2.red r h
        · rw [List.mem_singleton] at h
          subst h
          exact .inr ⟨_, _, _, _, ha, rfl, rfl, rfl⟩
      · show sp.ds ++ _ = _
        rw [List.flatMap_append, ← hg2.del]
        simp [hd]
theorem SC.command_good (s : List UInt8) (z : Int) : SC.GoodC s (SC.command s z) :=
  SC.cmd_good s _ 0 _ (by dsimp only; omega) (Nat.zero_le _) ⟨fun r h => by simp at h, rfl, Nat.le_refl _, Nat.le_refl _⟩
end Go.Proofs.Ytlhijlmbfjlglaa
