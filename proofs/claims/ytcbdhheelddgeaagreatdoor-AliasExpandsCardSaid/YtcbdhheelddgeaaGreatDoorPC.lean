/- Several texts in one: P09j P09k P09l. -/
import Derived.Test.YtcbdhheelddgeaaGreatDoorPB
import Derived.Test.YtcbdhheelddgeaaGreatDoorRC
namespace Go.Proofs.YtcbdhheelddgeaaGreatDoor
open K W AX
namespace AY
theorem runY_more (L : List UInt8 → Option (List UInt8)) (l : List AL.Al) : ∀ (n m : Nat) (y : Y) (res : List UInt8 × Int), n ≤ m → runY L l n y = some res → runY L l m y = some res
 | 0, _, _, _, _, h => by cases h
 | _ + 1, 0, _, _, h, _ => absurd h (by omega)
 | n + 1, m + 1, y, res, h, hr => by
  rw [runY] at hr ⊢
  split
  ·rename_i h1; rw [if_pos h1] at hr; exact hr
  ·rename_i h1
   rw [if_neg h1] at hr
   split
   ·rename_i h2; rw [if_pos h2] at hr; exact hr
   ·rename_i h2
    rw [if_neg h2] at hr
    split
    ·rename_i v hv
     rw [hv] at hr
     dsimp only at hr
     split
     ·rename_i h3; rw [if_pos h3] at hr; exact hr
     ·rename_i h3
      rw [if_neg h3] at hr
      exact runY_more L l n m _ res (by omega) hr
    ·rename_i hv
     rw [hv] at hr
     exact runY_more L l n m _ res (by omega) hr
theorem expandY_more {L : List UInt8 → Option (List UInt8)} {l : List AL.Al} {n m : Nat} {s : List UInt8} {res : List UInt8 × Int} (h : n ≤ m) (hr : expandY L l n s = some res) : expandY L l m s = some res := by
 unfold expandY at hr ⊢
 split
 ·rename_i h1; rw [if_pos h1] at hr; exact hr
 ·rename_i h1
  rw [if_neg h1] at hr
  split
  ·rename_i h2; rw [if_pos h2] at hr; exact hr
  ·rename_i h2
   rw [if_neg h2] at hr
   exact runY_more L l n m _ res h hr
/-- What both give. -/
theorem expand_both (l : List AL.Al) (s : List UInt8) : ∃ res, expandY litP l 1081500 s = some res ∧ expandR litR l 4260100 s = res := by
 obtain ⟨res, h⟩ := expand_some litP l (Nat.le_refl 1081500) s
 exact ⟨res, h, expand_eq lit_same (expandY_more (by omega) h)⟩
end AY
end Go.Proofs.YtcbdhheelddgeaaGreatDoor
namespace Go.Proofs.YtcbdhheelddgeaaGreatDoor
open K W
namespace RP
open WP
def M (ps : List Part) : Nat := cntL (gpL ps) + sizL (gpL ps)
def M1 (p : Part) : Nat := cntP (gp p) + sizP (gp p)
theorem M_nil : M [] = 0 := by unfold M; rw [gpL, cntL, sizL]
theorem M_cons (p : Part) (r : List Part) : M (p :: r) = M1 p + M r := by unfold M M1; rw [gpL, cntL, sizL]; omega
theorem M_one (p : Part) : M [p] = M1 p := by rw [M_cons, M_nil]; omega
theorem M_app : ∀ l r : List Part, M (l ++ r) = M l + M r
 | [], r => by rw [List.nil_append, M_nil]; omega
 | p :: l, r => by rw [List.cons_append, M_cons, M_cons, M_app l r]; omega
theorem M_mk (k : Nat) (t : Str) (o : Nat) (b : Bool) (ps : List Part) : M1 (.mk k t o b ps) = 1 + t.length + M ps := by
 unfold M1 M
 have h := WP.node k t o b ps
 omega
theorem M_withT (l : List Part) (t : Str) : M (withT l t) ≤ M l + 1 + t.length := by
 unfold withT
 split
 ·rename_i u o b ps h
  obtain ⟨h1, h2⟩ : ∃ r, l = r ++ [.mk 1 u o b ps] := ⟨l.dropLast, by
   have hn : l ≠ [] := by rintro rfl; cases h
   rw [List.getLast?_eq_some_getLast hn] at h
   injection h with h
   rw [← h]
   exact (List.dropLast_concat_getLast hn).symm⟩
  subst h2
  rw [List.dropLast_concat, M_app, M_app, M_one, M_one, M_mk, M_mk, M_nil, List.length_append]
  omega
 ·rw [M_app, M_one, M_mk, M_nil]
  omega
theorem M_app1 (l : List Part) (p : Part) : M (app1 l p) ≤ M l + M1 p := by
 obtain ⟨k, t, o, b, ps⟩ := p
 show M (if k = 1 then withT l t else l ++ [.mk k t o b ps]) ≤ _
 by_cases hk : k = 1
 ·rw [if_pos hk, M_mk]
  have := M_withT l t
  omega
 ·rw [if_neg hk, M_app, M_one]
  exact Nat.le_refl _
theorem M_apps : ∀ xs l : List Part, M (apps l xs) ≤ M l + M xs
 | [], l => by rw [M_nil]; exact Nat.le_refl _
 | p :: xs, l => by
  have h1 := M_apps xs (app1 l p)
  have h2 := M_app1 l p
  rw [M_cons]
  show M (apps (app1 l p) xs) ≤ _
  omega
def WN (s : Str) (N : NestR) : Prop := ∀ (c : Ctx) (k : Nat) (ps : List Part) (e : Nat), c.s = s → ¬ (c.pl = 0 ∧ c.op = false) → k ≤ s.length → N c k = some (ps, e) → M ps + 4 * k ≤ 4 * e
theorem leaf_w {k : Nat} {t : Str} {j a : Nat} {xs : List Part} {e : Nat} (h : leaf k t j = some (xs, e)) (hw : 1 + t.length + 4 * a ≤ 4 * j) : M xs + 4 * a ≤ 4 * e := by
 obtain ⟨rfl, rfl⟩ := leaf_eq h
 rw [M_one, M_mk, M_nil]
 omega
theorem braced3_w {N : NestR} {c : Ctx} {a e : Nat} {o : Nat × Bool × Nat} {xs : List Part} {k : Nat} (hN : WN c.s N) (hle : e ≤ c.s.length) (h2 : a + 2 ≤ e) (hz : o.1 ≠ 0 → e + o.2.2 ≤ c.s.length) (h : braced3 N c a e o = some (xs, k)) : M xs + 4 * a ≤ 4 * k := by
 unfold braced3 at h
 by_cases h1 : o.1 = 0
 ·rw [if_pos h1] at h; cases h
 rw [if_neg h1] at h
 by_cases h3 : 32 ≤ c.lv
 ·rw [if_pos h3] at h; cases h
 rw [if_neg h3] at h
 by_cases h4 : LX.joins c.s (e + o.2.2) = true
 ·rw [if_pos h4] at h; cases h
 rw [if_neg h4] at h
 cases hn : N ⟨c.s, c.pl, true, c.lv + 1, a⟩ (e + o.2.2) with
 | none => rw [hn] at h; cases h
 | some r =>
  obtain ⟨ps, j⟩ := r
  rw [hn] at h
  injection h with h
  injection h with h0 h
  have g := hN ⟨c.s, c.pl, true, c.lv + 1, a⟩ _ ps j rfl (fun e => Bool.noConfusion e.2) (hz h1) hn
  rw [← h0, M_one, M_mk, cut_length]
  omega
theorem braced2_w {N : NestR} {c : Ctx} {a e : Nat} {xs : List Part} {k : Nat} (hN : WN c.s N) (h2 : a + 2 ≤ e) (hle : e ≤ c.s.length) (h : braced2 N c a e = some (xs, k)) : M xs + 4 * a ≤ 4 * k := by
 unfold braced2 at h
 by_cases h1 : 32 < e - (a + 2)
 ·rw [if_pos h1] at h; cases h
 rw [if_neg h1] at h
 by_cases h3 : a + 2 = c.s.length ∨ e = c.s.length
 ·rw [if_pos h3] at h; cases h
 rw [if_neg h3] at h
 by_cases h4 : e = a + 2
 ·rw [if_pos h4] at h; cases h
 rw [if_neg h4] at h
 by_cases h5 : bt c.s e = 125
 ·rw [if_pos h5] at h
  exact leaf_w h (by rw [cut_length]; omega)
 rw [if_neg h5] at h
 exact braced3_w hN hle h2 (fun h => (oper_le c.s (by omega) h).1) h
theorem braced_w {N : NestR} {c : Ctx} {a : Nat} {xs : List Part} {k : Nat} (hN : WN c.s N) (h2 : a + 2 ≤ c.s.length) (h : braced N c a = some (xs, k)) : M xs + 4 * a ≤ 4 * k := by
 unfold braced at h
 have hp := param_le c.s h2
 by_cases h1 : a + 2 < c.s.length ∧ bt c.s (a + 2) = 35
 ·rw [if_pos h1] at h
  by_cases h3 : 32 < param c.s (a + 3) - (a + 3)
  ·rw [if_pos h3] at h; cases h
  rw [if_neg h3] at h
  by_cases h4 : a + 3 < param c.s (a + 3) ∧ param c.s (a + 3) < c.s.length ∧ bt c.s (param c.s (a + 3)) = 125
  ·rw [if_pos h4] at h
   injection h with h
   injection h with h0 h
   rw [← h0, M_one, M_mk, cut_length, M_nil]
   omega
  rw [if_neg h4] at h
  by_cases h5 : a + 3 < param c.s (a + 3) ∧ param c.s (a + 3) = c.s.length
  ·rw [if_pos h5] at h; cases h
  rw [if_neg h5] at h
  exact braced2_w hN hp.1 hp.2 h
 ·rw [if_neg h1] at h
  exact braced2_w hN hp.1 hp.2 h
theorem expansion_w {N : NestR} {c : Ctx} {a : Nat} {xs : List Part} {k : Nat} (hN : WN c.s N) (h2 : a + 1 < c.s.length) (h : expansion N c a = some (xs, k)) : M xs + 4 * a ≤ 4 * k := by
 unfold expansion at h
 by_cases h1 : bt c.s (a + 1) = 123
 ·rw [if_pos h1] at h; exact braced_w hN (by omega) h
 rw [if_neg h1] at h
 by_cases h3 : bt c.s (a + 1) = 40 ∧ a + 2 < c.s.length ∧ bt c.s (a + 2) = 40
 ·rw [if_pos h3] at h
  by_cases h4 : 32 ≤ c.lv
  ·rw [if_pos h4] at h; cases h
  rw [if_neg h4] at h
  cases hn : N ⟨c.s, 2, false, c.lv + 1, a⟩ (a + 3) with
  | none => rw [hn] at h; cases h
  | some r =>
   obtain ⟨ps, j⟩ := r
   rw [hn] at h
   injection h with h
   injection h with h0 h
   have g := hN ⟨c.s, 2, false, c.lv + 1, a⟩ _ ps j rfl (fun e => Nat.noConfusion e.1) (by omega) hn
   rw [← h0, M_one, M_mk, List.length_nil]
   omega
 rw [if_neg h3] at h
 by_cases h4 : bt c.s (a + 1) = 40
 ·rw [if_pos h4] at h
  by_cases h5 : (big c.s a (marks c.pl).1 (marks c.pl).2).2 = 0
  ·rw [if_pos h5] at h
   have g := big_good c.s a (marks c.pl).1 (marks c.pl).2 (by omega)
   have g1 := g.2.1 h5
   exact leaf_w h (by rw [cut_length]; omega)
  ·rw [if_neg h5] at h; cases h
 rw [if_neg h4] at h
 by_cases h5 : LX.spec (bt c.s (a + 1)) = true
 ·rw [if_pos h5] at h
  exact leaf_w h (by rw [cut_length]; omega)
 rw [if_neg h5] at h
 by_cases h6 : 32 < LX.nameEnd c.s (a + 1) - a - 1
 ·rw [if_pos h6] at h; cases h
 rw [if_neg h6] at h
 have g1 := LX.nameEnd_ge c.s (a + 1)
 exact leaf_w h (by rw [cut_length]; omega)
theorem part_w {N : NestR} {c : Ctx} {a : Nat} {xs : List Part} {k : Nat} (hN : WN c.s N) (ha : a < c.s.length) (h : part N c a = some (xs, k)) : M xs + 4 * a ≤ 4 * k := by
 unfold part at h
 by_cases h92 : bt c.s a = 92
 ·rw [if_pos h92] at h
  unfold backslash at h
  by_cases h1 : a + 1 = c.s.length
  ·rw [if_pos h1] at h; cases h
  rw [if_neg h1] at h
  split at h
  ·injection h with h
   injection h with h0 h
   rw [← h0, M_nil]
   omega
  split at h
  ·exact leaf_w h (by rw [cut_length]; omega)
  split at h
  ·exact leaf_w h (by rw [cut_length]; omega)
  split at h
  ·cases h
  ·exact leaf_w h (by rw [cut_length]; omega)
 rw [if_neg h92] at h
 by_cases h96 : bt c.s a = 96
 ·rw [if_pos h96] at h
  unfold backquoted at h
  have g := big_good c.s a false false ha
  by_cases h1 : (big c.s a false false).2 = 0
  ·rw [if_pos h1] at h
   unfold command at h
   have g2 := g.2.1 h1
   have l1 := sp_len (unq (c.s.length + 1) c.s (a + 1) ((big c.s a false false).1 - 1))
   have l2 := unq_len (c.s.length + 1) c.s (a + 1) ((big c.s a false false).1 - 1)
   split at h
   ·exact leaf_w h (by omega)
   split at h
   ·exact leaf_w h (by rw [List.length_append, List.length_singleton]; omega)
   ·cases h
  ·rw [if_neg h1] at h; cases h
 rw [if_neg h96] at h
 by_cases h36 : bt c.s a = 36
 ·rw [if_pos h36] at h
  unfold dollar at h
  by_cases h1 : LX.dollar c.s (a + 1) = true
  ·rw [if_pos h1] at h
   refine expansion_w hN ?_ h
   unfold LX.dollar at h1
   rw [Bool.and_eq_true, decide_eq_true_eq] at h1
   exact h1.1
  ·rw [if_neg h1] at h
   split at h
   ·cases h
   ·exact leaf_w h (by rw [List.length_singleton]; omega)
 rw [if_neg h36] at h
 split at h
 ·unfold quoted at h
  by_cases h39 : bt c.s a = 39
  ·rw [if_pos h39] at h
   have g := big_good c.s a false false ha
   by_cases h1 : (big c.s a false false).2 = 0
   ·rw [if_pos h1] at h
    have g2 := g.2.1 h1
    exact leaf_w h (by rw [cut_length]; omega)
   ·rw [if_neg h1] at h; cases h
  ·rw [if_neg h39] at h
   by_cases h4 : 32 ≤ c.lv
   ·rw [if_pos h4] at h; cases h
   rw [if_neg h4] at h
   cases hn : N ⟨c.s, 1, false, c.lv + 1, a⟩ (a + 1) with
   | none => rw [hn] at h; cases h
   | some r =>
    obtain ⟨ps, j⟩ := r
    rw [hn] at h
    injection h with h
    injection h with h0 h
    have g := hN ⟨c.s, 1, false, c.lv + 1, a⟩ _ ps j rfl (fun e => Nat.noConfusion e.1) (by omega) hn
    rw [← h0, M_one, M_mk, List.length_nil]
    omega
 split at h
 ·cases h
 split at h
 ·cases h
 ·exact leaf_w h (by rw [cut_length]; omega)
theorem run_w : ∀ (f : Nat) (c : Ctx) (l : List Part) (a dep : Nat) (ps : List Part) (j : Nat), a ≤ c.s.length → run f c l a dep = some (ps, j) → M ps + 4 * a ≤ M l + 4 * j
 | 0, c, l, a, dep, ps, j, _, h => by rw [run] at h; cases h
 | f + 1, c, l, a, dep, ps, j, ha, h => by
  have hN : WN c.s (nest f) := fun c' k ps e hc hp hk hn => by
   have := run_w f c' [] k 0 ps e (by rw [hc]; exact hk) hn
   rw [M_nil] at this
   omega
  rw [run_succ] at h
  by_cases hlt : a < c.s.length
  ·rw [if_pos hlt] at h
   by_cases he : ends c a dep = true
   ·rw [if_pos he] at h
    by_cases h1 : c.pl = 2 ∧ c.op = false ∧ (a + 1 = c.s.length ∨ ¬ bt c.s (a + 1) = 41)
    ·rw [if_pos h1] at h; cases h
    ·rw [if_neg h1] at h
     injection h with h
     injection h with h0 h
     subst h h0
     exact Nat.le_refl _
   ·rw [if_neg he] at h
    by_cases ht : l = [] ∧ tilde c a = true
    ·rw [if_pos ht] at h
     have := run_w f c _ (a + 1) dep ps j (by omega) h
     rw [M_app, M_one, M_mk, M_nil, List.length_nil] at this
     omega
    ·rw [if_neg ht] at h
     cases hp : part (nest f) c a with
     | none => rw [hp] at h; cases h
     | some r =>
      obtain ⟨xs, k⟩ := r
      rw [hp] at h
      have g := part_good (nest_good f c.s) hlt hp
      have g2 := part_w hN hlt hp
      have g3 := M_apps xs l
      have := run_w f c _ k _ ps j g.2 h
      omega
  ·rw [if_neg hlt] at h
   by_cases h1 : c.pl = 0 ∧ c.op = false
   ·rw [if_pos h1] at h
    injection h with h
    injection h with h0 h
    subst h h0
    exact Nat.le_refl _
   ·rw [if_neg h1] at h; cases h
end RP
theorem AY.rpw : AY.RPW := by
 intro tx ps hl h
 unfold RP.parse at h
 rw [if_neg (by omega)] at h
 cases hr : RP.run (tx.length + 1) ⟨tx, 0, false, 1, 0⟩ [] 0 0 with
 | none => rw [hr] at h; cases h
 | some r =>
  obtain ⟨qs, j⟩ := r
  rw [hr] at h
  injection h with h
  subst h
  have h1 := RP.run_w _ _ _ _ _ _ _ (Nat.zero_le _) hr
  have h2 := RP.run_good _ _ _ _ _ _ _ (Nat.zero_le _) hr
  rw [RP.M_nil] at h1
  have h3 : j ≤ tx.length := h2.2.1
  unfold RP.M at h1
  dsimp only
  omega
end Go.Proofs.YtcbdhheelddgeaaGreatDoor
namespace Go.Proofs.YtcbdhheelddgeaaGreatDoor
open K W AX
namespace AY
/-- What holds ahead of each round. -/
structure RI (l : List AL.Al) (N : Nat) (r : R) : Prop where
 sl : r.s.length ≤ 16384
 at_ : r.at_ ≤ r.s.length
 nd : (r.regs.map G.nm).Nodup
 sub : ∀ g ∈ r.regs, g.nm ∈ l.map Prod.fst
 eb : ∀ g ∈ r.regs, -(30000 * ((N : Int) + 1)) ≤ g.e ∧ g.e ≤ 30000 * ((N : Int) + 1)
 nh : r.heres.length ≤ r.at_
/-- A list without double elements that all lie in another is no longer than that. -/
theorem nodup_le {α : Type} [BEq α] [LawfulBEq α] : ∀ (a b : List α), a.Nodup → (∀ x ∈ a, x ∈ b) → a.length ≤ b.length
 | [], b, _, _ => Nat.zero_le _
 | x :: a, b, hn, h => by
  have hx : x ∈ b := h x List.mem_cons_self
  rw [List.nodup_cons] at hn
  have h1 := nodup_le a (b.erase x) hn.2 (fun y hy => (List.mem_erase_of_ne (fun e => hn.1 (by rw [← e]; exact hy))).2 (h y (List.mem_cons_of_mem _ hy)))
  rw [List.length_erase_of_mem hx] at h1
  have h2 := List.length_pos_of_mem hx
  rw [List.length_cons]
  omega
theorem RI.few {l : List AL.Al} {N : Nat} {r : R} (h : RI l N r) : r.regs.length ≤ l.length := by
 have h2 := nodup_le (r.regs.map G.nm) (l.map Prod.fst) h.nd (fun x hx => by
  obtain ⟨g, hg, rfl⟩ := List.mem_map.1 hx
  exact h.sub g hg)
 rwa [List.length_map, List.length_map] at h2
theorem RI.start (l : List AL.Al) {s : List UInt8} (h : s.length ≤ 16384) : RI l 0 (startR s) :=
 ⟨h, Nat.zero_le _, List.nodup_nil, fun _ h => absurd h (by simp [startR]), fun _ h => absurd h (by simp [startR]), Nat.le_refl _⟩
theorem names_moved (gs : List G) (d : Int) : (movedR gs d).map G.nm = gs.map G.nm := by
 unfold movedR
 rw [List.map_map]
 rfl
theorem RI.step {l : List AL.Al} {N : Nat} {r r' : R} {t : LX.Tok} {L : List UInt8 → Option (List UInt8)} (h : RI l N r) (hz : ∀ a ∈ l, a.1.length ≤ 10000 ∧ a.2.length ≤ 10000) (hx : LX.next r.s r.at_ = (t, 0)) (hs : stepR L l r t 0 = .go r') : RI l (N + 1) r' := by
 unfold stepR at hs
 rw [if_neg (by simp)] at hs
 by_cases h5 : t.kind = 5
 ·rw [if_pos h5] at hs; cases hs
 rw [if_neg h5] at hs
 obtain ⟨g1, g2, -, g4, g5, -⟩ := (LX.next_cases h.at_ hx).resolve_left h5
 have hrn : ((restR t.pos r.regs).map G.nm).Nodup := List.Nodup.sublist (List.Sublist.map _ List.filter_sublist) h.nd
 have hrs : ∀ g ∈ restR t.pos r.regs, g ∈ r.regs := fun g hg => (List.mem_filter.1 hg).1
 have hs1 := h.sl
 have hnh := h.nh
 have hN : (0 : Int) ≤ (N : Int) := by omega
 split at hs
 ·rename_i v hv
  split at hs
  ·cases hs
  rename_i hlen
  injection hs with hs
  subst hs
  unfold valueR at hv
  split at hv
  case isFalse => cases hv
  rename_i hc
  obtain ⟨-, -, hna⟩ := hc
  have hvl : v.length ≤ 10000 := (hz _ (get_mem hv)).2
  refine ⟨by dsimp only; omega, ?_, ?_, ?_, ?_, ?_⟩
  ·dsimp only
   rw [List.length_append, List.length_append, List.length_take]
   omega
  ·dsimp only
   rw [List.map_append, names_moved]
   refine List.nodup_append.2 ⟨hrn, by simp, ?_⟩
   intro a ha b hb hab
   subst hab
   simp only [List.map_cons, List.map_nil, List.mem_singleton] at hb
   subst hb
   obtain ⟨g, hg, hgn⟩ := List.mem_map.1 ha
   have h1 : activeR (restR t.pos r.regs) t.text t.pos = true := by
    unfold activeR
    rw [List.any_eq_true]
    exact ⟨g, hg, by have := (List.mem_filter.1 hg).2; simp only [hgn, beq_self_eq_true, Bool.true_and]; exact this⟩
   rw [h1] at hna
   cases hna
  ·dsimp only
   intro g hg
   rcases List.mem_append.1 hg with hg | hg
   ·have h1 : g.nm ∈ (movedR (restR t.pos r.regs) ((v.length : Int) - ((t.stop : Int) - t.pos))).map G.nm := List.mem_map.2 ⟨g, hg, rfl⟩
    rw [names_moved] at h1
    obtain ⟨g2, hg2, he⟩ := List.mem_map.1 h1
    rw [← he]
    exact h.sub g2 (hrs g2 hg2)
   ·rw [List.mem_singleton] at hg
    subst hg
    exact List.mem_map.2 ⟨_, get_mem hv, rfl⟩
  ·dsimp only
   intro g hg
   rcases List.mem_append.1 hg with hg | hg
   ·unfold movedR at hg
    obtain ⟨g2, hg2, rfl⟩ := List.mem_map.1 hg
    have h1 := h.eb g2 (hrs g2 hg2)
    dsimp only
    omega
   ·rw [List.mem_singleton] at hg
    subst hg
    dsimp only
    omega
  ·dsimp only
   omega
 ·rename_i hv
  split at hs
  ·injection hs with hs
   subst hs
   refine ⟨hs1, ?_, hrn, fun g hg => h.sub g (hrs g hg), fun g hg => ?_, ?_⟩
   ·exact (skipL_good _ _ _ g5).2
   ·have h1 := h.eb g (hrs g hg)
    omega
   ·exact Nat.zero_le _
  ·injection hs with hs
   subst hs
   refine ⟨hs1, g5, hrn, fun g hg => h.sub g (hrs g hg), fun g hg => ?_, ?_⟩
   ·have h1 := h.eb g (hrs g hg)
    omega
   ·dsimp only
    unfold linesOf
    split
    ·split
     ·rw [List.length_append, List.length_singleton]; omega
     ·omega
    ·omega
end AY
end Go.Proofs.YtcbdhheelddgeaaGreatDoor
