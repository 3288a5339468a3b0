/- Several texts in one: P08i P08j P08k P08l P08m P08n P08u P08v. -/
import Derived.Test.YtmgomklpjjkehaaGreatYR
import Derived.Test.YtmgomklpjjkehaaGreatYP
namespace Go.Proofs.YtmgomklpjjkehaaGreat
open K
namespace WP
theorem flush_dep (st : St) : (flush st).dep = st.dep := by unfold flush; split <;> rfl
theorem flush_tx (st : St) : (flush st).tx = [] := by
  unfold flush
  split
  · assumption
  · rfl
theorem flush_at (st : St) : (flush st).a = st.a := by unfold flush; split <;> rfl
theorem add_fields (p : Part) (k : Nat) (st : St) : (add p k st).a = k ∧ (add p k st).dep = st.dep ∧ (add p k st).tx = [] ∧ (add p k st).ls = (flush st).ls ++ [p] := by
  unfold add
  exact ⟨rfl, flush_dep st, flush_tx st, rfl⟩
theorem flush_ls0 {st : St} (h : st.tx = []) : (flush st).ls = st.ls := by unfold flush; rw [if_pos h]
theorem flush_ls1 {st : St} (h : st.tx ≠ []) : (flush st).ls = st.ls ++ [.mk 1 st.tx 0 false []] := by unfold flush; rw [if_neg h]
/-- What follows a part whose source is a name without braces. -/
theorem sep_tail {c : Ctx} {lv d : Nat} {r : List Part} {T : Str} (hr : okL c.pl c.op lv d false r) (hT : TailOK c T) (hn : LX.starts (nextB (gpL r)) = false ∧ LX.digit (nextB (gpL r)) = false) : Sep (oL c.pl c.op r ++ T) := by
  intro x r' e
  cases r with
  | nil =>
    have e : T = x :: r' := e
    rcases hT with ⟨-, q, rfl⟩ | ⟨-, -, rfl, -⟩ | ⟨-, -, q, rfl⟩ | ⟨-, -, q, rfl⟩
    · injection e with e _; rw [← e]; decide
    · cases e
    · injection e with e _; rw [← e]; decide
    · injection e with e _; rw [← e]; decide
  | cons p r2 =>
    rw [okL] at hr
    by_cases hk : p.kind = 1
    · obtain ⟨k, t, o, cl, ps⟩ := p
      have hk : k = 1 := hk
      subst hk
      have h1 := hr.1
      rw [okP] at h1
      have ht : t ≠ [] := by
        rcases h1 with ⟨-, -, -, -, h, -⟩ | ⟨h, -⟩ | ⟨h, -⟩ | ⟨h, -⟩ | ⟨h, -⟩ | ⟨h, -⟩ | ⟨h, -⟩
        · exact h
        all_goals exact absurd h (by decide)
      cases t with
      | nil => exact absurd rfl ht
      | cons z t' =>
        unfold oL at e
        rw [gpL, gp, outL, outP, if_neg (by omega), if_pos (by rfl), escT] at e
        have hz : LX.starts (z.toNat : Int) = false ∧ LX.digit (z.toNat : Int) = false := by
          have : nextB (gpL (.mk 1 (z :: t') o cl ps :: r2)) = (z.toNat : Int) := by rw [gpL, gp, nextB]; rfl
          rw [this] at hn
          exact hn
        split at e
        · simp only [List.cons_append, List.nil_append] at e
          injection e with e _
          rw [← e]
          decide
        · simp only [List.cons_append, List.nil_append] at e
          injection e with e _
          rw [← e]
          exact hz
    · obtain ⟨y, q, hq, hx⟩ := out_head (n := nextB (gpL r2)) hr.1 hk
      unfold oL at e
      rw [gpL, outL, hq, List.cons_append, List.cons_append] at e
      injection e with e1 _
      subst e1
      rcases hx with ⟨rfl, -⟩ | ⟨rfl, -⟩ | rfl | ⟨rfl, -⟩ | ⟨rfl, -⟩ <;> decide
theorem behind_more {o : Nat} {cl : Bool} {t R0 q : Str} (h : Behind o cl t (R0 ++ [125])) : Behind o cl t (R0 ++ 125 :: q) := by
  have e : R0 ++ 125 :: q = (R0 ++ [125]) ++ q := by simp
  have hne := h.ne
  rw [e]
  refine ⟨fun ho r e2 => ?_, fun ho r e2 => ?_, fun r e2 => ?_, fun a b c r e2 => ?_, fun e2 => hne (List.append_eq_nil_iff.1 e2).1⟩
  · cases hR : R0 ++ [125] with
    | nil => exact hne hR
    | cons x r' => rw [hR] at e2; injection e2 with e2 _; exact h.pct ho r' (by rw [hR, e2])
  · cases hR : R0 ++ [125] with
    | nil => exact hne hR
    | cons x r' => rw [hR] at e2; injection e2 with e2 _; exact h.hash ho r' (by rw [hR, e2])
  · match hR : R0 ++ [125] with
    | [] => exact hne hR
    | [x] =>
      have hx : x = 125 := by
        cases R0 with
        | nil => injection hR with hR _; exact hR.symm
        | cons y r' => injection hR with _ hR; simp at hR
      rw [hR] at e2
      injection e2 with e2 _
      rw [hx] at e2
      exact absurd e2 (by decide)
    | x :: y :: r' =>
      rw [hR] at e2
      injection e2 with e2 e3
      injection e3 with e3 _
      exact h.join r' (by rw [hR, e2, e3])
  · cases hR : R0 ++ [125] with
    | nil => exact hne hR
    | cons x r' => rw [hR] at e2; injection e2 with e2 _; exact h.none a b c r' (by rw [hR, e2])
theorem out4_0 (pl : Nat) (op c : Bool) (nx : Int) (t : Str) (ps : List GP) : outP pl op nx (.mk 4 t 0 c ps) = if braces t nx = true then 36 :: 123 :: (t ++ [125]) else 36 :: t := by
  rw [outP, if_neg (by omega), if_neg (by omega), if_neg (by omega), if_neg (by omega), if_neg (by omega), if_neg (by omega), if_pos rfl, if_pos rfl]
theorem out4_5 (pl : Nat) (op c : Bool) (nx : Int) (t : Str) (ps : List GP) : outP pl op nx (.mk 4 t 5 c ps) = 36 :: 123 :: 35 :: (t ++ [125]) := by
  rw [outP, if_neg (by omega), if_neg (by omega), if_neg (by omega), if_neg (by omega), if_neg (by omega), if_neg (by omega), if_pos rfl, if_neg (by omega), if_pos rfl]
theorem out4_s (pl : Nat) (op c : Bool) (nx : Int) (t : Str) (ps : List GP) {o : Int} {y : Str} (hy : symbol o = some y) : outP pl op nx (.mk 4 t o c ps) = 36 :: 123 :: (t ++ (ysym y c ++ (outL pl true ps ++ [125]))) := by
  have h0 : ¬ o = 0 := fun e => by rw [e, show symbol 0 = none from rfl] at hy; cases hy
  have h5 : ¬ o = 5 := fun e => by rw [e, show symbol 5 = none from rfl] at hy; cases hy
  rw [outP, if_neg (by omega), if_neg (by omega), if_neg (by omega), if_neg (by omega), if_neg (by omega), if_neg (by omega), if_pos rfl, if_neg h0, if_neg h5, hy]
  rfl
/-- The parts are read from their source. -/
def Reads (n : Nat) : Prop := ∀ (ps : List Part) (c : Ctx) (st : St) (T : Str) (F : Nat) (fst : Bool), cntL (gpL ps) ≤ n → c.s.length ≤ 16384 → c.pl ≤ 2 → okL c.pl c.op c.lv st.dep fst ps → (fst = false → ¬ (st.ls = [] ∧ st.tx = [])) → (fst = true → st.ls = [] ∧ st.tx = []) → (st.tx ≠ [] → notText ps) → c.s.drop st.a = oL c.pl c.op ps ++ T → st.a ≤ c.s.length → TailOK c T → c.s.length - st.a < F →
  ∃ st', run F c st = .ok st' ∧ st'.ls = (flush st).ls ++ ps ∧ st'.a = st.a + (oL c.pl c.op ps).length
/-- Behind a part. -/
theorem reads_go {n : Nat} (ih : Reads n) {p : Part} {r : List Part} {c : Ctx} {st : St} {T : Str} {F k d' : Nat} (hn : cntL (gpL r) ≤ n) (hl : c.s.length ≤ 16384) (hpl : c.pl ≤ 2) (hd' : st.dep = d') (hr : okL c.pl c.op c.lv d' false r) (hT : TailOK c T)
    (he : ended c st = .ok false) (hs : next (nest F) c st = .ok (add p k st)) (hd : c.s.drop k = oL c.pl c.op r ++ T) (hk : k ≤ c.s.length) (hka : st.a < k) (hF : c.s.length - st.a < F + 1) (ho : (oL c.pl c.op (p :: r)).length = k - st.a + (oL c.pl c.op r).length) :
    ∃ st', run (F + 1) c st = .ok st' ∧ st'.ls = (flush st).ls ++ p :: r ∧ st'.a = st.a + (oL c.pl c.op (p :: r)).length := by
  obtain ⟨f1, f2, f3, f4⟩ := add_fields p k st
  subst hd'
  obtain ⟨st', e1, e2, e3⟩ := ih r c (add p k st) T F false hn hl hpl (by rw [f2]; exact hr) (fun _ h => by rw [f4] at h; simp at h) (fun h => by cases h) (fun h => absurd f3 h) (by rw [f1]; exact hd) (by rw [f1]; exact hk) hT (by rw [f1]; omega)
  refine ⟨st', ?_, ?_, ?_⟩
  · rw [run_succ, he]
    dsimp only
    rw [hs]
    exact e1
  · rw [e2, flush_ls0 f3, f4, List.append_assoc]
    rfl
  · rw [e3, f1, ho]
    omega
theorem reads_all : ∀ n, Reads n := by
  intro n
  induction n with
  | zero =>
    intro ps c st T F fst hn hl hpl hok _ _ _ hd ha hT hF
    cases ps with
    | nil =>
      obtain ⟨F, rfl⟩ : ∃ k, F = k + 1 := ⟨F - 1, by omega⟩
      rw [okL] at hok
      refine ⟨flush st, ?_, by simp, ?_⟩
      · rw [run_succ, tail_end hT hd ha hok]
      · rw [flush_at]; rfl
    | cons p r =>
      obtain ⟨k, t, o, cl, ps⟩ := p
      rw [gpL, gp, cntL, cntP] at hn
      omega
  | succ n ih =>
    intro ps c st T F fst hn hl hpl hok hf1 hf2 hnt hd ha hT hF
    obtain ⟨F, rfl⟩ : ∃ k, F = k + 1 := ⟨F - 1, by omega⟩
    cases ps with
    | nil =>
      rw [okL] at hok
      refine ⟨flush st, ?_, by simp, ?_⟩
      · rw [run_succ, tail_end hT hd ha hok]
      · rw [flush_at]; rfl
    | cons p r =>
      rw [okL] at hok
      obtain ⟨hp, d', hdp, hr⟩ := hok
      obtain ⟨k, t, o, cl, ps⟩ := p
      have hcn : 1 + cntL (gpL ps) + cntL (gpL r) ≤ n + 1 := by rw [gpL, gp, cntL, cntP] at hn; exact hn
      rw [okP] at hp
      have hout : oL c.pl c.op (.mk k t o cl ps :: r) = outP c.pl c.op (nextB (gpL r)) (gp (.mk k t o cl ps)) ++ oL c.pl c.op r := by unfold oL; rw [gpL, outL]
      rw [hout, gp] at hd
      rcases hp with ⟨rfl, rfl, rfl, rfl, ht, hnx, htx⟩ | ⟨rfl, rfl, rfl, rfl, hp0, ht⟩ | ⟨rfl, rfl, rfl, rfl, hp0, hv, hin⟩ | ⟨rfl, hnm, ho⟩ | ⟨rfl, rfl, rfl, rfl, hc⟩ | ⟨rfl, rfl, rfl, rfl, hv, hin⟩ | ⟨rfl, rfl, rfl, rfl, rfl, hp0, hfs, hnx⟩
      · -- text
        rw [outP, if_neg (by omega), if_pos (by rfl)] at hd
        have htx0 : st.tx = [] := by
          by_cases h : st.tx = []
          · exact h
          · exact absurd rfl (hnt h _ _ rfl)
        have hdp : dps c.pl c.op st.dep t = some d' := by
          have h : (if (1 : Nat) = 1 then dps c.pl c.op st.dep t else some st.dep) = some d' := hdp
          rwa [if_pos rfl] at h
        have hwhole : oL c.pl c.op (.mk 1 t 0 false [] :: r) = escT c.pl c.op t ++ oL c.pl c.op r := by
          rw [hout, gp, outP, if_neg (by omega), if_pos (by rfl)]
        have hd2 : c.s.drop st.a = escT c.pl c.op t ++ (oL c.pl c.op r ++ T) := by rw [hd, List.append_assoc]
        have main : ∃ F', run (F + 1) c st = run F' c ⟨st.a + (escT c.pl c.op t).length, d', st.tx ++ t, st.ls⟩ ∧ c.s.length - (st.a + (escT c.pl c.op t).length) < F' := by
          by_cases hp0 : c.pl = 0
          · obtain ⟨h1, h2⟩ := htx hp0
            have hesc : escT c.pl c.op t = t := by rw [hp0]; exact escT0 _ _
            rw [hesc] at hd2 ⊢
            have hdd : d' = st.dep := by
              unfold dps at hdp
              rw [if_neg (by omega)] at hdp
              injection hdp with hdp
              exact hdp.symm
            obtain ⟨F', e1, e2⟩ := text0 (c := c) hp0 (R := oL c.pl c.op r ++ T) (f := fin r) (fun hf => safe_tail hp0 hr hf hT) t st (F + 1) h1 hd2 (fun _ q hq => by
              cases hfs : fst with
              | false =>
                have := hf1 hfs
                unfold tilde
                rw [show decide (st.ls = [] ∧ st.tx = []) = false from decide_eq_false this, Bool.false_and]
              | true =>
                obtain ⟨g1, g2⟩ := h2 hfs q hq
                subst hq
                have hch := tx_cons h1
                refine tilde_no (t := q) (R := oL c.pl c.op r ++ T) (by simpa using hd2) (fun w e => ?_) (fun e => ?_) (fun w e => ?_) (fun ho w e => ?_)
                all_goals cases q with
                  | cons y q' =>
                    first
                    | (injection e with e _; first | exact (tx_cons hch.2.2).1.n92 e | exact g2 y q' rfl e | exact (tx_cons hch.2.2).1.n125 ho e)
                    | cases e
                  | nil =>
                    cases r with
                    | nil => exact absurd rfl (g1 rfl)
                    | cons p2 r2 =>
                      rw [okL] at hr
                      obtain ⟨y, w2, hw, hx⟩ := out_head (n := nextB (gpL r2)) hr.1 (hnx _ _ rfl)
                      have e : (oL c.pl c.op (p2 :: r2) ++ T) = _ := e
                      unfold oL at e
                      rw [gpL, outL, hw, List.cons_append, List.cons_append] at e
                      first
                      | (injection e with e3 e4; subst e3
                         rcases hx with ⟨h9, -⟩ | ⟨h9, -⟩ | h9 | ⟨h9, -⟩ | ⟨h9, h10, -⟩
                         all_goals first | exact absurd h9 (by decide) | (rw [h10] at e4; injection e4 with e4 _; exact absurd e4 (by decide)))
                      | cases e) hF
            refine ⟨F', ?_, e2⟩
            rw [e1, hdd]
          · have hp12 : c.pl = 1 ∨ c.pl = 2 := by
              omega
            exact textQ hp12 t st (F + 1) d' hdp hd2 hF
        obtain ⟨F', e1, e2⟩ := main
        obtain ⟨-, p2, p3⟩ := drop_parts hd2 ha
        rw [htx0, List.nil_append] at e1
        obtain ⟨st', q1, q2, q3⟩ := ih r c ⟨st.a + (escT c.pl c.op t).length, d', t, st.ls⟩ T F' false (by omega) hl hpl hr (fun _ h => ht h.2) (fun h => by cases h) (fun _ => hnx) p2 p3 hT e2
        refine ⟨st', by rw [e1]; exact q1, ?_, ?_⟩
        · rw [q2, flush_ls1 (show (St.mk (st.a + (escT c.pl c.op t).length) d' t st.ls).tx ≠ [] from ht), flush_ls0 htx0, List.append_assoc]
          rfl
        · rw [q3, hwhole, List.length_append, Nat.add_assoc]
      · -- quoted
        have hdd : st.dep = d' := by
          have h : (if (2 : Nat) = 1 then dps c.pl c.op st.dep t else some st.dep) = some d' := hdp
          rw [if_neg (by decide)] at h
          injection h
        rw [outP, if_neg (by omega), if_neg (by omega), if_pos (by rfl)] at hd
        have hwhole : (oL c.pl c.op (.mk 2 t 0 false [] :: r)).length = (if t = [39] then [92, 39] else 39 :: (t ++ [39])).length + (oL c.pl c.op r).length := by
          rw [hout, gp, outP, if_neg (by omega), if_neg (by omega), if_pos (by rfl), List.length_append]
        by_cases h39 : t = [39]
        · rw [if_pos h39] at hd hwhole
          have hd2 : c.s.drop st.a = 92 :: 39 :: (oL c.pl c.op r ++ T) := by rw [hd]; simp
          obtain ⟨k1, -, k3⟩ := LX.drop_head hd2
          obtain ⟨g1, -, g3⟩ := LX.drop_head k3
          subst h39
          exact reads_go ih (k := st.a + 2) (by omega) hl hpl hdd hr hT (ended0 hp0 hd2 (fun _ => by decide)) (step_apos hp0 hd2) g3 (by omega) (by omega) hF (by rw [hwhole]; simp)
        · rw [if_neg h39] at hd hwhole
          have hd2 : c.s.drop st.a = 39 :: (t ++ 39 :: (oL c.pl c.op r ++ T)) := by rw [hd]; simp
          have hg := ht.resolve_left h39
          obtain ⟨-, -, q3, q4⟩ := cls_single hl hd2 hg
          exact reads_go ih (k := st.a + t.length + 2) (by omega) hl hpl hdd hr hT (ended0 hp0 hd2 (fun _ => by decide)) (step_single hp0 hl hd2 hg) q3 q4 (by omega) hF (by rw [hwhole]; simp; omega)
      · -- double quotes
        have hdd : st.dep = d' := by
          have h : (if (3 : Nat) = 1 then dps c.pl c.op st.dep [] else some st.dep) = some d' := hdp
          rw [if_neg (by decide)] at h
          injection h
        rw [outP, if_neg (by omega), if_neg (by omega), if_neg (by omega), if_pos (by rfl)] at hd
        have hwhole : (oL c.pl c.op (.mk 3 [] 0 false ps :: r)).length = (34 :: (outL 1 false (gpL ps) ++ [34])).length + (oL c.pl c.op r).length := by
          rw [hout, gp, outP, if_neg (by omega), if_neg (by omega), if_neg (by omega), if_pos (by rfl), List.length_append]
        have hd2 : c.s.drop st.a = 34 :: (oL 1 false ps ++ 34 :: (oL c.pl c.op r ++ T)) := by rw [hd]; unfold oL; simp
        obtain ⟨k1, -, k3⟩ := LX.drop_head hd2
        obtain ⟨-, p2, p3⟩ := drop_parts k3 (by omega)
        obtain ⟨g1, -, g3⟩ := LX.drop_head p2
        obtain ⟨st', e1, e2, e3⟩ := ih ps ⟨c.s, 1, false, c.lv + 1, st.a⟩ ⟨st.a + 1, 0, [], []⟩ (34 :: (oL c.pl c.op r ++ T)) F true (by omega) hl (by show (1 : Nat) ≤ 2; omega) hin (fun h => by cases h) (fun _ => ⟨rfl, rfl⟩) (fun h => absurd rfl h) k3 (by show st.a + 1 ≤ c.s.length; omega) (.inr (.inr (.inl ⟨rfl, rfl, _, rfl⟩))) (by show c.s.length - (st.a + 1) < F; omega)
        have hN : nest F ⟨c.s, 1, false, c.lv + 1, st.a⟩ (st.a + 1) = .ok (ps, st.a + 1 + (oL 1 false ps).length) := by
          unfold nest
          rw [e1]
          dsimp only
          rw [e2, e3]
          rfl
        exact reads_go ih (k := st.a + 1 + (oL 1 false ps).length + 1) (by omega) hl hpl hdd hr hT (ended0 hp0 hd2 (fun _ => by decide)) (step_double hp0 hd2 hv hN) g3 (by omega) (by omega) hF (by rw [hwhole]; unfold oL; simp; omega)
      · -- parameters
        have hdd : st.dep = d' := by
          have h : (if (4 : Nat) = 1 then dps c.pl c.op st.dep t else some st.dep) = some d' := hdp
          rw [if_neg (by decide)] at h
          injection h
        have hwhole : (oL c.pl c.op (.mk 4 t o cl ps :: r)).length = (outP c.pl c.op (nextB (gpL r)) (.mk 4 t o cl (gpL ps))).length + (oL c.pl c.op r).length := by
          rw [hout, gp, List.length_append]
          rfl
        have hd : c.s.drop st.a = outP c.pl c.op (nextB (gpL r)) (.mk 4 t o cl (gpL ps)) ++ oL c.pl c.op r ++ T := hd
        have h0 : 0 < t.length := List.length_pos_iff.2 hnm.ne
        rcases ho with ⟨rfl, rfl, rfl⟩ | ⟨rfl, rfl, rfl⟩ | ⟨⟨y, hy⟩, h4, hv, hbh, hin⟩
        · have hd : c.s.drop st.a = outP c.pl c.op (nextB (gpL r)) (.mk 4 t 0 false (gpL [])) ++ oL c.pl c.op r ++ T := hd
          have hwhole : (oL c.pl c.op (.mk 4 t 0 false [] :: r)).length = (outP c.pl c.op (nextB (gpL r)) (.mk 4 t 0 false (gpL []))).length + (oL c.pl c.op r).length := hwhole
          rw [out4_0] at hd hwhole
          by_cases hbr : braces t (nextB (gpL r)) = true
          · rw [if_pos hbr] at hd hwhole
            have hd2 : c.s.drop st.a = 36 :: 123 :: (t ++ 125 :: (oL c.pl c.op r ++ T)) := by rw [hd]; simp
            have h35 : ¬ bt t 0 = 35 := by
              intro e
              unfold braces at hbr
              rw [e] at hbr
              have hnum : LX.number t = false := by
                cases t with
                | nil => exact absurd rfl hnm.ne
                | cons z t' =>
                  have hz : (z.toNat : Int) = 35 := e
                  unfold LX.number
                  rw [List.all_cons, hz]
                  rfl
              rw [hnum] at hbr
              simp [LX.starts] at hbr
            obtain ⟨k1, -, k3⟩ := LX.drop_head hd2
            obtain ⟨g1, -, g3⟩ := LX.drop_head k3
            obtain ⟨-, p2, p3⟩ := drop_parts g3 (by omega)
            obtain ⟨u1, -, u3⟩ := LX.drop_head p2
            have u3 : c.s.drop (st.a + t.length + 3) = oL c.pl c.op r ++ T := by rw [show st.a + t.length + 3 = st.a + 1 + 1 + t.length + 1 by omega]; exact u3
            exact reads_go ih (k := st.a + t.length + 3) (by omega) hl hpl hdd hr hT (ended36 hd2) (step_bare hd2 hnm h35) u3 (by omega) (by omega) hF (by rw [hwhole]; simp; omega)
          · rw [if_neg hbr] at hd hwhole
            have hd2 : c.s.drop st.a = 36 :: (t ++ (oL c.pl c.op r ++ T)) := by rw [hd]; simp
            obtain ⟨k1, -, k3⟩ := LX.drop_head hd2
            obtain ⟨-, p2, p3⟩ := drop_parts k3 (by omega)
            have hbr : braces t (nextB (gpL r)) = false := by simpa using hbr
            unfold braces at hbr
            rw [Bool.or_eq_false_iff] at hbr
            have hdig : LX.digit (bt t 0) = true → t.length = 1 := fun hg => by
              have h1 := hbr.1
              rw [hnm.num hg, Bool.true_and] at h1
              have := of_decide_eq_false h1
              omega
            have hs : Sep (oL c.pl c.op r ++ T) ∨ one8 (bt t 0) = true ∨ LX.digit (bt t 0) = true := by
              rcases hnm.head with a | a | a
              · exact .inr (.inl a)
              · exact .inr (.inr a)
              · have h2 := hbr.2
                rw [decide_eq_true hnm.ne, Bool.true_and, a, Bool.true_and, Bool.or_eq_false_iff] at h2
                exact .inl (sep_tail hr hT h2)
            exact reads_go ih (k := st.a + 1 + t.length) (by omega) hl hpl hdd hr hT (ended36 hd2) (step_param hd2 hnm hdig hs) p2 p3 (by omega) hF (by rw [hwhole]; simp; omega)
        · have hd : c.s.drop st.a = outP c.pl c.op (nextB (gpL r)) (.mk 4 t 5 false (gpL [])) ++ oL c.pl c.op r ++ T := hd
          have hwhole : (oL c.pl c.op (.mk 4 t 5 false [] :: r)).length = (outP c.pl c.op (nextB (gpL r)) (.mk 4 t 5 false (gpL []))).length + (oL c.pl c.op r).length := hwhole
          rw [out4_5] at hd hwhole
          have hd2 : c.s.drop st.a = 36 :: 123 :: 35 :: (t ++ 125 :: (oL c.pl c.op r ++ T)) := by rw [hd]; simp
          obtain ⟨k1, -, k3⟩ := LX.drop_head hd2
          obtain ⟨g1, -, g3⟩ := LX.drop_head k3
          obtain ⟨v1, -, v3⟩ := LX.drop_head g3
          obtain ⟨-, p2, p3⟩ := drop_parts v3 (by omega)
          obtain ⟨u1, -, u3⟩ := LX.drop_head p2
          have u3 : c.s.drop (st.a + t.length + 4) = oL c.pl c.op r ++ T := by rw [show st.a + t.length + 4 = st.a + 1 + 1 + 1 + t.length + 1 by omega]; exact u3
          exact reads_go ih (k := st.a + t.length + 4) (by omega) hl hpl hdd hr hT (ended36 hd2) (step_length hd2 hnm) u3 (by omega) (by omega) hF (by rw [hwhole]; simp; omega)
        · rw [out4_s _ _ _ _ _ _ hy] at hd hwhole
          have hd2 : c.s.drop st.a = 36 :: 123 :: (t ++ (ysym y cl ++ (oL c.pl true ps ++ 125 :: (oL c.pl c.op r ++ T)))) := by rw [hd]; unfold oL; simp
          obtain ⟨k1, -, k3⟩ := LX.drop_head hd2
          obtain ⟨g1, -, g3⟩ := LX.drop_head k3
          obtain ⟨-, p2, p3⟩ := drop_parts g3 (by omega)
          obtain ⟨-, q2, q3⟩ := drop_parts p2 p3
          obtain ⟨-, w2, w3⟩ := drop_parts q2 q3
          obtain ⟨u1, -, u3⟩ := LX.drop_head w2
          obtain ⟨st', e1, e2, e3⟩ := ih ps ⟨c.s, c.pl, true, c.lv + 1, st.a⟩ ⟨st.a + 2 + t.length + (ysym y cl).length, 0, [], []⟩ (125 :: (oL c.pl c.op r ++ T)) F true (by omega) hl hpl hin (fun h => by cases h) (fun _ => ⟨rfl, rfl⟩) (fun h => absurd rfl h) q2 q3 (.inl ⟨rfl, _, rfl⟩) (by show c.s.length - (st.a + 2 + t.length + (ysym y cl).length) < F; omega)
          have hN : nest F ⟨c.s, c.pl, true, c.lv + 1, st.a⟩ (st.a + 2 + t.length + (ysym y cl).length) = .ok (ps, st.a + 2 + t.length + (ysym y cl).length + (oL c.pl true ps).length) := by
            unfold nest
            rw [e1]
            dsimp only
            rw [e2, e3]
            rfl
          exact reads_go ih (k := st.a + 2 + t.length + (ysym y cl).length + (oL c.pl true ps).length + 1) (by omega) hl hpl hdd hr hT (ended36 hd2) (step_oper hd2 hnm hy h4 (behind_more hbh) hv hN) u3 (by omega) (by omega) hF (by
            rw [hwhole]
            unfold oL ysym
            simp only [List.length_cons, List.length_append, List.length_nil]
            split <;> simp <;> omega)
      · -- commands
        have hdd : st.dep = d' := by
          have h : (if (5 : Nat) = 1 then dps c.pl c.op st.dep t else some st.dep) = some d' := hdp
          rw [if_neg (by decide)] at h
          injection h
        rw [outP, if_neg (by omega), if_neg (by omega), if_neg (by omega), if_neg (by omega), if_pos (by rfl)] at hd
        have hwhole : (oL c.pl c.op (.mk 5 t 0 false [] :: r)).length = (36 :: 40 :: (t ++ [41])).length + (oL c.pl c.op r).length := by
          rw [hout, gp, outP, if_neg (by omega), if_neg (by omega), if_neg (by omega), if_neg (by omega), if_pos (by rfl), List.length_append]
        have hd2 : c.s.drop st.a = 36 :: 40 :: (t ++ 41 :: (oL c.pl c.op r ++ T)) := by rw [hd]; simp
        obtain ⟨k1, -, k3⟩ := LX.drop_head hd2
        obtain ⟨g1, -, g3⟩ := LX.drop_head k3
        obtain ⟨-, p2, p3⟩ := drop_parts g3 (by omega)
        obtain ⟨u1, -, u3⟩ := LX.drop_head p2
        have u3 : c.s.drop (st.a + t.length + 3) = oL c.pl c.op r ++ T := by rw [show st.a + t.length + 3 = st.a + 1 + 1 + t.length + 1 by omega]; exact u3
        exact reads_go ih (k := st.a + t.length + 3) (by omega) hl hpl hdd hr hT (ended36 hd2) (step_cmd hl hd2 hc) u3 (by omega) (by omega) hF (by rw [hwhole]; simp; omega)
      · -- arithmetic
        have hdd : st.dep = d' := by
          have h : (if (6 : Nat) = 1 then dps c.pl c.op st.dep [] else some st.dep) = some d' := hdp
          rw [if_neg (by decide)] at h
          injection h
        rw [outP, if_neg (by omega), if_neg (by omega), if_neg (by omega), if_neg (by omega), if_neg (by omega), if_pos (by rfl)] at hd
        have hwhole : (oL c.pl c.op (.mk 6 [] 0 false ps :: r)).length = (36 :: 40 :: 40 :: (outL 2 false (gpL ps) ++ [41, 41])).length + (oL c.pl c.op r).length := by
          rw [hout, gp, outP, if_neg (by omega), if_neg (by omega), if_neg (by omega), if_neg (by omega), if_neg (by omega), if_pos (by rfl), List.length_append]
        have hd2 : c.s.drop st.a = 36 :: 40 :: 40 :: (oL 2 false ps ++ 41 :: 41 :: (oL c.pl c.op r ++ T)) := by rw [hd]; unfold oL; simp
        obtain ⟨k1, -, k3⟩ := LX.drop_head hd2
        obtain ⟨g1, -, g3⟩ := LX.drop_head k3
        obtain ⟨v1, -, v3⟩ := LX.drop_head g3
        obtain ⟨-, p2, p3⟩ := drop_parts v3 (by omega)
        obtain ⟨u1, -, u3⟩ := LX.drop_head p2
        obtain ⟨x1, -, x3⟩ := LX.drop_head u3
        obtain ⟨st', e1, e2, e3⟩ := ih ps ⟨c.s, 2, false, c.lv + 1, st.a⟩ ⟨st.a + 3, 0, [], []⟩ (41 :: 41 :: (oL c.pl c.op r ++ T)) F true (by omega) hl (by show (2 : Nat) ≤ 2; omega) hin (fun h => by cases h) (fun _ => ⟨rfl, rfl⟩) (fun h => absurd rfl h) v3 (by show st.a + 3 ≤ c.s.length; omega) (.inr (.inr (.inr ⟨rfl, rfl, _, rfl⟩))) (by show c.s.length - (st.a + 3) < F; omega)
        have hN : nest F ⟨c.s, 2, false, c.lv + 1, st.a⟩ (st.a + 3) = .ok (ps, st.a + 3 + (oL 2 false ps).length) := by
          unfold nest
          rw [e1]
          dsimp only
          rw [e2, e3]
          rfl
        exact reads_go ih (k := st.a + 3 + (oL 2 false ps).length + 2) (by omega) hl hpl hdd hr hT (ended36 hd2) (step_arith hd2 hv hN) x3 (by omega) (by omega) hF (by rw [hwhole]; unfold oL; simp; omega)
      · -- a tilde
        have hdd : st.dep = d' := by
          have h : (if (7 : Nat) = 1 then dps c.pl c.op st.dep [] else some st.dep) = some d' := hdp
          rw [if_neg (by decide)] at h
          injection h
        rw [outP, if_pos (by rfl)] at hd
        have hwhole : (oL c.pl c.op (.mk 7 [] 0 false [] :: r)).length = 1 + (oL c.pl c.op r).length := by
          rw [hout, gp, outP, if_pos (by rfl), List.length_append]
          rfl
        have hd2 : c.s.drop st.a = 126 :: (oL c.pl c.op r ++ T) := by rw [hd]; simp
        obtain ⟨k1, -, k3⟩ := LX.drop_head hd2
        have htl : tilde c st = true := by
          unfold tilde tildeAt
          rw [k3, decide_eq_true (hf2 hfs), Bool.true_and]
          obtain ⟨m, hm⟩ : ∃ m, c.s.length = m + 1 := ⟨c.s.length - 1, by omega⟩
          rcases hnx with rfl | ⟨z, rest, rfl⟩
          · have hr0 : oL c.pl c.op [] ++ T = T := rfl
            rw [hr0]
            rcases hT with ⟨ho, q, rfl⟩ | ⟨ho, hp, rfl, hn⟩ | ⟨ho, hp1, q, rfl⟩ | ⟨ho, hp2, q, rfl⟩
            · rw [hm, strip, if_neg (by rw [hp2h (fun x r e => by injection e with e _; rw [← e]; decide)]; simp), ho]
              rw [show decide (bt (125 :: q) 0 = 125) = true from decide_eq_true rfl]
              simp
            · rw [hm, strip, if_neg (by rw [hp2n]; simp)]
              rfl
            · omega
            · omega
          · have hz : oL c.pl c.op (.mk 1 (47 :: z) 0 false [] :: rest) ++ T = 47 :: (escT c.pl c.op z ++ (oL c.pl c.op rest ++ T)) := by
              unfold oL
              rw [gpL, gp, outL, outP, if_neg (by omega), if_pos (by rfl), hp0, escT0, escT0]
              simp
            rw [hz, hm, strip, if_neg (by rw [hp2h (fun x r e => by injection e with e _; rw [← e]; decide)]; simp)]
            rw [show decide (bt (47 :: (escT c.pl c.op z ++ (oL c.pl c.op rest ++ T))) 0 = 47) = true from decide_eq_true rfl]
            simp
        exact reads_go ih (k := st.a + 1) (by omega) hl hpl hdd hr hT (ended0 hp0 hd2 (fun _ => by decide)) (step_tilde hp0 hd2 htl) k3 (by omega) (by omega) hF (by rw [hwhole]; omega)
end WP
end Go.Proofs.YtmgomklpjjkehaaGreat
namespace Go.Proofs.YtmgomklpjjkehaaGreat
open K
namespace LX
theorem cmd_end : ∀ (f : Nat) (s : Str) (a i n : Nat) (b : Bool) (e : Nat), cmd f s a i n b = (e, 0) → bt s (e - 1) = 41
  | 0, s, a, i, n, b, e, h => by rw [cmd] at h; simp at h
  | f + 1, s, a, i, n, b, e, h => by
    rw [cmd] at h
    by_cases hi : i < s.length
    · rw [if_pos hi] at h
      by_cases h1 : joins s i = true
      · rw [if_pos h1] at h; exact cmd_end f s a _ _ _ e h
      rw [if_neg h1] at h
      by_cases h2 : bt s i = 35 ∧ b = true
      · rw [if_pos h2] at h; exact cmd_end f s a _ _ _ e h
      rw [if_neg h2] at h
      by_cases h3 : begins s i = true
      · rw [if_pos h3] at h; exact cmd_end f s a _ _ _ e (thn_ok h).2
      rw [if_neg h3] at h
      by_cases h4 : bt s i = 40
      · rw [if_pos h4] at h; exact cmd_end f s a _ _ _ e h
      rw [if_neg h4] at h
      by_cases h5 : bt s i = 41 ∧ n = 0
      · rw [if_pos h5] at h
        have := congrArg Prod.fst h
        dsimp only at this
        rw [← this, Nat.add_sub_cancel]
        exact h5.1
      rw [if_neg h5] at h
      by_cases h6 : bt s i = 41
      · rw [if_pos h6] at h; exact cmd_end f s a _ _ _ e h
      · rw [if_neg h6] at h; exact cmd_end f s a _ _ _ e h
    · rw [if_neg hi] at h; simp at h
end LX
namespace WP
theorem cons_at {s : Str} {a : Nat} (h : a < s.length) : ∃ x, s.drop a = x :: s.drop (a + 1) ∧ bt s a = (x.toNat : Int) := by
  obtain ⟨x, hx, hb, _⟩ := drop_cons s a h
  exact ⟨x, hx, hb⟩
theorem byte_of {x y : UInt8} (h : (x.toNat : Int) = (y.toNat : Int)) : x = y := UInt8.toNat_inj.1 (by omega)
/-- What stands at a command substitution. -/
theorem cmd_of {s : Str} {a e : Nat} (hl : s.length ≤ 16384) (hc : cls s a = .ok e) (h36 : bt s a = 36) (h40 : bt s (a + 1) = 40) (hno : Lib.hasPrefix (s.drop (a + 1)) [40, 40] = false) : CmdT (cut s (a + 2) (e - 1)) := by
  obtain ⟨c1, c2⟩ := cls_le hc
  obtain ⟨d1, d2, d3, d4⟩ := LX.close_ok c1
  have h3 := has_not3' hno
  rw [LX.construct_eq, LX.con, if_neg (by rw [h36]; decide), if_neg (by rw [h36]; decide), if_neg (by rw [h36]; decide), if_neg (by rw [h36]; decide), if_neg (by rw [h3]; simp), if_pos h40] at d3
  have hf := LX.cmd_far _ _ _ _ _ _ _ d3
  have he := LX.cmd_end _ _ _ _ _ _ _ d3
  have hlt : (cut s (a + 2) (e - 1)).length = e - 1 - (a + 2) := by rw [cut_length]; omega
  obtain ⟨t, ht⟩ : ∃ t, cut s (a + 2) (e - 1) = t := ⟨_, rfl⟩
  rw [ht] at hlt ⊢
  have hdrop : s.drop (a + 2) = t ++ s.drop (e - 1) := by
    have h9 : s.drop (e - 1) = (s.drop (a + 2)).drop (e - 1 - (a + 2)) := by
      rw [List.drop_drop]
      congr 1
      omega
    rw [h9, ← ht]
    unfold cut
    rw [List.drop_take]
    exact (List.take_append_drop _ _).symm
  obtain ⟨x0, hx0, hb0⟩ := cons_at d1
  obtain ⟨x1, hx1, hb1⟩ := cons_at (s := s) (a := a + 1) (by omega)
  obtain ⟨x2, hx2, hb2⟩ := cons_at (s := s) (a := e - 1) (by omega)
  have e0 : x0 = 36 := byte_of (by rw [← hb0, h36]; rfl)
  have e1 : x1 = 40 := byte_of (by rw [← hb1, h40]; rfl)
  have e2 : x2 = 41 := byte_of (by rw [← hb2, he]; rfl)
  subst e0 e1 e2
  have hd : s.drop a = (36 :: 40 :: (t ++ [41])) ++ s.drop (e - 1 + 1) := by
    rw [hx0, hx1, hdrop, hx2]
    simp
  refine ⟨?_, fun x r hx => ?_⟩
  · have hu : (36 :: 40 :: (t ++ [41]) : Str).length = e - a := by simp; omega
    have := LX.close_move (s := s) (s2 := 36 :: 40 :: (t ++ [41])) (u := 36 :: 40 :: (t ++ [41])) (r := s.drop (e - 1 + 1)) (r2 := []) (a := a) (a2 := 0) (by rw [c1, hu, show a + (e - a) = e by omega]) hd h40 h36 (by simp) (by omega) (by rw [hu]; omega)
    unfold subst
    rw [this]
    simp
  · rintro rfl
    rw [hx1, hdrop, hx, List.cons_append, hp2] at hno
    exact absurd hno (by simp)
where
  has_not3' {s : Str} {a : Nat} (h : Lib.hasPrefix (s.drop (a + 1)) [40, 40] = false) : Lib.hasPrefix (s.drop a) [36, 40, 40] = false := LX.has_not3 h
theorem single_of {s : Str} {a e : Nat} (hc : cls s a = .ok e) (h39 : bt s a = 39) : ∀ j : Nat, (cut s (a + 1) (e - 1))[j]? ≠ some 39 := by
  obtain ⟨c1, c2⟩ := cls_le hc
  obtain ⟨d1, d2, d3, d4⟩ := LX.close_ok c1
  rw [LX.construct_eq, LX.con, if_neg (by rw [h39]; decide), if_pos h39] at d3
  cases hf : LX.find s (a + 1) 39 with
  | none => rw [hf] at d3; simp at d3
  | some n =>
    rw [hf] at d3
    have h1 := congrArg Prod.fst d3
    dsimp only at h1
    obtain ⟨g1, g2, g3⟩ := LX.find_some hf
    intro j hj
    have hjl := (List.getElem?_eq_some_iff.1 hj).1
    rw [cut_length] at hjl
    unfold cut at hj
    rw [List.getElem?_drop, List.getElem?_take] at hj
    split at hj
    · exact g3 j (by omega) hj
    · cases hj
theorem tw_all {p : UInt8 → Bool} : ∀ (l : Str), ∀ y ∈ l.takeWhile p, p y = true
  | [], y, h => by simp at h
  | x :: l, y, h => by
    rw [List.takeWhile_cons] at h
    split at h
    · rename_i hx
      rcases List.mem_cons.1 h with rfl | h
      · exact hx
      · exact tw_all l y h
    · cases h
theorem tw_self {p : UInt8 → Bool} : ∀ {l : Str}, (∀ y ∈ l, p y = true) → l.takeWhile p = l
  | [], _ => rfl
  | x :: l, h => by
    rw [List.takeWhile_cons, if_pos (h x (List.mem_cons_self ..)), tw_self fun y hy => h y (List.mem_cons_of_mem _ hy)]
theorem disj : ∀ n : Nat, n < 256 → (one8 (n : Int) = true → LX.starts (n : Int) = false) ∧ (LX.digit (n : Int) = true → LX.starts (n : Int) = false) := by decide +kernel
theorem numLen_all : ∀ (l : Str) (n : Int), LX.number (l.take (numLen l n)) = true ∧ ∀ r, Sep r → numLen (l.take (numLen l n) ++ r) n = numLen l n
  | [], n => ⟨rfl, fun r hr => by
    cases r with
    | nil => rfl
    | cons x r' =>
      show numLen (x :: r') n = 0
      rw [numLen, if_neg]
      rintro ⟨h, -⟩
      rw [(hr x r' rfl).2] at h
      cases h⟩
  | x :: l, n => by
    rw [numLen]
    split
    · rename_i hc
      obtain ⟨h1, h2⟩ := numLen_all l (10 * n + ((x.toNat : Int) - 48))
      rw [Nat.add_comm 1, List.take_succ_cons]
      refine ⟨?_, fun r hr => ?_⟩
      · unfold LX.number at h1 ⊢
        rw [List.all_cons, h1, Bool.and_true]
        exact hc.1
      · rw [List.cons_append, numLen, if_pos hc, h2 r hr, Nat.add_comm]
    · rename_i hc
      refine ⟨rfl, fun r hr => ?_⟩
      cases r with
      | nil => rfl
      | cons y r' =>
        show numLen (y :: r') n = 0
        rw [numLen, if_neg]
        rintro ⟨h, -⟩
        rw [(hr y r' rfl).2] at h
        cases h
theorem name_one {x : UInt8} (h : one8 (x.toNat : Int) = true) : NameT [x] := by
  have hx : bt [x] 0 = (x.toNat : Int) := rfl
  refine ⟨by simp, fun r _ => ?_, fun _ => by simp, fun _ => rfl, fun hd => ?_⟩
  · unfold parameter
    rw [if_neg (by simp), show bt ([x] ++ r) 0 = (x.toNat : Int) from rfl, if_pos h]
    rfl
  · rw [hx] at hd
    unfold LX.number
    simpa using hd
theorem name_digit {x : UInt8} (h : LX.digit (x.toNat : Int) = true) : NameT [x] := by
  by_cases ho : one8 (x.toNat : Int) = true
  · exact name_one ho
  have hx : bt [x] 0 = (x.toNat : Int) := rfl
  refine ⟨by simp, fun r hr => ?_, fun _ => by simp, fun _ => rfl, fun _ => ?_⟩
  · unfold parameter
    rw [if_neg (by simp), show bt ([x] ++ r) 0 = (x.toNat : Int) from rfl, if_neg ho, if_pos h, List.drop_zero]
    have hm : (x.toNat : Int) - 48 ≤ 2147483647 := by have := x.toNat_lt; omega
    show 0 + numLen (x :: r) 0 = 1
    rw [numLen, if_pos ⟨h, by omega⟩]
    cases r with
    | nil => rfl
    | cons y r' =>
      rw [numLen, if_neg]
      rintro ⟨h9, -⟩
      rw [(hr y r' rfl).2] at h9
      cases h9
  · unfold LX.number
    simpa using h
/-- A parameter's text, as parameter gives it. -/
theorem name_of {s : Str} {i : Nat} (hi : i ≤ s.length) (h : i < parameter s i) (ht : tooLong s i (parameter s i) = false) : NameT (cut s i (parameter s i)) := by
  obtain ⟨e, he⟩ : ∃ e, parameter s i = e := ⟨_, rfl⟩
  have hp := he
  unfold parameter at he
  split at he
  · omega
  rename_i hil
  have hlt : i < s.length := by omega
  obtain ⟨x, hx, hb⟩ := cons_at hlt
  split at he
  · rename_i ho
    rw [hp, ← he, cut_one s i hlt, hb, by8_of']
    exact name_one (by rw [← hb]; exact ho)
  rename_i ho
  split at he
  · rename_i hd
    obtain ⟨h1, h2⟩ := numLen_all (s.drop i) 0
    have hc : cut s i e = (s.drop i).take (numLen (s.drop i) 0) := by
      unfold cut
      rw [List.drop_take, ← he, show i + numLen (s.drop i) 0 - i = numLen (s.drop i) 0 by omega]
    rw [hp, hc]
    have h0 : 0 < numLen (s.drop i) 0 := by omega
    obtain ⟨m, hm⟩ : ∃ m, numLen (s.drop i) 0 = m + 1 := ⟨numLen (s.drop i) 0 - 1, by omega⟩
    have hle : numLen (s.drop i) 0 ≤ (s.drop i).length := by
      have := (parameter_le' hi).2
      rw [hp, ← he] at this
      rw [List.length_drop]
      omega
    have hb0 : bt ((s.drop i).take (numLen (s.drop i) 0)) 0 = bt s i := by
      rw [hm, hx, List.take_succ_cons]
      exact hb.symm
    refine ⟨?_, fun r hr => ?_, fun hs => ?_, fun h8 => ?_, fun _ => h1⟩
    · intro e0
      have := congrArg List.length e0
      rw [List.length_take] at this
      simp only [List.length_nil] at this
      omega
    · unfold parameter
      rw [if_neg (by simp only [List.length_append, List.length_take]; omega)]
      have hb1 : bt ((s.drop i).take (numLen (s.drop i) 0) ++ r) 0 = bt s i := by
        rw [hm, hx, List.take_succ_cons]
        exact hb.symm
      rw [hb1, if_neg ho, if_pos hd, List.drop_zero, h2 r hr, List.length_take]
      omega
    · rw [hb0, hb] at hs
      rw [hb] at hd
      rw [(disj x.toNat x.toNat_lt).2 hd] at hs
      cases hs
    · rw [hb0] at h8; exact absurd h8 ho
  rename_i hd
  split at he
  · rename_i hs
    have hc : cut s i e = (s.drop i).takeWhile fun c => LX.starts (c.toNat : Int) || LX.digit (c.toNat : Int) := by
      unfold LX.nameEnd at he
      unfold cut
      rw [List.drop_take, ← he, Nat.add_sub_cancel_left]
      exact (List.prefix_iff_eq_take.1 (List.takeWhile_prefix _)).symm
    obtain ⟨t, htt⟩ : ∃ t, cut s i e = t := ⟨_, rfl⟩
    have hall : ∀ y ∈ t, (LX.starts (y.toNat : Int) || LX.digit (y.toNat : Int)) = true := fun y hy => by
      rw [← htt, hc] at hy
      exact tw_all (p := fun c : UInt8 => LX.starts (c.toNat : Int) || LX.digit (c.toNat : Int)) _ y hy
    have hlen : t.length = e - i := by
      rw [← htt, cut_length]
      have := (parameter_le' hi).2
      rw [hp] at this
      omega
    have hne : t ≠ [] := by
      intro e0
      rw [e0] at hlen
      simp at hlen
      omega
    have hb0 : bt t 0 = bt s i := by
      rw [← htt]
      have := bt_cut s i e 0 (by omega)
      rw [Nat.add_zero] at this
      exact this
    rw [hp, htt]
    refine ⟨hne, fun r hr => ?_, fun _ => ?_, fun h8 => ?_, fun hg => ?_⟩
    · unfold parameter
      have h0 : 0 < t.length := List.length_pos_iff.2 hne
      have hb1 : bt (t ++ r) 0 = bt s i := by
        rw [← hb0]
        cases t with
        | nil => exact absurd rfl hne
        | cons z t' => rfl
      rw [if_neg (by simp only [List.length_append]; omega), hb1, if_neg ho, if_neg hd, if_pos hs]
      unfold LX.nameEnd
      rw [List.drop_zero, List.takeWhile_append, if_pos]
      · have hr0 : (r.takeWhile fun c => LX.starts (c.toNat : Int) || LX.digit (c.toNat : Int)) = [] := by
          cases r with
          | nil => rfl
          | cons y r' =>
            rw [List.takeWhile_cons, if_neg]
            obtain ⟨q1, q2⟩ := hr y r' rfl
            rw [q1, q2]
            simp
        rw [hr0]
        simp
      · rw [tw_self hall]
    · rw [hp] at ht
      unfold tooLong at ht
      rw [hs, Bool.true_and] at ht
      have := of_decide_eq_false ht
      omega
    · rw [hb0] at h8; exact absurd h8 ho
    · rw [hb0] at hg; exact absurd hg hd
  · omega
where
  by8_of' {x : UInt8} : by8 (x.toNat : Int) = x := K.by8_of x
end WP
end Go.Proofs.YtmgomklpjjkehaaGreat
namespace Go.Proofs.YtmgomklpjjkehaaGreat
open K
namespace WP
theorem strip_fuel : ∀ (f g : Nat) (l : Str), l.length ≤ f → l.length ≤ g → strip f l = strip g l
  | 0, 0, l, _, _ => rfl
  | 0, g + 1, l, h, _ => by
    have : l = [] := List.eq_nil_of_length_eq_zero (by omega)
    subst this
    rw [strip, strip, if_neg (by rw [hp2n]; simp)]
  | f + 1, 0, l, _, h => by
    have : l = [] := List.eq_nil_of_length_eq_zero (by omega)
    subst this
    rw [strip, strip, if_neg (by rw [hp2n]; simp)]
  | f + 1, g + 1, l, h1, h2 => by
    rw [strip, strip]
    by_cases hp : Lib.hasPrefix l [92, 10] = true
    · rw [if_pos hp, if_pos hp]
      obtain ⟨r, hr⟩ := LX.has2 hp
      subst hr
      exact strip_fuel f g r (by simp at h1; omega) (by simp at h2; omega)
    · rw [if_neg hp, if_neg hp]
/-- Behind escaped newlines. -/
def ST (R : Str) : Str := strip R.length R
theorem ST_skip (R : Str) : ST (92 :: 10 :: R) = ST R := by
  unfold ST
  rw [show (92 :: 10 :: R : Str).length = R.length + 1 + 1 by simp, strip, if_pos (by rw [hp2]; rfl)]
  exact strip_fuel _ _ R (by omega) (by omega)
theorem ST_self {R : Str} (h : Lib.hasPrefix R [92, 10] = false) : ST R = R := by
  unfold ST
  cases hl : R.length with
  | zero => rfl
  | succ n => rw [strip, if_neg (by rw [h]; simp)]
/-- What makes a ~ ahead of it a part. -/
def tilE (op : Bool) (R : Str) : Prop := ST R = [] ∨ bt (ST R) 0 = 47 ∨ (op = true ∧ bt (ST R) 0 = 125)
theorem tildeAt_iff {s : Str} {a : Nat} {op : Bool} (h : a < s.length) : tildeAt s a op = true ↔ tilE op (s.drop (a + 1)) := by
  unfold tildeAt tilE ST
  rw [strip_fuel s.length (s.drop (a + 1)).length (s.drop (a + 1)) (by rw [List.length_drop]; omega) (Nat.le_refl _)]
  simp [or_assoc]
def tp : Part := .mk 7 [] 0 false []
structure Pre (c : Ctx) (st : St) : Prop where
  hl : c.s.length ≤ 16384
  inv : Inv c st
  hpl : c.pl ≤ 2
  opn : ¬ (c.pl = 0 ∧ c.op = false) → 0 ≤ c.opn
  dep : ¬ (c.pl = 2 ∧ c.op = false) → st.dep = 0
  tx0 : c.pl = 0 → TX c.op true st.tx
  lone : c.pl = 0 → ∀ u, st.tx = u ++ [36] → SafeD (c.s.drop st.a)
  til : c.pl = 0 → st.ls = [] → ∀ q, st.tx = 126 :: q → (q = [] → ¬ tilE c.op (c.s.drop st.a)) ∧ ∀ y r', q = y :: r' → y ≠ 47
  ptil : st.tx = [] → st.ls = [tp] → c.pl = 0 ∧ tilE c.op (c.s.drop st.a)
structure OutA (c : Ctx) (st : St) (L : List Part) : Prop where
  nil : st.tx = [] → okL c.pl c.op c.lv st.dep (decide (st.ls = [])) L
  txt : st.tx ≠ [] → ∃ u r d', L = .mk 1 (st.tx ++ u) 0 false [] :: r ∧ notText r ∧ (c.pl = 0 → TX c.op (fin r) (st.tx ++ u) ∧ (st.ls = [] → NoTil (st.tx ++ u) r)) ∧ dps c.pl c.op st.dep u = some d' ∧ okL c.pl c.op c.lv d' false r
  til : st.tx = [] → st.ls = [tp] → L = [] ∨ ∃ r rest, L = .mk 1 (47 :: r) 0 false [] :: rest
theorem tx_fin {op f : Bool} : ∀ {t : Str}, TX op true t → (∀ u, t = u ++ [36] → f = true) → TX op f t
  | [], _, _ => trivial
  | [x], h, hf => ⟨h.1, fun e => hf [] (by rw [e]; rfl)⟩
  | x :: y :: r, h, hf => ⟨h.1, h.2.1, tx_fin h.2.2 fun u e => hf (x :: u) (by rw [e]; rfl)⟩
theorem tx_snoc {op : Bool} {x : UInt8} (hx : Ch op x) : ∀ {t : Str}, TX op true t → (∀ u, t = u ++ [36] → OkD x) → TX op true (t ++ [x])
  | [], _, _ => ⟨hx, fun _ => rfl⟩
  | [y], h, hf => ⟨h.1, fun e => hf [] (by rw [e]; rfl), hx, fun _ => rfl⟩
  | y :: z :: r, h, hf => ⟨h.1, h.2.1, tx_snoc hx h.2.2 fun u e => hf (y :: u) (by rw [e]; rfl)⟩
/-- A byte of text was read. -/
theorem out_lit {c : Ctx} {st st1 : St} {x : UInt8} {L : List Part} (h1 : st1.tx = st.tx ++ [x]) (h2 : st1.ls = st.ls) (hd : ∀ u d', dps c.pl c.op st1.dep u = some d' → dps c.pl c.op st.dep (x :: u) = some d') (h47 : st.tx = [] → st.ls = [tp] → x = 47) (h : OutA c st1 L) : OutA c st L := by
  obtain ⟨u, r, d', e1, e2, e3, e4, e5⟩ := h.txt (by rw [h1]; simp)
  rw [h1, List.append_assoc, List.singleton_append] at e1 e3
  rw [h2] at e3
  refine ⟨fun ht => ?_, fun _ => ⟨x :: u, r, d', e1, e2, e3, hd u d' e4, e5⟩, fun ht hs => ?_⟩
  · rw [ht, List.nil_append] at e1 e3
    rw [e1, okL]
    refine ⟨?_, d', ?_, e5⟩
    · rw [okP]
      exact .inl ⟨rfl, rfl, rfl, rfl, by simp, e2, fun hp => ⟨(e3 hp).1, fun hf => (e3 hp).2 (of_decide_eq_true hf)⟩⟩
    · show (if (1 : Nat) = 1 then dps c.pl c.op st.dep (x :: u) else some st.dep) = some d'
      rw [if_pos rfl]
      exact hd u d' e4
  · rw [ht, List.nil_append, h47 ht hs] at e1
    exact .inr ⟨u, r, e1⟩
/-- A part was read. -/
theorem out_add {c : Ctx} {st : St} {p : Part} {k : Nat} {L : List Part} (hp : Pre c st) (hk : p.kind ≠ 1) (hkt : p.kind ≠ 7 → st.tx = [] → st.ls = [tp] → False) (hk7 : p.kind = 7 → st.ls = [] ∧ st.tx = [])
    (hok : OutA c (add p k st) L → okP c.pl c.op c.lv (decide ((flush st).ls = [])) L p) (hfin : c.pl = 0 → ∀ u, st.tx = u ++ [36] → p.kind = 2 ∨ p.kind = 3) (h : OutA c (add p k st) L) : OutA c st ((if st.tx = [] then [] else [.mk 1 st.tx 0 false []]) ++ p :: L) := by
  obtain ⟨f1, f2, f3, f4⟩ := add_fields p k st
  have h1 := h.nil f3
  rw [f2, f4, decide_eq_false (by simp)] at h1
  have hdp : dpP c.pl c.op st.dep p = some st.dep := by
    obtain ⟨k', t, o, cl, ps⟩ := p
    show (if k' = 1 then _ else _) = _
    rw [if_neg (show ¬ k' = 1 from hk)]
  have hokp := hok h
  by_cases ht : st.tx = []
  · rw [if_pos ht, List.nil_append]
    refine ⟨fun _ => ?_, fun h => absurd ht h, fun _ hs => ?_⟩
    · rw [okL]
      rw [flush_ls0 ht] at hokp
      exact ⟨hokp, st.dep, hdp, h1⟩
    · by_cases h7 : p.kind = 7
      · have := (hk7 h7).1
        rw [hs] at this
        cases this
      · exact (hkt h7 ht hs).elim
  · rw [if_neg ht, List.singleton_append]
    refine ⟨fun h => absurd h ht, fun _ => ?_, fun h => absurd h ht⟩
    refine ⟨[], p :: L, st.dep, by rw [List.append_nil], fun q r e => by injection e with e _; rw [← e]; exact hk, fun hp0 => ?_, ?_, ?_⟩
    · rw [List.append_nil]
      refine ⟨tx_fin (hp.tx0 hp0) fun u e => ?_, fun hs q e => ⟨fun _ => by simp, ?_⟩⟩
      · have := hfin hp0 u e
        obtain ⟨k', t, o, cl, ps⟩ := p
        exact decide_eq_true this
      · exact (hp.til hp0 hs q e).2
    · unfold dps
      split
      · rfl
      · rfl
    · rw [okL]
      rw [flush_ls1 ht, decide_eq_false (by simp)] at hokp
      exact ⟨hokp, st.dep, hdp, h1⟩
end WP
end Go.Proofs.YtmgomklpjjkehaaGreat
namespace Go.Proofs.YtmgomklpjjkehaaGreat
open K
namespace WP
theorem nest_ok {f : Nat} {c : Ctx} {k e : Nat} {ps : List Part} (h : nest f c k = .ok (ps, e)) : ∃ y, run f c ⟨k, 0, [], []⟩ = .ok y ∧ ps = y.ls := by
  unfold nest at h
  split at h
  · cases h
  · rename_i y hy
    injection h with h
    injection h with h1 h2
    exact ⟨y, hy, h1.symm⟩
theorem pre_new {c : Ctx} {k : Nat} (hl : c.s.length ≤ 16384) (hk : k ≤ c.s.length) (hpl : c.pl ≤ 2) (ho : 0 ≤ c.opn) : Pre c ⟨k, 0, [], []⟩ :=
  ⟨hl, ⟨hk, Nat.zero_le _, Nat.zero_le _⟩, hpl, fun _ => ho, fun _ => rfl, fun _ => trivial, fun _ u e => by simp at e, fun _ _ q e => by simp at e, fun _ e => by simp [tp] at e⟩
theorem pre_lit0 {c : Ctx} {st : St} {x : UInt8} {R : Str} (hp : Pre c st) (hi : Inv c (lit x 1 st)) (h0 : c.pl = 0) (hd : c.s.drop st.a = x :: R) (hx : Ch c.op x) (h36 : x = 36 → SafeD R) (h126 : x = 126 → st.ls = [] → st.tx = [] → ¬ tilE c.op R) : Pre c (lit x 1 st) := by
  obtain ⟨-, -, h3⟩ := LX.drop_head hd
  refine ⟨hp.hl, hi, hp.hpl, hp.opn, hp.dep, fun _ => tx_snoc hx (hp.tx0 h0) fun u e => (hp.lone h0 u e x R hd).1, fun _ u e => ?_, fun _ hs q e => ?_, fun e => by simp [lit] at e⟩
  · have e : st.tx ++ [x] = u ++ [36] := e
    have := List.append_inj_right' e rfl
    injection this with this _
    show SafeD (c.s.drop (st.a + 1))
    rw [h3]
    exact h36 this
  · have e : st.tx ++ [x] = 126 :: q := e
    have hs : st.ls = [] := hs
    show (q = [] → ¬ tilE c.op (c.s.drop (st.a + 1))) ∧ _
    rw [h3]
    cases ht : st.tx with
    | nil =>
      rw [ht, List.nil_append] at e
      injection e with e1 e2
      exact ⟨fun _ => h126 e1 hs ht, fun y r' e3 => by rw [← e2] at e3; cases e3⟩
    | cons z q0 =>
      rw [ht, List.cons_append] at e
      injection e with e1 e2
      obtain ⟨g1, g2⟩ := hp.til h0 hs q0 (by rw [ht, e1])
      refine ⟨fun e3 => by rw [e3] at e2; simp at e2, fun y r' e3 => ?_⟩
      cases q0 with
      | nil =>
        rw [List.nil_append] at e2
        rw [e3] at e2
        injection e2 with e2 _
        have hn := g1 rfl
        rintro rfl
        apply hn
        refine .inr (.inl ?_)
        rw [hd, ST_self (hp2h fun w r e4 => by injection e4 with e4 _; rw [← e4]; exact hx.n92), e2]
        rfl
      | cons y0 q1 =>
        rw [e3, List.cons_append] at e2
        injection e2 with e2 _
        rw [← e2]
        exact g2 y0 q1 rfl
theorem pre_litQ {c : Ctx} {st st1 : St} (hp : Pre c st) (h0 : c.pl ≠ 0) (hi : Inv c st1) (hdep : ¬ (c.pl = 2 ∧ c.op = false) → st1.dep = 0) (htx : st1.tx ≠ []) : Pre c st1 :=
  ⟨hp.hl, hi, hp.hpl, hp.opn, hdep, fun e => absurd e h0, fun e => absurd e h0, fun e => absurd e h0, fun e => absurd e htx⟩
theorem pre_add {c : Ctx} {st : St} {p : Part} {k : Nat} (hp : Pre c st) (hi : Inv c (add p k st)) (h7 : p.kind = 7 → c.pl = 0 ∧ tilE c.op (c.s.drop k)) : Pre c (add p k st) := by
  obtain ⟨f1, f2, f3, f4⟩ := add_fields p k st
  refine ⟨hp.hl, hi, hp.hpl, hp.opn, fun h => by rw [f2]; exact hp.dep h, fun _ => by rw [f3]; trivial, fun _ u e => by rw [f3] at e; simp at e, (fun _ _ q e => by rw [f3] at e; cases e), fun _ e => ?_⟩
  rw [f4] at e
  have h8 : p = tp := by
    have := congrArg List.getLast? e
    simpa using this
  rw [f1]
  exact h7 (by rw [h8]; rfl)
/-- The source's first byte is none that a ~ waits for. -/
theorem no_tilde {c : Ctx} {st : St} {x : UInt8} {R : Str} (hp : Pre c st) (hd : c.s.drop st.a = x :: R) (h92 : Lib.hasPrefix (x :: R) [92, 10] = false) (h47 : x ≠ 47) (h125 : x ≠ 125) : st.tx = [] → st.ls = [tp] → False := fun e1 e2 => by
  obtain ⟨-, h⟩ := hp.ptil e1 e2
  rw [hd] at h
  unfold tilE at h
  rw [ST_self h92] at h
  rcases h with h | h | ⟨-, h⟩
  · cases h
  · exact h47 (byte_of h)
  · exact h125 (byte_of h)
/-- The first byte of the source of what was read. -/
def HD (pl : Nat) (op : Bool) (x : UInt8) (L : List Part) : Prop := L ≠ [] ∧ ∀ z q, oL pl op L = z :: q → z = 35 ∨ z = 37 ∨ z = 125 → z = x
/-- What a step is good for. -/
def Step (c : Ctx) (st st1 : St) : Prop := Pre c st1 ∧ ∀ L, OutA c st1 L → ∃ L0, OutA c st L0 ∧ st1.ls ++ L = st.ls ++ L0 ∧ (st.tx = [] → ∀ x R, c.s.drop st.a = x :: R → Lib.hasPrefix (x :: R) [92, 10] = false → HD c.pl c.op x L0)
theorem oL_text (pl : Nat) (op : Bool) (x : UInt8) (u : Str) (r : List Part) : ∃ z q, oL pl op (.mk 1 (x :: u) 0 false [] :: r) = z :: q ∧ (z = x ∨ z = 92) ∧ (escapes pl (x.toNat : Int) op = true → z = 92) := by
  unfold oL
  rw [gpL, gp, outL, outP, if_neg (by omega), if_pos (by rfl), escT]
  by_cases he : escapes pl (x.toNat : Int) op = true
  · rw [if_pos he]
    exact ⟨92, _, rfl, .inr rfl, fun _ => rfl⟩
  · rw [if_neg he]
    exact ⟨x, _, rfl, .inl rfl, fun h => absurd h he⟩
theorem step_lit {c : Ctx} {st st1 : St} {x : UInt8} (hpre : Pre c st1) (h1 : st1.tx = st.tx ++ [x]) (h2 : st1.ls = st.ls) (hd : ∀ u d', dps c.pl c.op st1.dep u = some d' → dps c.pl c.op st.dep (x :: u) = some d') (h47 : st.tx = [] → st.ls = [tp] → x = 47)
    (hx : ∀ y R, c.s.drop st.a = y :: R → x = y ∨ escapes c.pl (x.toNat : Int) c.op = true) : Step c st st1 := by
  refine ⟨hpre, fun L h => ⟨L, out_lit h1 h2 hd h47 h, by rw [h2], fun ht y R hdr hj => ?_⟩⟩
  obtain ⟨u, r, d', e1, -⟩ := h.txt (by rw [h1]; simp)
  rw [h1, ht, List.nil_append, List.singleton_append] at e1
  subst e1
  refine ⟨by simp, fun z q e hz => ?_⟩
  obtain ⟨z', q', e2, e3, e4⟩ := oL_text c.pl c.op x u r
  rw [e2] at e
  injection e with e _
  subst e
  rcases hx y R hdr with h | h
  · rcases e3 with e3 | e3
    · rw [e3, h]
    · rw [e3] at hz
      rcases hz with hz | hz | hz <;> exact absurd hz (by decide)
  · rw [e4 h] at hz
    rcases hz with hz | hz | hz <;> exact absurd hz (by decide)
theorem step_add {c : Ctx} {st : St} {p : Part} {k : Nat} (hp : Pre c st) (hi : Inv c (add p k st)) (hk : p.kind ≠ 1) (h7 : p.kind = 7 → c.pl = 0 ∧ tilE c.op (c.s.drop k)) (hkt : p.kind ≠ 7 → st.tx = [] → st.ls = [tp] → False) (hk7 : p.kind = 7 → st.ls = [] ∧ st.tx = [])
    (hok : ∀ L, OutA c (add p k st) L → okP c.pl c.op c.lv (decide ((flush st).ls = [])) L p) (hfin : c.pl = 0 → ∀ u, st.tx = u ++ [36] → p.kind = 2 ∨ p.kind = 3) : Step c st (add p k st) := by
  refine ⟨pre_add hp hi h7, fun L h => ⟨_, out_add hp hk hkt hk7 (hok L) hfin h, ?_, fun ht x R hdr hj => ?_⟩⟩
  · obtain ⟨f1, f2, f3, f4⟩ := add_fields p k st
    rw [f4]
    by_cases ht : st.tx = []
    · rw [if_pos ht, flush_ls0 ht]; simp
    · rw [if_neg ht, flush_ls1 ht]; simp
  · rw [if_pos ht, List.nil_append]
    refine ⟨by simp, fun z q e hz => ?_⟩
    obtain ⟨y, w, hq, hx⟩ := out_head (n := nextB (gpL L)) (hok L h) hk
    unfold oL at e
    rw [gpL, outL, hq, List.cons_append] at e
    injection e with e _
    subst e
    rcases hx with ⟨rfl, -⟩ | ⟨rfl, -⟩ | rfl | ⟨rfl, -⟩ | ⟨rfl, -⟩ <;> (rcases hz with hz | hz | hz <;> exact absurd hz (by decide))
theorem step_skip {c : Ctx} {st : St} (hp : Pre c st) (hi : Inv c { st with a := st.a + 2 }) {R : Str} (hd : c.s.drop st.a = 92 :: 10 :: R) : Step c st { st with a := st.a + 2 } := by
  obtain ⟨-, -, h3⟩ := LX.drop_head hd
  obtain ⟨-, -, h4⟩ := LX.drop_head h3
  have h4 : c.s.drop (st.a + 2) = R := h4
  have ht : ∀ op, tilE op (c.s.drop st.a) ↔ tilE op (c.s.drop (st.a + 2)) := fun op => by
    unfold tilE
    rw [hd, h4, ST_skip]
  refine ⟨⟨hp.hl, hi, hp.hpl, hp.opn, hp.dep, hp.tx0, fun h0 u e => ?_, fun h0 hs q e => ?_, fun e1 e2 => ?_⟩, fun L h => ⟨L, ⟨h.nil, h.txt, h.til⟩, rfl, fun _ x R' hdr hj => ?_⟩⟩
  · have := (hp.lone h0 u e 92 (10 :: R) hd).2 rfl 10 R rfl
    exact absurd rfl this
  · obtain ⟨g1, g2⟩ := hp.til h0 hs q e
    exact ⟨fun e2 h => g1 e2 ((ht _).2 h), g2⟩
  · obtain ⟨g1, g2⟩ := hp.ptil e1 e2
    exact ⟨g1, (ht _).1 g2⟩
  · rw [hd] at hdr
    rw [← hdr, hp2] at hj
    exact absurd hj (by simp)
end WP
end Go.Proofs.YtmgomklpjjkehaaGreat
namespace Go.Proofs.YtmgomklpjjkehaaGreat
open K
namespace WP
/-- What the runs of a fuel are good for. -/
def AllA (f : Nat) : Prop := ∀ (c : Ctx) (st st' : St), Pre c st → run f c st = .ok st' → ∃ L, st'.ls = st.ls ++ L ∧ OutA c st L
def FB (f : Nat) : Prop := ∀ (c : Ctx) (k : Nat) (y : St), Pre c ⟨k, 0, [], []⟩ → c.op = true → run f c ⟨k, 0, [], []⟩ = .ok y → ∃ x R, c.s.drop k = x :: R ∧ (Lib.hasPrefix (x :: R) [92, 10] = false → ∀ z q, oL c.pl true y.ls ++ [125] = z :: q → z = 35 ∨ z = 37 ∨ z = 125 → z = x)
theorem nested_ok {f : Nat} (hA : AllA f) {c : Ctx} {k e : Nat} {ps : List Part} (hp : Pre c ⟨k, 0, [], []⟩) (h : nest f c k = .ok (ps, e)) : okL c.pl c.op c.lv 0 true ps := by
  obtain ⟨y, h1, rfl⟩ := nest_ok h
  obtain ⟨L, h2, h3⟩ := hA c _ y hp h1
  rw [h2, List.nil_append]
  exact h3.nil rfl
/-- No source of parts begins with an escaped newline. -/
theorem no_join {pl : Nat} {op : Bool} {lv d : Nat} {fst : Bool} {ps : List Part} (h : okL pl op lv d fst ps) : ∀ r, oL pl op ps ++ [125] ≠ 92 :: 10 :: r := by
  intro r e
  cases ps with
  | nil => exact absurd (congrArg (fun l : Str => l.head?) e) (by simp [oL, gpL, outL])
  | cons p r2 =>
    rw [okL] at h
    by_cases hk : p.kind = 1
    · obtain ⟨k, t, o, cl, ps⟩ := p
      have hk : k = 1 := hk
      subst hk
      have h1 := h.1
      rw [okP] at h1
      rcases h1 with ⟨-, rfl, rfl, rfl, ht, -, htx⟩ | ⟨h, -⟩ | ⟨h, -⟩ | ⟨h, -⟩ | ⟨h, -⟩ | ⟨h, -⟩ | ⟨h, -⟩
      · cases t with
        | nil => exact ht rfl
        | cons x u =>
          unfold oL at e
          rw [gpL, gp, outL, outP, if_neg (by omega), if_pos (by rfl), escT] at e
          by_cases he : escapes pl (x.toNat : Int) op = true
          · rw [if_pos he] at e
            simp only [List.cons_append, List.nil_append] at e
            injection e with _ e
            injection e with e _
            subst e
            unfold escapes at he
            simp at he
          · rw [if_neg he] at e
            simp only [List.cons_append, List.nil_append] at e
            injection e with e _
            subst e
            by_cases hp : pl = 0
            · exact (tx_cons (htx hp).1).1.n92 rfl
            · apply he
              unfold escapes
              rw [if_pos (.inr (.inr rfl))]
              exact decide_eq_true hp
      all_goals exact absurd h (by decide)
    · obtain ⟨y, w, hq, hx⟩ := out_head (n := nextB (gpL r2)) h.1 hk
      unfold oL at e
      rw [gpL, outL, hq, List.cons_append, List.cons_append] at e
      injection e with e1 e2
      subst e1
      rcases hx with ⟨h9, -⟩ | ⟨h9, -⟩ | h9 | ⟨h9, -⟩ | ⟨-, rfl, -⟩
      · exact absurd h9 (by decide)
      · exact absurd h9 (by decide)
      · exact absurd h9 (by decide)
      · exact absurd h9 (by decide)
      · injection e2 with e2 _
        exact absurd e2 (by decide)
theorem oper_inv_yes {t : Str} {o z : Nat} (h : operator t true = (o, z)) (hz : z ≠ 0) : (∃ y, symbol o = some y) ∧ o ≤ 4 ∧ z = 1 := by
  unfold operator at h
  split at h
  · injection h with _ h; omega
  split at h
  · injection h with h1 h2; subst h1 h2; exact ⟨⟨_, rfl⟩, by omega, rfl⟩
  split at h
  · injection h with h1 h2; subst h1 h2; exact ⟨⟨_, rfl⟩, by omega, rfl⟩
  split at h
  · injection h with h1 h2; subst h1 h2; exact ⟨⟨_, rfl⟩, by omega, rfl⟩
  split at h
  · injection h with h1 h2; subst h1 h2; exact ⟨⟨_, rfl⟩, by omega, rfl⟩
  rw [if_pos rfl] at h
  injection h with _ h
  omega
theorem oper_inv_no {t : Str} {o z : Nat} (h : operator t false = (o, z)) (hz : z ≠ 0) : (∃ y, symbol o = some y) ∧ z ≤ t.length ∧ (o = 6 → z = 1 ∧ ∀ r, t ≠ 37 :: 37 :: r) ∧ (o = 6 → ∃ r, t = 37 :: r) ∧ (o = 8 → z = 1 ∧ (∃ r, t = 35 :: r) ∧ ∀ r, t ≠ 35 :: 35 :: r) ∧ (o = 1 → z = 1 ∧ bt t 0 = 45) ∧ (o = 3 → z = 1 ∧ bt t 0 = 63) := by
  have hle := operator_le2 t false
  rw [h] at hle
  refine (fun (q : (∃ y, symbol o = some y) ∧ (o = 6 → z = 1 ∧ ∀ r, t ≠ 37 :: 37 :: r) ∧ (o = 6 → ∃ r, t = 37 :: r) ∧ (o = 8 → z = 1 ∧ (∃ r, t = 35 :: r) ∧ ∀ r, t ≠ 35 :: 35 :: r) ∧ (o = 1 → z = 1 ∧ bt t 0 = 45) ∧ (o = 3 → z = 1 ∧ bt t 0 = 63)) => ⟨q.1, hle, q.2⟩) ?_
  unfold operator at h
  split at h
  · injection h with _ h; omega
  rename_i hne
  split at h
  · rename_i hb; injection h with h1 h2; subst h1 h2; exact ⟨⟨_, rfl⟩, by omega, by omega, by omega, fun _ => ⟨rfl, hb⟩, by omega⟩
  split at h
  · injection h with h1 h2; subst h1 h2; exact ⟨⟨_, rfl⟩, by omega, by omega, by omega, by omega, by omega⟩
  split at h
  · rename_i hb; injection h with h1 h2; subst h1 h2; exact ⟨⟨_, rfl⟩, by omega, by omega, by omega, by omega, fun _ => ⟨rfl, hb⟩⟩
  split at h
  · injection h with h1 h2; subst h1 h2; exact ⟨⟨_, rfl⟩, by omega, by omega, by omega, by omega, by omega⟩
  rw [if_neg (by simp)] at h
  have hd : ∀ {v : UInt8}, bt t 0 = (v.toNat : Int) → ∃ r, t = v :: r := fun {v} hv => by
    cases t with
    | nil => exact absurd rfl hne
    | cons x r => exact ⟨r, by rw [byte_of (show (x.toNat : Int) = v.toNat from hv)]⟩
  split at h
  · injection h with h1 h2; subst h1 h2; exact ⟨⟨_, rfl⟩, by omega, by omega, by omega, by omega, by omega⟩
  rename_i h37
  split at h
  · injection h with h1 h2; subst h1 h2; exact ⟨⟨_, rfl⟩, by omega, by omega, by omega, by omega, by omega⟩
  rename_i h35
  split at h
  · rename_i hb
    injection h with h1 h2; subst h1 h2
    exact ⟨⟨_, rfl⟩, fun _ => ⟨rfl, fun r e => h37 (by rw [e, hp2]; rfl)⟩, fun _ => hd (v := 37) hb, by omega, by omega, by omega⟩
  split at h
  · rename_i hb
    injection h with h1 h2; subst h1 h2
    exact ⟨⟨_, rfl⟩, by omega, by omega, fun _ => ⟨rfl, hd (v := 35) hb, fun r e => h35 (by rw [e, hp2]; rfl)⟩, by omega, by omega⟩
  · injection h with _ h; omega
where
  operator_le2 (t : Str) (colon : Bool) : (operator t colon).2 ≤ t.length := by
    unfold operator
    have h22 : ∀ {a b : UInt8}, Lib.hasPrefix t [a, b] = true → 2 ≤ t.length := by
      intro a b hx
      obtain ⟨r, hr⟩ := LX.has2 hx
      rw [hr]
      simp
    by_cases h0 : t = []
    · rw [if_pos h0]; exact Nat.zero_le _
    · have := List.length_pos_iff.2 h0
      rw [if_neg h0]
      repeat' split
      all_goals first | omega | (dsimp only; omega) | exact h22 (by assumption)
/-- What a part of kind 4 is good for, wherever it stands. -/
def K4 (pl lv : Nat) : Part → Prop
  | .mk k t o c ps => k = 4 ∧ NameT t ∧ ((o = 0 ∧ c = false ∧ ps = []) ∨ (o = 5 ∧ c = false ∧ ps = []) ∨ ((∃ y, symbol o = some y) ∧ (c = true → o ≤ 4) ∧ lv ≠ 32 ∧ Behind o c t (outL pl true (gpL ps) ++ [125]) ∧ okL pl true (lv + 1) 0 true ps))
theorem K4.ok {pl lv : Nat} {p : Part} (h : K4 pl lv p) (op fst : Bool) (nx : List Part) : okP pl op lv fst nx p ∧ p.kind = 4 := by
  obtain ⟨k, t, o, c, ps⟩ := p
  obtain ⟨rfl, h2, h3⟩ := h
  rw [okP]
  exact ⟨.inr (.inr (.inr (.inl ⟨rfl, h2, h3⟩))), rfl⟩
theorem braced3_A {f : Nat} (hA : AllA f) (hF : FB f) {c : Ctx} {st : St} (hp : Pre c st) {e k o z : Nat} {cl : Bool} {p : Part} {j : Nat} (hname : NameT (cut c.s (st.a + 2) e)) (hkz : k + z ≤ c.s.length) (hy : z ≠ 0 → ∃ y, symbol o = some y) (h4 : z ≠ 0 → cl = true → o ≤ 4)
    (hpct : o = 6 → ∀ r, c.s.drop (k + z) ≠ 37 :: r) (hhash : o = 8 → ∀ r, c.s.drop (k + z) ≠ 35 :: r) (hnone : cut c.s (st.a + 2) e = [35] → cl = false → o = 1 ∨ o = 3 ∨ o = 8 → ∀ r, c.s.drop (k + z) ≠ 125 :: r)
    (h : braced3 (nest f) c st e k o z cl = .ok (p, j)) : K4 c.pl c.lv p := by
  unfold braced3 at h
  split at h
  · cases h
  rename_i hz
  split at h
  · cases h
  rename_i hv
  split at h
  · cases h
  rename_i hj
  split at h
  · cases h
  · rename_i ps x hn
    injection h with h
    injection h with h1 h2
    rw [← h1]
    have hpre : Pre ⟨c.s, c.pl, true, c.lv + 1, st.a⟩ ⟨k + z, 0, [], []⟩ := pre_new hp.hl hkz hp.hpl (by show (0 : Int) ≤ st.a; omega)
    have hok := nested_ok hA hpre hn
    obtain ⟨y, hrun, hys⟩ := nest_ok hn
    obtain ⟨b, R, hb, hfb⟩ := hF _ _ y hpre rfl hrun
    have hb : c.s.drop (k + z) = b :: R := hb
    have hj2 : Lib.hasPrefix (b :: R) [92, 10] = false := by rw [← hb]; simpa using hj
    have hfb2 := hfb hj2
    rw [← hys] at hfb2
    have hne : oL c.pl true ps ++ [125] ≠ [] := by simp
    refine ⟨rfl, hname, .inr (.inr ⟨hy hz, h4 hz, hv, ⟨fun ho r e => ?_, fun ho r e => ?_, fun r e => no_join hok r e, fun a1 a2 a3 r e => ?_, hne⟩, hok⟩)⟩
    · have := hfb2 37 r e (.inr (.inl rfl))
      exact hpct ho R (by rw [hb, ← this])
    · have := hfb2 35 r e (.inl rfl)
      exact hhash ho R (by rw [hb, ← this])
    · have := hfb2 125 r e (.inr (.inr rfl))
      exact hnone a1 a2 a3 R (by rw [hb, ← this])
end WP
end Go.Proofs.YtmgomklpjjkehaaGreat
namespace Go.Proofs.YtmgomklpjjkehaaGreat
open K
namespace WP
theorem oper_zero {t : Str} {cl : Bool} (h : (operator t cl).2 = 0) : (operator t cl).1 = 0 := by
  unfold operator at h ⊢
  repeat' split
  all_goals first | rfl | (simp_all; done)
theorem braced_A {f : Nat} (hA : AllA f) (hF : FB f) {c : Ctx} {st : St} (hp : Pre c st) (ha : st.a + 2 ≤ c.s.length) {p : Part} {j : Nat} (h : braced (nest f) c st = .ok (p, j)) : K4 c.pl c.lv p := by
  have hpar := parameter_le' ha
  unfold braced at h
  split at h
  · cases h
  · rename_i r hr
    injection h with h
    unfold braced1 at hr
    split at hr
    · rename_i hc
      split at hr
      · cases hr
      rename_i htl
      split at hr
      · cases hr
      split at hr
      · injection hr with hr
        injection hr with hr
        rw [h] at hr
        injection hr with h1 h2
        rw [← h1]
        exact ⟨rfl, name_of (by omega) hc.2.2 (by simpa using htl), .inr (.inl ⟨rfl, rfl, rfl⟩)⟩
      split at hr
      · cases hr
      · injection hr with hr; cases hr
    · injection hr with hr; cases hr
  · rename_i hb1
    unfold braced2 at h
    split at h
    · cases h
    rename_i hne
    split at h
    · cases h
    rename_i htl
    obtain ⟨e, he⟩ : ∃ e, parameter c.s (st.a + 2) = e := ⟨_, rfl⟩
    have hname : NameT (cut c.s (st.a + 2) e) := by rw [← he]; exact name_of ha (by omega) (by simpa using htl)
    rw [he] at h hpar hne
    split at h
    · injection h with h
      injection h with h1 h2
      rw [← h1]
      exact ⟨rfl, hname, .inl ⟨rfl, rfl, rfl⟩⟩
    split at h
    · rename_i h58
      obtain ⟨r, hr⟩ := LX.has1 h58
      have h7 := (LX.drop_head hr).1
      have h8 := operator_le' (c.s.drop (e + 1)) true
      rw [List.length_drop] at h8
      obtain ⟨o, z, hoz⟩ : ∃ o z, operator (c.s.drop (e + 1)) true = (o, z) := ⟨_, _, rfl⟩
      rw [hoz] at h h8
      have hz0 : z = 0 → o = 0 := fun e0 => by have := oper_zero (t := c.s.drop (e + 1)) (cl := true); rw [hoz] at this; exact this e0
      have ho4 : o ≤ 4 := by
        by_cases hz : z = 0
        · rw [hz0 hz]; omega
        · exact (oper_inv_yes hoz hz).2.1
      exact braced3_A hA hF hp hname (by dsimp only at h8 ⊢; omega) (fun hz => (oper_inv_yes hoz hz).1) (fun _ _ => ho4) (fun e0 => by omega) (fun e0 => by omega) (fun _ e0 => by cases e0) h
    · have h8 := operator_le' (c.s.drop e) false
      rw [List.length_drop] at h8
      obtain ⟨o, z, hoz⟩ : ∃ o z, operator (c.s.drop e) false = (o, z) := ⟨_, _, rfl⟩
      rw [hoz] at h h8
      have hz0 : z = 0 → o = 0 := fun e0 => by have := oper_zero (t := c.s.drop e) (cl := false); rw [hoz] at this; exact this e0
      have hzz : o ≠ 0 → z ≠ 0 := fun h1 h2 => h1 (hz0 h2)
      refine braced3_A hA hF hp hname (by dsimp only at h8 ⊢; omega) (fun hz => (oper_inv_no hoz hz).1) (fun _ e0 => by cases e0) (fun e0 r er => ?_) (fun e0 r er => ?_) (fun hc _ ho r er => ?_) h
      · obtain ⟨-, -, q1, q2, -⟩ := oper_inv_no hoz (hzz (by omega))
        obtain ⟨q3, q4⟩ := q1 e0
        obtain ⟨r1, q5⟩ := q2 e0
        obtain ⟨-, -, q6⟩ := LX.drop_head q5
        rw [q3, q6] at er
        exact q4 r (by rw [q5, er])
      · obtain ⟨-, -, -, -, q1, -⟩ := oper_inv_no hoz (hzz (by omega))
        obtain ⟨q3, ⟨r1, q5⟩, q4⟩ := q1 e0
        obtain ⟨-, -, q6⟩ := LX.drop_head q5
        rw [q3, q6] at er
        exact q4 r (by rw [q5, er])
      · obtain ⟨-, -, -, -, q8, q1, q3⟩ := oper_inv_no hoz (hzz (by omega))
        have hel : e = st.a + 3 := by
          have := congrArg List.length hc
          rw [cut_length] at this
          simp only [List.length_cons, List.length_nil] at this
          omega
        subst hel
        have hb35 : bt c.s (st.a + 2) = 35 := by
          have h1 := bt_cut c.s (st.a + 2) (st.a + 3) 0 (by omega)
          rw [hc, Nat.add_zero] at h1
          exact h1.symm
        have hz1 : z = 1 := by
          rcases ho with ho | ho | ho
          · exact (q1 ho).1
          · exact (q3 ho).1
          · exact (q8 ho).1
        have hbo : one8 (bt c.s (st.a + 3)) = true ∧ LX.starts (bt c.s (st.a + 3)) = false := by
          have hne0 : c.s.drop (st.a + 3) ≠ [] := by
            intro e0
            rw [e0] at hoz
            have : operator [] false = (0, 0) := rfl
            rw [this] at hoz
            injection hoz with h1 h2
            omega
          have hbb : bt c.s (st.a + 3) = bt (c.s.drop (st.a + 3)) 0 := bt_at (r := []) (by rw [List.append_nil]) hne0
          rcases ho with ho | ho | ho
          · rw [hbb, (q1 ho).2]; decide
          · rw [hbb, (q3 ho).2]; decide
          · obtain ⟨r1, q5⟩ := (q8 ho).2.1
            rw [hbb, q5, show bt (35 :: r1) 0 = (35 : Int) from rfl]
            decide
        rw [hz1] at er
        obtain ⟨g1, g2, -⟩ := LX.drop_head er
        have hpar2 : parameter c.s (st.a + 3) = st.a + 4 := by
          unfold parameter
          rw [if_neg (by omega), if_pos hbo.1]
        have htl2 : tooLong c.s (st.a + 3) (st.a + 4) = false := by
          unfold tooLong
          rw [hbo.2, Bool.false_and]
        unfold braced1 at hb1
        rw [hpar2, if_pos ⟨by omega, hb35, by omega⟩, htl2, if_neg (by simp), if_neg (by omega), if_pos (by rw [g2]; rfl)] at hb1
        injection hb1 with hb1
        cases hb1
theorem dollar_A {f : Nat} (hA : AllA f) (hF : FB f) {c : Ctx} {st st1 : St} (hp : Pre c st) {R : Str} (hd : c.s.drop st.a = 36 :: R) (hi : Inv c st1) (h : dollar (nest f) c st = .ok st1) : Step c st st1 := by
  obtain ⟨d1, d2', d3⟩ := LX.drop_head hd
  have d2 : bt c.s st.a = 36 := d2'
  have hnt := no_tilde hp hd (hp2h fun w r e => by injection e with e _; rw [← e]; decide) (by decide) (by decide)
  have hlone : c.pl = 0 → ∀ u, st.tx = u ++ [36] → False := fun h0 u e => by
    have := (hp.lone h0 u e 36 R hd).1.one
    exact absurd this (by decide)
  unfold dollar at h
  rw [d3] at h
  split at h
  · rename_i h40
    split at h
    · cases h
    rename_i hv
    split at h
    · cases h
    · rename_i ps e hn
      injection h with h
      subst h
      obtain ⟨r, hr⟩ := LX.has2 h40
      rw [hr] at d3
      have e1 := LX.drop_head d3
      have e2 := LX.drop_head e1.2.2
      have hok := nested_ok hA (pre_new (c := ⟨c.s, 2, false, c.lv + 1, st.a⟩) hp.hl (by show st.a + 3 ≤ c.s.length; omega) (by show (2 : Nat) ≤ 2; omega) (by show (0 : Int) ≤ st.a; omega)) hn
      exact step_add hp hi (by show (6 : Nat) ≠ 1; decide) (fun h7 => absurd h7 (by show ¬ (6 : Nat) = 7; decide)) (fun _ => hnt) (fun h7 => absurd h7 (by show ¬ (6 : Nat) = 7; decide)) (fun L _ => by rw [okP]; exact .inr (.inr (.inr (.inr (.inr (.inl ⟨rfl, rfl, rfl, rfl, hv, hok⟩)))))) (fun h0 u e => (hlone h0 u e).elim)
  rename_i hn40
  split at h
  · rename_i h40
    split at h
    · cases h
    · rename_i e he
      injection h with h
      subst h
      obtain ⟨r, hr⟩ := LX.has1 h40
      have e1 := LX.drop_head (by rw [← d3] at hr; exact hr)
      have hcm := cmd_of hp.hl he d2 e1.2.1 (by rw [d3]; simpa using hn40)
      exact step_add hp hi (by show (5 : Nat) ≠ 1; decide) (fun h7 => absurd h7 (by show ¬ (5 : Nat) = 7; decide)) (fun _ => hnt) (fun h7 => absurd h7 (by show ¬ (5 : Nat) = 7; decide)) (fun L _ => by rw [okP]; exact .inr (.inr (.inr (.inr (.inl ⟨rfl, rfl, rfl, rfl, hcm⟩))))) (fun h0 u e => (hlone h0 u e).elim)
  rename_i hn40'
  split at h
  · rename_i h123
    split at h
    · cases h
    · rename_i p e hbr
      injection h with h
      subst h
      obtain ⟨r, hr⟩ := LX.has1 h123
      have e1 := LX.drop_head (by rw [← d3] at hr; exact hr)
      have hk := braced_A hA hF hp (by omega) hbr
      have hk4 := (hk.ok c.op true []).2
      exact step_add hp hi (by rw [hk4]; decide) (fun h7 => by rw [hk4] at h7; cases h7) (fun _ => hnt) (fun h7 => by rw [hk4] at h7; cases h7) (fun L _ => (hk.ok c.op _ L).1) (fun h0 u e => (hlone h0 u e).elim)
  rename_i hn123
  split at h
  · rename_i hdg
    injection h with h
    subst h
    have hc := cut_one c.s (st.a + 1) hdg.1
    obtain ⟨y, hy, hb⟩ := cons_at hdg.1
    rw [hb, K.by8_of] at hc
    have hk : K4 c.pl c.lv (.mk 4 (cut c.s (st.a + 1) (st.a + 2)) 0 false []) := ⟨rfl, by rw [show st.a + 2 = st.a + 1 + 1 from rfl, hc]; exact name_digit (by rw [← hb]; exact hdg.2), .inl ⟨rfl, rfl, rfl⟩⟩
    have hk4 := (hk.ok c.op true []).2
    exact step_add hp hi (by rw [hk4]; decide) (fun h7 => by rw [hk4] at h7; cases h7) (fun _ => hnt) (fun h7 => by rw [hk4] at h7; cases h7) (fun L _ => (hk.ok c.op _ L).1) (fun h0 u e => (hlone h0 u e).elim)
  rename_i hndg
  split at h
  · rename_i hpar
    split at h
    · cases h
    · rename_i htl
      injection h with h
      subst h
      have hk : K4 c.pl c.lv (.mk 4 (cut c.s (st.a + 1) (parameter c.s (st.a + 1))) 0 false []) := ⟨rfl, name_of (by omega) hpar (by simpa using htl), .inl ⟨rfl, rfl, rfl⟩⟩
      have hk4 := (hk.ok c.op true []).2
      exact step_add hp hi (by rw [hk4]; decide) (fun h7 => by rw [hk4] at h7; cases h7) (fun _ => hnt) (fun h7 => by rw [hk4] at h7; cases h7) (fun L _ => (hk.ok c.op _ L).1) (fun h0 u e => (hlone h0 u e).elim)
  rename_i hnpar
  split at h
  · cases h
  · rename_i hnbq
    injection h with h
    subst h
    have hpre : Pre c (lit 36 1 st) := by
      by_cases h0 : c.pl = 0
      · refine pre_lit0 hp hi h0 hd ⟨by decide, by decide, by decide, by decide, fun h9 => absurd h9 (by decide), fun _ => by decide⟩ (fun _ => ?_) (fun e => absurd e (by decide))
        intro y r e
        subst e
        obtain ⟨g1, g2, -⟩ := LX.drop_head d3
        have hpe : parameter c.s (st.a + 1) = st.a + 1 := by have := (parameter_le' (show st.a + 1 ≤ c.s.length by omega)).1; omega
        refine ⟨⟨?_, ?_, ?_, ?_, ?_, ?_⟩, fun e92 z r' er => ?_⟩
        · cases h8 : one8 (y.toNat : Int) with
          | false => rfl
          | true =>
            unfold parameter at hpe
            rw [if_neg (by omega), g2, if_pos h8] at hpe
            omega
        · cases h8 : LX.digit (y.toNat : Int) with
          | false => rfl
          | true => exact absurd ⟨g1, by rw [g2]; exact h8⟩ hndg
        · cases h8 : LX.starts (y.toNat : Int) with
          | false => rfl
          | true =>
            have ho : one8 (y.toNat : Int) = false := by
              cases h9 : one8 (y.toNat : Int) with
              | false => rfl
              | true => rw [(disj y.toNat y.toNat_lt).1 h9] at h8; cases h8
            have hg : LX.digit (y.toNat : Int) = false := by
              cases h9 : LX.digit (y.toNat : Int) with
              | false => rfl
              | true => rw [(disj y.toNat y.toNat_lt).2 h9] at h8; cases h8
            unfold parameter at hpe
            rw [if_neg (by omega), g2, ho, hg, h8, if_neg (by simp), if_neg (by simp), if_pos rfl, LX.nameEnd_go g1 (by rw [g2, h8]; rfl)] at hpe
            have := LX.nameEnd_ge c.s (st.a + 1 + 1)
            omega
        · rintro rfl
          exact hn40' (by rw [hp1]; rfl)
        · rintro rfl
          exact hn123 (by rw [hp1]; rfl)
        · rintro rfl
          exact hnbq ⟨h0, .inl (by rw [hp1]; rfl)⟩
        · rintro rfl
          subst e92
          subst er
          exact hnbq ⟨h0, .inr (by rw [hp2]; rfl)⟩
      · exact pre_litQ hp h0 hi hp.dep (by simp [lit])
    refine step_lit (x := 36) hpre rfl rfl (fun u d' hu => ?_) (fun e1 e2 => (hnt e1 e2).elim) (fun y R' e => by rw [hd] at e; injection e with e _; exact .inl e)
    have hu : dps c.pl c.op st.dep u = some d' := hu
    unfold dps at hu ⊢
    split
    · rename_i hc
      rw [if_pos hc] at hu
      rw [dpt, if_neg (by decide), if_neg (by decide)]
      exact hu
    · rename_i hc
      rw [if_neg hc] at hu
      exact hu
end WP
end Go.Proofs.YtmgomklpjjkehaaGreat
namespace Go.Proofs.YtmgomklpjjkehaaGreat
open K
namespace WP
theorem Step.trans {c : Ctx} {a b d : St} (h : Step c a b) (k : Step c b d) : Step c a d := by
  refine ⟨k.1, fun L hL => ?_⟩
  obtain ⟨M, m1, m2, -⟩ := k.2 L hL
  obtain ⟨L0, n1, n2, n3⟩ := h.2 M m1
  exact ⟨L0, n1, by rw [m2, n2], n3⟩
theorem dps_plain {c : Ctx} {d d' : Nat} {x : UInt8} {u : Str} (hx : c.pl = 2 → c.op = false → x ≠ 40 ∧ x ≠ 41) (h : dps c.pl c.op d u = some d') : dps c.pl c.op d (x :: u) = some d' := by
  unfold dps at h ⊢
  split
  · rename_i hc
    rw [if_pos hc] at h
    rw [dpt, if_neg (hx hc.1 hc.2).1, if_neg (hx hc.1 hc.2).2]
    exact h
  · rename_i hc
    rw [if_neg hc] at h
    exact h
theorem next_A {f : Nat} (hA : AllA f) (hF : FB f) {c : Ctx} {st st1 : St} (hp : Pre c st) (he : ended c st = .ok false) (h : next (nest f) c st = .ok st1) : Step c st st1 := by
  have ha : st.a < c.s.length := by
    rcases Nat.lt_or_ge st.a c.s.length with h1 | h1
    · exact h1
    · have h2 := hp.inv.le
      unfold ended at he
      rw [if_pos (by omega)] at he
      split at he
      · cases he
      · injection he with he; cases he
  have hi := (next_good (nest_good f c.s) hp.inv ha h).2
  obtain ⟨x, hd, hb⟩ := cons_at ha
  obtain ⟨R, hR⟩ : ∃ R, c.s.drop (st.a + 1) = R := ⟨_, rfl⟩
  rw [hR] at hd
  have hop : c.op = true → x ≠ 125 := fun ho => by
    rintro rfl
    unfold ended at he
    rw [if_neg (by omega), if_pos ho, hb] at he
    injection he with he
    exact absurd he (by decide)
  unfold next at h
  split at h
  · rename_i h92
    have hx : x = 92 := byte_of (by rw [← hb, h92]; rfl)
    subst hx
    unfold backslash at h
    split at h
    · split at h
      · rename_i h3; have := hp.hpl; omega
      · cases h
    rename_i hlast
    obtain ⟨y, hy, hby⟩ := cons_at (s := c.s) (a := st.a + 1) (by omega)
    obtain ⟨R2, hR2⟩ : ∃ R2, c.s.drop (st.a + 1 + 1) = R2 := ⟨_, rfl⟩
    rw [hR, hR2] at hy
    subst hy
    split at h
    · rename_i h10
      have hy : y = 10 := byte_of (by rw [← hby, h10]; rfl)
      subst hy
      injection h with h
      subst h
      exact step_skip hp hi hd
    rename_i h10
    have hy10 : y ≠ 10 := by rintro rfl; exact h10 (by rw [hby]; rfl)
    have hnt := no_tilde hp hd (by rw [hp2]; exact decide_eq_false fun e => hy10 e.2) (by decide) (by decide)
    split at h
    · rename_i h0
      injection h with h
      subst h
      have hc := cut_one c.s (st.a + 1) (by omega)
      rw [hby, K.by8_of] at hc
      refine step_add hp hi (by show (2 : Nat) ≠ 1; decide) (fun h7 => absurd h7 (by show ¬ (2 : Nat) = 7; decide)) (fun _ => hnt) (fun h7 => absurd h7 (by show ¬ (2 : Nat) = 7; decide)) (fun L _ => ?_) (fun _ _ _ => .inl rfl)
      rw [okP]
      refine .inr (.inl ⟨rfl, rfl, rfl, rfl, h0, ?_⟩)
      rw [show st.a + 2 = st.a + 1 + 1 from rfl, hc]
      by_cases h39 : y = 39
      · exact .inl (by rw [h39])
      · refine .inr fun j hj => ?_
        cases j with
        | zero => simp at hj; exact h39 hj
        | succ j => simp at hj
    rename_i h0
    have hpl0 : st.tx = [] → st.ls = [tp] → y = 47 := fun e1 e2 => absurd (hp.ptil e1 e2).1 h0
    split at h
    · rename_i hesc
      injection h with h
      subst h
      rw [hby] at hesc
      have hne : y ≠ 40 ∧ y ≠ 41 := by
        constructor
        · rintro rfl; unfold escapes at hesc; simp at hesc
        · rintro rfl; unfold escapes at hesc; simp at hesc
      have hby8 : by8 (bt c.s (st.a + 1)) = y := by rw [hby, K.by8_of]
      rw [hby8] at hi ⊢
      exact step_lit (x := y) (pre_litQ hp h0 hi hp.dep (by simp [lit])) rfl rfl (fun u d' hu => dps_plain (fun _ _ => hne) hu) hpl0 (fun _ _ _ => .inr hesc)
    split at h
    · cases h
    · rename_i hpar
      injection h with h
      subst h
      have hby8 : by8 (bt c.s (st.a + 1)) = y := by rw [hby, K.by8_of]
      rw [hby8] at hi ⊢
      have hi1 : Inv c (lit 92 1 st) := ⟨by show st.a + 1 ≤ c.s.length; omega, by show st.ls.length + (st.tx ++ [92]).length ≤ st.a + 1; have := hp.inv.sum; rw [List.length_append, List.length_singleton]; omega, by show st.dep ≤ st.a + 1; have := hp.inv.dep; omega⟩
      have hpre1 : Pre c (lit 92 1 st) := pre_litQ hp h0 hi1 hp.dep (by simp [lit])
      have s1 : Step c st (lit 92 1 st) := step_lit (x := 92) hpre1 rfl rfl (fun u d' hu => dps_plain (fun _ _ => ⟨by decide, by decide⟩) hu) (fun e1 e2 => absurd (hp.ptil e1 e2).1 h0) (fun z R' e => by rw [hd] at e; injection e with e _; exact .inl e)
      have hdr : c.s.drop (lit 92 1 st).a = y :: R2 := hR
      have s2 : Step c (lit 92 1 st) (lit y 1 (lit 92 1 st)) := step_lit (x := y) (pre_litQ hpre1 h0 hi hpre1.dep (by simp [lit])) rfl rfl (fun u d' hu => dps_plain (fun e1 e2 => ⟨by rintro rfl; exact hpar ⟨e1, e2, .inl (by rw [hby]; rfl)⟩, by rintro rfl; exact hpar ⟨e1, e2, .inr (by rw [hby]; rfl)⟩⟩) hu) (fun e1 _ => by simp [lit] at e1) (fun z R' e => by rw [hdr] at e; injection e with e _; exact .inl e)
      exact s1.trans s2
  rename_i n92
  have hx92 : x ≠ 92 := by rintro rfl; exact n92 (by rw [hb]; rfl)
  split at h
  · rename_i h36
    have hx : x = 36 := byte_of (by rw [← hb, h36]; rfl)
    subst hx
    exact dollar_A hA hF hp hd hi h
  rename_i n36
  have hx36 : x ≠ 36 := by rintro rfl; exact n36 (by rw [hb]; rfl)
  have hpj : Lib.hasPrefix (x :: R) [92, 10] = false := hp2h fun w r e => by injection e with e _; rw [← e]; exact hx92
  split at h
  · rename_i h96
    have hx : x = 96 := byte_of (by rw [← hb, h96]; rfl)
    subst hx
    have hnt := no_tilde hp hd hpj (by decide) (by decide)
    unfold backquoted at h
    split at h
    · cases h
    · rename_i e hc
      have h40 : ∀ v r, bqText (unq (cut c.s (st.a + 1) (e - 1))) = v :: r → v ≠ 40 := fun v r ev => by
        unfold bqText at ev
        split at ev
        · injection ev with ev _; rw [← ev]; decide
        · rename_i hnp
          rintro rfl
          exact hnp (by rw [ev, hp1]; rfl)
      split at h
      · rename_i hs
        injection h with h
        subst h
        exact step_add hp hi (by show (5 : Nat) ≠ 1; decide) (fun h7 => absurd h7 (by show ¬ (5 : Nat) = 7; decide)) (fun _ => hnt) (fun h7 => absurd h7 (by show ¬ (5 : Nat) = 7; decide)) (fun L _ => by rw [okP]; exact .inr (.inr (.inr (.inr (.inl ⟨rfl, rfl, rfl, rfl, hs, h40⟩))))) (fun h0 u e2 => absurd rfl (hp.lone h0 u e2 96 R hd).1.n96)
      split at h
      · rename_i hs
        injection h with h
        subst h
        have h41 : ∀ v r, bqText (unq (cut c.s (st.a + 1) (e - 1))) ++ [10] = v :: r → v ≠ 40 := fun v r ev => by
          cases ht : bqText (unq (cut c.s (st.a + 1) (e - 1))) with
          | nil => rw [ht] at ev; injection ev with ev _; rw [← ev]; decide
          | cons v' r' => rw [ht] at ev; injection ev with ev _; rw [← ev]; exact h40 v' r' ht
        exact step_add hp hi (by show (5 : Nat) ≠ 1; decide) (fun h7 => absurd h7 (by show ¬ (5 : Nat) = 7; decide)) (fun _ => hnt) (fun h7 => absurd h7 (by show ¬ (5 : Nat) = 7; decide)) (fun L _ => by rw [okP]; exact .inr (.inr (.inr (.inr (.inl ⟨rfl, rfl, rfl, rfl, hs, h41⟩))))) (fun h0 u e2 => absurd rfl (hp.lone h0 u e2 96 R hd).1.n96)
      · cases h
  rename_i n96
  have hx96 : x ≠ 96 := by rintro rfl; exact n96 (by rw [hb]; rfl)
  have hby8 : by8 (bt c.s st.a) = x := by rw [hb, K.by8_of]
  split at h
  · rename_i h0
    unfold unquoted at h
    split at h
    · rename_i h39
      have hx : x = 39 := byte_of (by rw [← hb, h39]; rfl)
      subst hx
      have hnt := no_tilde hp hd hpj (by decide) (by decide)
      split at h
      · cases h
      · rename_i e hc
        injection h with h
        subst h
        exact step_add hp hi (by show (2 : Nat) ≠ 1; decide) (fun h7 => absurd h7 (by show ¬ (2 : Nat) = 7; decide)) (fun _ => hnt) (fun h7 => absurd h7 (by show ¬ (2 : Nat) = 7; decide)) (fun L _ => by rw [okP]; exact .inr (.inl ⟨rfl, rfl, rfl, rfl, h0, .inr (single_of hc h39)⟩)) (fun _ _ _ => .inl rfl)
    rename_i n39
    have hx39 : x ≠ 39 := by rintro rfl; exact n39 (by rw [hb]; rfl)
    split at h
    · rename_i h34
      have hx : x = 34 := byte_of (by rw [← hb, h34]; rfl)
      subst hx
      have hnt := no_tilde hp hd hpj (by decide) (by decide)
      split at h
      · cases h
      rename_i hv
      split at h
      · cases h
      · rename_i ps e hn
        injection h with h
        subst h
        have hok := nested_ok hA (pre_new (c := ⟨c.s, 1, false, c.lv + 1, st.a⟩) hp.hl (by show st.a + 1 ≤ c.s.length; omega) (by show (1 : Nat) ≤ 2; omega) (by show (0 : Int) ≤ st.a; omega)) hn
        exact step_add hp hi (by show (3 : Nat) ≠ 1; decide) (fun h7 => absurd h7 (by show ¬ (3 : Nat) = 7; decide)) (fun _ => hnt) (fun h7 => absurd h7 (by show ¬ (3 : Nat) = 7; decide)) (fun L _ => by rw [okP]; exact .inr (.inr (.inl ⟨rfl, rfl, rfl, rfl, h0, hv, hok⟩))) (fun _ _ _ => .inr rfl)
    rename_i n34
    have hx34 : x ≠ 34 := by rintro rfl; exact n34 (by rw [hb]; rfl)
    have h47 : st.tx = [] → st.ls = [tp] → x = 47 := fun e1 e2 => by
      obtain ⟨-, ht⟩ := hp.ptil e1 e2
      unfold tilE at ht
      rw [hd, ST_self hpj] at ht
      rcases ht with ht | ht | ⟨ho, ht⟩
      · cases ht
      · exact byte_of ht
      · exact absurd (byte_of (y := 125) ht) (hop ho)
    have hlit : ∀ (hch : Ch c.op x) (h126 : x = 126 → st.ls = [] → st.tx = [] → ¬ tilE c.op R) (hi' : Inv c (lit x 1 st)), Step c st (lit x 1 st) := fun hch h126 hi' =>
      step_lit (x := x) (pre_lit0 hp hi' h0 hd hch (fun e => absurd e hx36) h126) rfl rfl (fun u d' hu => dps_plain (fun e _ => by omega) hu) h47 (fun y R' e => by rw [hd] at e; injection e with e _; exact .inl e)
    split at h
    · rename_i hdv
      split at h
      · rename_i ho
        injection h with h
        subst h
        rw [hby8] at hi ⊢
        exact hlit ⟨hx92, hx96, hx39, hx34, fun _ => ho, hop⟩ (fun e => by subst e; rw [hb] at hdv; exact absurd hdv (by decide)) hi
      · cases h
    rename_i ndv
    split at h
    · rename_i htl
      injection h with h
      subst h
      have hx : x = 126 := byte_of (by rw [← hb, htl.1]; rfl)
      have ht := htl.2
      unfold tilde at ht
      rw [Bool.and_eq_true] at ht
      have hlt := of_decide_eq_true ht.1
      have hte := (tildeAt_iff ha).1 ht.2
      refine step_add hp hi (by show (7 : Nat) ≠ 1; decide) (fun _ => ⟨h0, hte⟩) (fun h7 => absurd rfl h7) (fun _ => hlt) (fun L hL => ?_) (fun _ u e => by rw [hlt.2] at e; simp at e)
      obtain ⟨f1, f2, f3, f4⟩ := add_fields (.mk 7 [] 0 false []) (st.a + 1) st
      have hls : (flush st).ls = [] := by rw [flush_ls0 hlt.2]; exact hlt.1
      rw [okP]
      exact .inr (.inr (.inr (.inr (.inr (.inr ⟨rfl, rfl, rfl, rfl, rfl, h0, decide_eq_true hls, hL.til f3 (by rw [f4, hls]; rfl)⟩)))))
    · rename_i ntl
      injection h with h
      subst h
      rw [hby8] at hi ⊢
      refine hlit ⟨hx92, hx96, hx39, hx34, fun hdv => absurd (by rw [hb]; exact hdv) ndv, hop⟩ (fun e e1 e2 e3 => ?_) hi
      subst e
      refine ntl ⟨by rw [hb]; rfl, ?_⟩
      unfold tilde
      rw [decide_eq_true ⟨e1, e2⟩, Bool.true_and]
      exact (tildeAt_iff ha).2 (by rw [hR]; exact e3)
  rename_i h0
  split at h
  · cases h
  · rename_i n34
    injection h with h
    subst h
    rw [hby8] at hi ⊢
    have hdd : ¬ (c.pl = 2 ∧ c.op = false) → (lit x 1 { st with dep := depth c st }).dep = 0 := fun hc => by
      show depth c st = 0
      rw [dep_eq c st x hb, if_neg hc]
      exact hp.dep hc
    have hnt : st.tx = [] → st.ls = [tp] → x = 47 := fun e1 e2 => absurd (hp.ptil e1 e2).1 h0
    refine step_lit (x := x) (pre_litQ hp h0 hi hdd (by simp [lit])) rfl rfl (fun u d' hu => ?_) hnt (fun y R' e => by rw [hd] at e; injection e with e _; exact .inl e)
    have hu : dps c.pl c.op (depth c st) u = some d' := hu
    rw [dep_eq c st x hb] at hu
    unfold dps at hu ⊢
    split
    · rename_i hc
      rw [if_pos hc, if_pos hc] at hu
      rw [dpt]
      by_cases h40 : x = 40
      · rw [if_pos h40] at hu ⊢; exact hu
      rw [if_neg h40] at hu ⊢
      by_cases h41 : x = 41
      · rw [if_pos h41] at hu ⊢
        rw [if_neg]
        · exact hu
        intro hd0
        unfold ended at he
        rw [if_neg (by omega), if_neg (by rw [hc.2]; simp), if_neg (by omega), if_pos ⟨hc.1, by rw [hb, h41]; rfl, hd0⟩] at he
        split at he
        · cases he
        split at he
        · injection he with he; cases he
        · cases he
      · rw [if_neg h41] at hu ⊢; exact hu
    · rename_i hc
      rw [if_neg hc, if_neg hc] at hu
      exact hu
theorem out_ne {pl : Nat} {op : Bool} {lv d : Nat} {fst : Bool} {ps : List Part} (h : okL pl op lv d fst ps) (hne : ps ≠ []) : ∃ z q, oL pl op ps = z :: q := by
  cases ps with
  | nil => exact absurd rfl hne
  | cons p r =>
    rw [okL] at h
    by_cases hk : p.kind = 1
    · obtain ⟨k, t, o, cl, ps⟩ := p
      have hk : k = 1 := hk
      subst hk
      have h1 := h.1
      rw [okP] at h1
      rcases h1 with ⟨-, rfl, rfl, rfl, ht, -⟩ | ⟨h, -⟩ | ⟨h, -⟩ | ⟨h, -⟩ | ⟨h, -⟩ | ⟨h, -⟩ | ⟨h, -⟩
      · cases t with
        | nil => exact absurd rfl ht
        | cons x u =>
          obtain ⟨z, q, e, -⟩ := oL_text pl op x u r
          exact ⟨z, q, e⟩
      all_goals exact absurd h (by decide)
    · obtain ⟨y, w, hq, -⟩ := out_head (n := nextB (gpL r)) h.1 hk
      refine ⟨y, w ++ oL pl op r, ?_⟩
      unfold oL
      rw [gpL, outL, hq, List.cons_append]
theorem end_A {c : Ctx} {st : St} (hp : Pre c st) (he : ended c st = .ok true) : ∃ L, (flush st).ls = st.ls ++ L ∧ OutA c st L := by
  have hdep : st.dep = 0 := by
    by_cases hc : c.pl = 2 ∧ c.op = false
    · have ho := hp.opn (by omega)
      unfold ended at he
      split at he
      · first | cases he | (rw [if_pos ho] at he; cases he)
      rw [if_neg (by rw [hc.2]; simp), if_neg (by omega)] at he
      split at he
      · rename_i h; exact h.2.2
      · injection he with he; cases he
    · exact hp.dep hc
  by_cases ht : st.tx = []
  · exact ⟨[], by rw [flush_ls0 ht]; simp, fun _ => hdep, fun h => absurd ht h, fun _ _ => .inl rfl⟩
  · refine ⟨[.mk 1 st.tx 0 false []], by rw [flush_ls1 ht], fun h => absurd h ht, fun _ => ⟨[], [], 0, by rw [List.append_nil], (fun p r e => by cases e), fun h0 => ?_, ?_, rfl⟩, fun h => absurd h ht⟩
    · rw [List.append_nil]
      refine ⟨hp.tx0 h0, fun hs q e => ⟨fun hq => ?_, (hp.til h0 hs q e).2⟩⟩
      exfalso
      apply (hp.til h0 hs q e).1 hq
      unfold ended at he
      by_cases hl : st.a = c.s.length
      · left
        rw [hl, List.drop_length]
        rfl
      · rw [if_neg hl] at he
        by_cases ho : c.op = true
        · rw [if_pos ho] at he
          injection he with he
          have hb := of_decide_eq_true he
          have hlt : st.a < c.s.length := by have := hp.inv.le; omega
          obtain ⟨x, hd, hbx⟩ := cons_at hlt
          have hx : x = 125 := byte_of (by rw [← hbx, hb]; rfl)
          subst hx
          refine .inr (.inr ⟨ho, ?_⟩)
          rw [hd, ST_self (hp2h fun w r e => by injection e with e _; rw [← e]; decide)]
          rfl
        · rw [if_neg ho, if_neg (by omega), if_neg (by omega)] at he
          injection he with he
          cases he
    · rw [hdep]
      unfold dps
      split
      · rfl
      · rfl
theorem runs_all : ∀ f, AllA f ∧ FB f := by
  intro f
  induction f with
  | zero => exact ⟨(fun c st st' _ h => by rw [run] at h; cases h), (fun c k y _ _ h => by rw [run] at h; cases h)⟩
  | succ f ih =>
    obtain ⟨hA, hF⟩ := ih
    refine ⟨fun c st st' hp h => ?_, fun c k y hp ho h => ?_⟩
    · rw [run_succ] at h
      split at h
      · cases h
      · rename_i he
        injection h with h
        subst h
        exact end_A hp he
      · rename_i he
        split at h
        · cases h
        · rename_i st1 hn
          obtain ⟨h1, h2⟩ := next_A hA hF hp he hn
          obtain ⟨L, e1, e2⟩ := hA c st1 st' h1 h
          obtain ⟨L0, g1, g2, -⟩ := h2 L e2
          exact ⟨L0, by rw [e1, g2], g1⟩
    · rw [run_succ] at h
      have hlt : ∀ b, ended c ⟨k, 0, [], []⟩ = .ok b → k < c.s.length := fun b he => by
        have h2 : k ≤ c.s.length := hp.inv.le
        rcases Nat.lt_or_ge k c.s.length with h1 | h1
        · exact h1
        · unfold ended at he
          rw [if_pos (by show k = c.s.length; omega), if_pos (hp.opn (by rw [ho]; simp))] at he
          cases he
      split at h
      · cases h
      · rename_i he
        injection h with h
        subst h
        obtain ⟨x, hd, hb⟩ := cons_at (hlt _ he)
        refine ⟨x, _, hd, fun _ z q e _ => ?_⟩
        have hx : bt c.s k = 125 := by
          unfold ended at he
          rw [if_neg (by have := hlt _ he; show ¬ k = c.s.length; omega), if_pos ho] at he
          injection he with he
          exact of_decide_eq_true he
        have e : (125 :: [] : Str) = z :: q := e
        injection e with e _
        rw [← e]
        exact byte_of (by rw [← hb, hx]; rfl)
      · rename_i he
        obtain ⟨x, hd, hb⟩ := cons_at (hlt _ he)
        refine ⟨x, _, hd, fun hj z q e hz => ?_⟩
        split at h
        · cases h
        · rename_i st1 hn
          obtain ⟨h1, h2⟩ := next_A hA hF hp he hn
          obtain ⟨L, e1, e2⟩ := hA c st1 y h1 h
          obtain ⟨L0, g1, g2, g3⟩ := h2 L e2
          have hy : y.ls = L0 := by rw [e1, g2]; rfl
          obtain ⟨k1, k2⟩ := g3 rfl x _ hd hj
          obtain ⟨z', q', hz'⟩ := out_ne (g1.nil rfl) k1
          rw [ho] at hz' k2
          rw [hy, hz', List.cons_append] at e
          injection e with e _
          rw [← e] at hz ⊢
          exact k2 z' q' hz' hz
/-- What Parse gives of a word is read back from its source. -/
theorem parse_back {s : Str} {ps : List Part} (h : parse s 0 = .ok ps) (hs : s.length ≤ 1000) : parse (outL 0 false (gpL ps)) 0 = .ok ps := by
  obtain ⟨hcn, hsz⟩ := parse_wt h
  have hlen := outL_len 0 false (gpL ps)
  unfold parse at h
  rw [if_neg (by omega)] at h
  split at h
  · cases h
  · rename_i y hy
    injection h with h
    have hpre : Pre ⟨s, 0, false, 1, -1⟩ ⟨0, 0, [], []⟩ := ⟨by show s.length ≤ 16384; omega, ⟨Nat.zero_le _, Nat.zero_le _, Nat.zero_le _⟩, by show (0 : Nat) ≤ 2; omega, fun h => absurd ⟨rfl, rfl⟩ h, fun _ => rfl, fun _ => trivial, fun _ u e => by simp at e, fun _ _ q e => by simp at e, fun _ e => by simp [tp] at e⟩
    obtain ⟨L, e1, e2⟩ := (runs_all _).1 _ _ y hpre hy
    rw [List.nil_append] at e1
    have hok := e2.nil rfl
    rw [← e1, h] at hok
    unfold parse
    rw [if_neg (by omega)]
    obtain ⟨st', q1, q2, -⟩ := reads_all (cntL (gpL ps)) ps ⟨outL 0 false (gpL ps), 0, false, 1, -1⟩ ⟨0, 0, [], []⟩ [] ((outL 0 false (gpL ps)).length + 1) true (Nat.le_refl _) (by show (outL 0 false (gpL ps)).length ≤ 16384; omega) (by show (0 : Nat) ≤ 2; omega) hok (fun h => by cases h) (fun _ => ⟨rfl, rfl⟩) (fun h => absurd rfl h) (by unfold oL; simp) (Nat.zero_le _) (.inr (.inl ⟨rfl, rfl, rfl, by show ¬ (0 : Int) ≤ -1; decide⟩)) (by show (outL 0 false (gpL ps)).length - 0 < _; omega)
    rw [q1]
    dsimp only
    rw [q2]
    rfl
end WP
end Go.Proofs.YtmgomklpjjkehaaGreat
namespace Go.Proofs.YtmgomklpjjkehaaGreat
open K
namespace WP
mutual
theorem badP_no : ∀ (p : Part) (pl : Nat) (op : Bool) (lv : Nat) (fst : Bool) (nx : List Part), okP pl op lv fst nx p → badP (gp p) = false
  | .mk k t o c ps, pl, op, lv, fst, nx, h => by
    rw [okP] at h
    rw [gp, badP]
    rcases h with ⟨rfl, -⟩ | ⟨rfl, -⟩ | ⟨rfl, -, -, -, -, -, hin⟩ | ⟨rfl, -, ho⟩ | ⟨rfl, -⟩ | ⟨rfl, -, -, -, -, hin⟩ | ⟨rfl, -⟩
    · rw [if_neg (by omega), if_neg (by omega)]; rfl
    · rw [if_neg (by omega), if_neg (by omega)]; rfl
    · rw [if_pos (.inl (by rfl))]
      exact badL_no ps _ _ _ _ _ hin
    · rw [if_neg (by omega), if_pos (by rfl)]
      rcases ho with ⟨rfl, -⟩ | ⟨rfl, -⟩ | ⟨⟨y, hy⟩, -, -, -, hin⟩
      · rw [if_pos (.inl (by rfl))]
      · rw [if_pos (.inr (by rfl))]
      · split
        · rfl
        · rw [if_neg (by rw [hy]; simp)]
          exact badL_no ps _ _ _ _ _ hin
    · rw [if_neg (by omega), if_neg (by omega)]; rfl
    · rw [if_pos (.inr (by rfl))]
      exact badL_no ps _ _ _ _ _ hin
    · rw [if_neg (by omega), if_neg (by omega)]; rfl
theorem badL_no : ∀ (ps : List Part) (pl : Nat) (op : Bool) (lv d : Nat) (fst : Bool), okL pl op lv d fst ps → badL (gpL ps) = false
  | [], _, _, _, _, _, _ => by rw [gpL, badL]
  | p :: r, pl, op, lv, d, fst, h => by
    rw [okL] at h
    obtain ⟨h1, d', -, h2⟩ := h
    rw [gpL, badL, badP_no p _ _ _ _ _ h1, badL_no r _ _ _ _ _ h2]
    rfl
end
theorem parse_ok {s : Str} {ps : List Part} (h : parse s 0 = .ok ps) : okL 0 false 1 0 true ps := by
  unfold parse at h
  split at h
  · cases h
  rename_i hs
  split at h
  · cases h
  · rename_i y hy
    injection h with h
    have hpre : Pre ⟨s, 0, false, 1, -1⟩ ⟨0, 0, [], []⟩ := ⟨by show s.length ≤ 16384; omega, ⟨Nat.zero_le _, Nat.zero_le _, Nat.zero_le _⟩, by show (0 : Nat) ≤ 2; omega, fun h => absurd ⟨rfl, rfl⟩ h, fun _ => rfl, fun _ => trivial, fun _ u e => by simp at e, fun _ _ q e => by simp at e, fun _ e => by simp [tp] at e⟩
    obtain ⟨L, e1, e2⟩ := (runs_all _).1 _ _ y hpre hy
    rw [List.nil_append] at e1
    have hok := e2.nil rfl
    rw [← e1, h] at hok
    exact hok
/-- The plain law of WordsBack. -/
theorem show_back {s : Str} {ps : List Part} (h : parse s 0 = .ok ps) (hs : s.length ≤ 1000) : parse (outL 0 false (gpL ps)) 0 = .ok ps ∧ showG (gpL ps) = (outL 0 false (gpL ps), 0) ∧ (outL 0 false (gpL ps)).length ≤ 10 * s.length := by
  have hb := parse_back h hs
  obtain ⟨hcn, hsz⟩ := parse_wt h
  have hlen := outL_len 0 false (gpL ps)
  refine ⟨hb, ?_, by omega⟩
  have hv : validG (gpL ps) = (outL 0 false (gpL ps), true) := by
    unfold validG
    rw [badL_no ps _ _ _ _ _ (parse_ok h), if_neg (by simp), hb]
    dsimp only
    rw [sameL_refl]
  unfold showG
  rw [hv]
  rfl
end WP
end Go.Proofs.YtmgomklpjjkehaaGreat
