/- Chapter 34 in plain Lean: dispositions, requests, the next trap. -/
import Derived.Test.YtfigidknocpdaaaDoorP34c
namespace Go.Proofs.YtfigidknocpdaaaDoor
open K
namespace P
theorem fold_disp (n : Int) : ∀ {ts : List Tr} {p : Int} (G : Int → Option Int), rightL p ts = true →
    (ts.foldl (fun G t => upd G t.1 (dispOf t)) G) n = match look ts n with | some s => some (if s = [] then 1 else 2) | none => G n
  | [], _, _, _ => rfl
  | t :: r, p, G, h => by
    obtain ⟨a, b, c⟩ := rightL_cons.1 h
    rw [List.foldl_cons, fold_disp n _ c, look_cons]
    by_cases e : t.1 = n
    · rw [if_pos e, rightL_none c (by omega)]
      simp [upd, e, dispOf]
    · rw [if_neg e]
      cases look r n with
      | some s => rfl
      | none =>
        show upd G t.1 (dispOf t) n = G n
        unfold upd
        rw [if_neg (by omega)]
theorem disp_eq {ts : List Tr} (h : right ts = true) (talks : Bool) (n : Int) : (disp ts talks n).getD 0 = dispo ts n talks := by
  unfold disp dispo
  rw [fold_disp n _ h]
  cases look ts n with
  | some s => rfl
  | none =>
    cases talks with
    | false => rfl
    | true =>
      simp only [disp0, five, if_true, List.foldl_cons, List.foldl_nil, upd]
      by_cases h20 : n = 20
      · simp [h20]
      · by_cases h15 : n = 15
        · simp [h15]
        · by_cases h5 : n = 5
          · simp [h5]
          · by_cases h4 : n = 4
            · simp [h4]
            · by_cases h3 : n = 3
              · simp [h3]
              · by_cases h2 : n = 2
                · simp [h2]
                · simp [h20, h15, h5, h4, h3, h2]
theorem reqAt_eq {old l : List Tr} (h1 : right old = true) (h2 : right l = true) (talks : Bool) : ∀ f n : Nat, reqAt (disp old talks) (disp l talks) f n = reqRAt old l talks f n
  | 0, _ => rfl
  | f + 1, n => by
    rw [reqAt, reqRAt, reqAt_eq h1 h2 talks f (n + 1), disp_eq h1, disp_eq h2]
    by_cases hc : nameL n = [] ∨ n = 9 ∨ n = 19 ∨ dispo old n talks = dispo l n talks
    · rw [if_pos hc, if_pos]
      rcases hc with hc | hc | hc | hc
      · exact .inl hc
      · exact .inr (.inl hc)
      · exact .inr (.inr (.inl hc))
      · exact .inr (.inr (.inr hc.symm))
    · rw [if_neg hc, if_neg]
      rintro (hd | hd | hd | hd)
      · exact hc (.inl hd)
      · exact hc (.inr (.inl hd))
      · exact hc (.inr (.inr (.inl hd)))
      · exact hc (.inr (.inr (.inr hd.symm)))
theorem requests_eq {old l : List Tr} (h1 : right old = true) (h2 : right l = true) (talks : Bool) : requests old l talks = requestsR old l talks := reqAt_eq h1 h2 talks 20 1
theorem requests_self {l : List Tr} (talks : Bool) : requests l l talks = [] := by
  have key : ∀ f n : Nat, reqAt (disp l talks) (disp l talks) f n = [] := by
    intro f
    induction f with
    | zero => intro n; rfl
    | succ f ih => intro n; rw [reqAt, if_pos (.inr (.inr (.inr rfl))), ih]
  exact key 20 1
theorem requests_back (old l : List Tr) (talks : Bool) : (requests l old talks).length = (requests old l talks).length := by
  have key : ∀ f n : Nat, (reqAt (disp l talks) (disp old talks) f n).length = (reqAt (disp old talks) (disp l talks) f n).length := by
    intro f
    induction f with
    | zero => intro n; rfl
    | succ f ih =>
      intro n
      rw [reqAt, reqAt]
      by_cases hc : nameL n = [] ∨ n = 9 ∨ n = 19 ∨ (disp l talks n).getD 0 = (disp old talks n).getD 0
      · rw [if_pos hc, if_pos, ih]
        rcases hc with hc | hc | hc | hc
        · exact .inl hc
        · exact .inr (.inl hc)
        · exact .inr (.inr (.inl hc))
        · exact .inr (.inr (.inr hc.symm))
      · rw [if_neg hc, if_neg, List.length_cons, List.length_cons, ih]
        rintro (hd | hd | hd | hd)
        · exact hc (.inl hd)
        · exact hc (.inr (.inl hd))
        · exact hc (.inr (.inr (.inl hd)))
        · exact hc (.inr (.inr (.inr hd.symm)))
  exact key 20 1
theorem dispo_in (ts : List Tr) (n : Int) (talks : Bool) : 0 ≤ dispo ts n talks ∧ dispo ts n talks ≤ 2 := by
  unfold dispo
  split
  · split <;> omega
  · split
    · split
      · omega
      · split <;> omega
    · omega
/-- Requests from the signal p on, in order. -/
def goodR (p : Int) : List (Int × Int) → Prop
  | [] => True
  | r :: l => p < r.1 ∧ r.1 ≤ 20 ∧ r.1 ≠ 9 ∧ r.1 ≠ 19 ∧ 0 ≤ r.2 ∧ r.2 ≤ 2 ∧ goodR r.1 l
theorem goodR_mono : ∀ {l : List (Int × Int)} {p q : Int}, p ≤ q → goodR q l → goodR p l
  | [], _, _, _, _ => trivial
  | r :: l, p, q, h, ⟨a, b⟩ => ⟨by omega, b⟩
theorem reqR_good (old l : List Tr) (talks : Bool) : ∀ f n : Nat, n + f = 21 → goodR ((n : Int) - 1) (reqRAt old l talks f n)
  | 0, _, _ => trivial
  | f + 1, n, h => by
    have ih := reqR_good old l talks f (n + 1) (by omega)
    have e : (((n + 1 : Nat) : Int) - 1) = (n : Int) := by omega
    rw [e] at ih
    rw [reqRAt]
    split
    · exact goodR_mono (by omega) ih
    · rename_i hc
      have hd := dispo_in l n talks
      refine ⟨by show _ < (n : Int); omega, by show (n : Int) ≤ 20; omega, fun e => hc (.inr (.inl (by have : (n : Int) = 9 := e; omega))), fun e => hc (.inr (.inr (.inl (by have : (n : Int) = 19 := e; omega)))), hd.1, hd.2, ih⟩
theorem requests_good {old l : List Tr} (h1 : right old = true) (h2 : right l = true) (talks : Bool) : goodR 0 (requests old l talks) := by
  rw [requests_eq h1 h2]
  exact reqR_good old l talks 20 1 (by omega)
theorem reqRAt_len (old l : List Tr) (talks : Bool) : ∀ f n : Nat, (reqRAt old l talks f n).length ≤ f
  | 0, _ => by simp [reqRAt]
  | f + 1, n => by
    have ih := reqRAt_len old l talks f (n + 1)
    rw [reqRAt]
    split
    · omega
    · simp; omega
theorem requests_len {old l : List Tr} (h1 : right old = true) (h2 : right l = true) (talks : Bool) : (requests old l talks).length ≤ 20 := by
  rw [requests_eq h1 h2]
  exact reqRAt_len old l talks 20 1
theorem goodR_at : ∀ {l : List (Int × Int)} {p : Int}, goodR p l → ∀ i, i < l.length → (l.getD i (0, 0)).1 ≠ 9 ∧ (l.getD i (0, 0)).1 ≠ 19 ∧ 0 ≤ (l.getD i (0, 0)).2 ∧ (l.getD i (0, 0)).2 ≤ 2 ∧ p < (l.getD i (0, 0)).1
  | [], _, _, i, hi => by simp at hi
  | r :: l, p, ⟨a, b, c, d, e, f, g⟩, 0, _ => ⟨c, d, e, f, a⟩
  | r :: l, p, ⟨a, b, c, d, e, f, g⟩, i + 1, hi => by
    have := goodR_at g i (by simpa using hi)
    simp only [List.getD_cons_succ]
    exact ⟨this.1, this.2.1, this.2.2.1, this.2.2.2.1, by omega⟩
theorem goodR_next : ∀ {l : List (Int × Int)} {p : Int}, goodR p l → ∀ i, i + 1 < l.length → (l.getD i (0, 0)).1 < (l.getD (i + 1) (0, 0)).1
  | [], _, _, i, hi => by simp at hi
  | r :: l, p, ⟨a, b, c, d, e, f, g⟩, 0, hi => by
    have := goodR_at g 0 (by simpa using hi)
    simpa using this.2.2.2.2
  | r :: l, p, ⟨a, b, c, d, e, f, g⟩, i + 1, hi => by
    simpa using goodR_next g i (by simpa using hi)
theorem fold_traps (n : Int) : ∀ {ts : List Tr} {p : Int} (G : Int → Option Tr), rightL p ts = true →
    (ts.foldl (fun G t => if actB t then upd G t.1 t else G) G) n = match look ts n with | some s => if actB (n, s) then some (n, s) else G n | none => G n
  | [], _, _, _ => rfl
  | t :: r, p, G, h => by
    obtain ⟨a, b, c⟩ := rightL_cons.1 h
    rw [List.foldl_cons, fold_traps n _ c, look_cons]
    by_cases e : t.1 = n
    · rw [if_pos e, rightL_none c (by omega)]
      have e2 : t = (n, t.2) := Prod.ext e rfl
      by_cases ha : actB t = true
      · rw [if_pos ha]
        have hb : actB (n, t.2) = true := by rw [← e2]; exact ha
        simp only [hb, if_true, upd, e]
        rw [← e2]
      · rw [if_neg ha]
        have hb : ¬ actB (n, t.2) = true := by rw [← e2]; exact ha
        simp only
        rw [if_neg hb]
    · rw [if_neg e]
      have key : (if actB t = true then upd G t.1 t else G) n = G n := by
        split
        · unfold upd
          rw [if_neg (by omega)]
        · rfl
      cases look r n with
      | some s => simp only [key]
      | none => exact key
theorem trapsF_eq {ts : List Tr} (h : right ts = true) (n : Int) : trapsF ts n = if actsB ts n then (look ts n).map (fun s => (n, s)) else none := by
  unfold trapsF actsB
  rw [fold_traps n _ h]
  cases look ts n with
  | none => simp
  | some s => simp [actB]
theorem dueB_eq {ts : List Tr} (h : right ts = true) : dueB ts = actsB ts := by
  funext n
  unfold dueB
  rw [trapsF_eq h]
  cases ha : actsB ts n with
  | false => simp
  | true =>
    obtain ⟨_, s, hs, _⟩ := acts_look ha
    simp [hs]
theorem acts_pos {ts : List Tr} (h : right ts = true) {n : Int} (ha : actsB ts n = true) : 0 < n := by
  obtain ⟨h0, s, hs, _⟩ := acts_look ha
  by_cases hn : n ≤ -1
  · rw [rightL_none h hn] at hs; cases hs
  · omega
theorem leastL_due {ts : List Tr} (h : right ts = true) : ∀ (ps : List Int) (m : Int), 0 < m → leastL ts m ps = (ps.filter (actsB ts)).foldl min m
  | [], _, _ => rfl
  | p :: r, m, hm => by
    rw [leastL, List.filter_cons]
    unfold leastS
    cases ha : actsB ts p with
    | false => simp only [Bool.false_and, Bool.false_eq_true, if_false]; exact leastL_due h r m hm
    | true =>
      have hp := acts_pos h ha
      simp only [Bool.true_and, if_true, List.foldl_cons]
      have e : (m == 0) = false := by simp; omega
      rw [e, Bool.false_or]
      by_cases hl : p < m
      · rw [if_pos (by simpa using hl), leastL_due h r p hp, show min m p = p by omega]
      · rw [if_neg (by simpa using hl), leastL_due h r m hm, show min m p = m by omega]
theorem leastR_eq {ts : List Tr} (h : right ts = true) (ps : List Int) : leastR ts ps = if due ts ps = [] then 0 else Lib.minOf (due ts ps) := by
  unfold leastR due
  rw [dueB_eq h]
  induction ps with
  | nil => rfl
  | cons p r ih =>
    rw [leastL, List.filter_cons]
    unfold leastS
    cases ha : actsB ts p with
    | false => simpa using ih
    | true =>
      have hp := acts_pos h ha
      simp only [Bool.true_and, if_true, beq_self_eq_true, Bool.true_or]
      rw [leastL_due h r p hp, if_neg (by simp)]
      unfold Lib.minOf
      simp
theorem least_zero {ts : List Tr} (h : right ts = true) (ps : List Int) : leastR ts ps = 0 ↔ due ts ps = [] := by
  rw [leastR_eq h]
  by_cases hd : due ts ps = []
  · simp [hd]
  · rw [if_neg hd]
    have hm := minOf_mem hd
    have ha := (List.mem_filter.1 hm).2
    rw [dueB_eq h] at ha
    have := acts_pos h ha
    constructor
    · intro e; omega
    · intro e; exact absurd e hd
theorem rest_eq {ts : List Tr} (h : right ts = true) (ps : List Int) (m : Int) : restR ts ps m = (due ts ps).filter (· != m) := by
  unfold restR due
  rw [dueB_eq h, List.filter_filter]
  congr 1
  funext p
  unfold keepR
  exact Bool.and_comm _ _
end P
end Go.Proofs.YtfigidknocpdaaaDoor
