/- Words: Same. -/
import Derived.Test.YtijibooneochjaaG08b
namespace Go.Proofs.Ytijibooneochjaa
open Go.RowKit K
open WP (GP gp gpL)
namespace W
theorem GS.up {w w' : World} {B : Nat} {v : Value} {l : List GP} (h : GS w (fun b => b < B) v l) (hb : Below w.heap.size w w') : GS w' (fun b => b < w'.heap.size) v l :=
  h.mono fun b _ h2 => ⟨Nat.lt_of_lt_of_le h2 hb.size, hb.block b h2⟩
/-- What Same gives for lists of fewer than n parts. -/
def SameC (n : Nat) : Prop := ∀ (l m : List GP) (v u : Value) (w : World), WP.cntL l < n → WP.cntL l ≤ 1000000 → GS w (fun b => b < w.heap.size) v l → GS w (fun b => b < w.heap.size) u m →
  Calls Try.prog 27 #[v, u] w fun e w' => e = .returned (.bool (WP.sameL l m)) ∧ Below w.heap.size w w'
def pv (p : GP) (A : Option Addr) (cap : Nat) : Value := .agg #[.int .i64 p.kind, .string ⟨p.text.toArray⟩, .int .i64 p.op, .bool p.colon, .slice A p.parts.length cap]
set_option maxRecDepth 100000 in
set_option maxHeartbeats 2000000 in
theorem same1_any (p q : GP) (A B : Option Addr) (cap cap' : Nat) (w : World)
    (HS : ∀ V, Below w.heap.size w V → Calls Try.prog 27 #[.slice A p.parts.length cap, .slice B q.parts.length cap'] V fun e w' => e = .returned (.bool (WP.sameL p.parts q.parts)) ∧ Below V.heap.size V w') :
    Calls Try.prog 47 #[pv p A cap, pv q B cap'] w fun e w' => e = .returned (.bool (WP.sameP p q)) ∧ Below w.heap.size w w' := by
  obtain ⟨k, t, o, c, ps⟩ := p
  obtain ⟨k', t', o', c', qs⟩ := q
  have HSS := Lib.hid HS
  clear HS
  dsimp only [pv, WP.GP.kind, WP.GP.text, WP.GP.op, WP.GP.colon, WP.GP.parts] at HSS ⊢
  have hps : (0 : Int) ≤ (ps.length : Int) := by omega
  have hqs : (0 : Int) ≤ (qs.length : Int) := by omega
  obtain ⟨R, hR⟩ : ∃ R, WP.sameP (.mk k t o c ps) (.mk k' t' o' c' qs) = R := ⟨_, rfl⟩
  have HR := Lib.hid (show (decide (k = k' ∧ t = t' ∧ o = o' ∧ c = c') && WP.sameL ps qs) = R by rw [← hR, WP.sameP])
  rw [hR]
  clear hR
  go_enter Try.func47, Try.ntmps47
  go_wp2_with fail
  · refine (HSS.out _ (btr (balloc _ _) (balloc _ _))).mono ?_
    rintro e Y ⟨rfl, hb⟩
    have HB := Lib.hid (btr (btr (balloc _ _) (balloc _ _)) hb)
    clear hb
    go_wp2
    go_ret
    refine ⟨ret_bool ?_, HB.out⟩
    rw [← HR.out, decide_eq_true ⟨by assumption, by assumption, by assumption, by assumption⟩, Bool.true_and]
  all_goals
    go_ret
    refine ⟨ret_bool ?_, btr (balloc _ _) (balloc _ _)⟩
    rw [← HR.out, decide_eq_false (by rintro ⟨x1, x2, x3, x4⟩; contradiction), Bool.false_and]
theorem same_drop {l m : List GP} {k : Nat} {p q : GP} (h : l.drop k = p :: l.drop (k + 1)) (h' : m.drop k = q :: m.drop (k + 1)) : WP.sameL (l.drop k) (m.drop k) = (WP.sameP p q && WP.sameL (l.drop (k + 1)) (m.drop (k + 1))) := by rw [h, h', WP.sameL]
theorem len_cnt : ∀ l : List GP, l.length ≤ WP.cntL l
  | [] => Nat.zero_le _
  | .mk k t o c ps :: r => by
    have := len_cnt r
    rw [WP.cntL, WP.cntP, List.length_cons]
    omega
theorem cnt_get : ∀ {l : List GP} {k : Nat} {p : GP}, l[k]? = some p → WP.cntL p.parts < WP.cntL l
  | [], k, p, h => by simp at h
  | q :: r, 0, p, h => by
    simp at h
    subst h
    obtain ⟨k, t, o, c, ps⟩ := q
    show WP.cntL ps < _
    rw [WP.cntL, WP.cntP]
    omega
  | q :: r, k + 1, p, h => by
    have := cnt_get (l := r) (k := k) (by simpa using h)
    rw [WP.cntL]
    omega
set_option maxRecDepth 100000 in
set_option maxHeartbeats 4000000 in
theorem eqFunc_any {n : Nat} (HC : SameC n) (l m : List GP) (v u : Value) (w : World) (hl : WP.cntL l ≤ n) (hn : WP.cntL l ≤ 1000000) (h : GS w (fun b => b < w.heap.size) v l) (h' : GS w (fun b => b < w.heap.size) u m) :
    Calls Try.prog 46 #[v, u, .func (Fn.func 47) #[] #[]] w fun e w' => e = .returned (.bool (WP.sameL l m)) ∧ Below w.heap.size w w' := by
  obtain ⟨A, cap, rfl⟩ := h.slice
  obtain ⟨B, cap', rfl⟩ := h'.slice
  by_cases hne : l.length = m.length
  case neg =>
    rw [WP.sameL_len hne]
    have hne' : ¬ (l.length : Int) = (m.length : Int) := by omega
    have e1 : ((l.length : Int) != (m.length : Int)) = true := by simpa using hne'
    go_enter Try.func46, Try.ntmps46
    go_wp2
    go_ret
    exact ⟨rfl, Below.refl _ _⟩
  have HG := Lib.hid h
  have HG' := Lib.hid h'
  have hll := len_cnt l
  have HCC := Lib.hid HC
  obtain ⟨R, hR⟩ : ∃ R, WP.sameL l m = R := ⟨_, rfl⟩
  rw [hR]
  have HR := Lib.hid (show WP.sameL (l.drop 0) (m.drop 0) = R from hR)
  have HNE := Lib.hid hne
  have e1 : ((l.length : Int) != (m.length : Int)) = false := by simp; omega
  clear hR h h' HC hne
  go_enter Try.func46, Try.ntmps46
  go_wp2
  go_loopw [17] (fun i wr => ∃ k : Nat, k ≤ l.length ∧ i = .int .i64 k ∧ Hid (WP.sameL (l.drop k) (m.drop k) = R) ∧ Hid (Below w.heap.size w wr)) (fun i _ => l.length - (intOf i).toNat)
  case atStart => exact ⟨0, Nat.zero_le _, rfl, HR, Lib.hid (Below.refl _ _)⟩
  case round =>
    obtain ⟨k, hk, rfl, HN, HB⟩ := hrel
    by_cases hlt : k < l.length
    · have hlt' : k < m.length := by have := HNE.out; omega
      obtain ⟨p, hp, hd⟩ := get_of_lt hlt
      obtain ⟨q, hq, hd'⟩ := get_of_lt hlt'
      have HQ := Lib.hid (same_drop hd hd')
      obtain ⟨b, off, A2, cap2, rfl, hb, g0, g1, g2, g3, g4, hg⟩ := (HG.out.kept HB.out).get hp
      obtain ⟨b', off', B2, cap3, rfl, hb', g0', g1', g2', g3', g4', hg'⟩ := (HG'.out.kept HB.out).get hq
      have hbr : b < wr.heap.size := Nat.lt_of_lt_of_le hb HB.out.size
      have hbr' : b' < wr.heap.size := Nat.lt_of_lt_of_le hb' HB.out.size
      have HCL := Lib.hid (fun (V : World) (hV : Below wr.heap.size wr V) => show Calls Try.prog 47 #[.agg #[.int .i64 p.kind, .string ⟨p.text.toArray⟩, .int .i64 p.op, .bool p.colon, .slice A2 p.parts.length cap2], .agg #[.int .i64 q.kind, .string ⟨q.text.toArray⟩, .int .i64 q.op, .bool q.colon, .slice B2 q.parts.length cap3]] V fun e w' => e = .returned (.bool (WP.sameP p q)) ∧ Below V.heap.size V w' from
        same1_any p q A2 B2 cap2 cap3 V fun V' hV' => HCC.out p.parts q.parts _ _ V' (by have := cnt_get hp; omega) (by have := cnt_get hp; omega) (hg.up (btr hV hV')) (hg'.up (btr hV hV')))
      clear hp hq hd hd' hb hb' hg hg'
      have hps : (0 : Int) ≤ (p.parts.length : Int) := by omega
      have hqs : (0 : Int) ≤ (q.parts.length : Int) := by omega
      obtain ⟨kd, t, o, c, ps⟩ := p
      obtain ⟨kd', t', o', c', qs⟩ := q
      dsimp only [WP.GP.kind, WP.GP.text, WP.GP.op, WP.GP.colon, WP.GP.parts] at g0 g1 g2 g3 g4 g0' g1' g2' g3' g4' HCL hps hqs
      obtain ⟨S, hS⟩ : ∃ S, WP.sameP (.mk kd t o c ps) (.mk kd' t' o' c' qs) = S := ⟨_, rfl⟩
      rw [hS] at HCL HQ
      clear hS
      obtain ⟨V, hVV⟩ : ∃ V, V = (wr.alloc (.cells #[.int .i64 kd, .string ⟨t.toArray⟩, .int .i64 o, .bool c, .slice A2 ps.length cap2] 64)).alloc (.cells #[.int .i64 kd', .string ⟨t'.toArray⟩, .int .i64 o', .bool c', .slice B2 qs.length cap3] 64) := ⟨_, rfl⟩
      have HWV := Lib.hid (show Below wr.heap.size wr V by rw [hVV]; exact btr (balloc _ _) (balloc _ _))
      have HVV := Lib.hid hVV
      clear hVV
      rcases (show S = true ∨ S = false by cases S <;> simp) with rfl | rfl
      · have HF := Lib.hid (show WP.sameL (l.drop (k + 1)) (m.drop (k + 1)) = R by rw [← HN.out, HQ.out, Bool.true_and])
        go_wp2_with fail
        rw [← HVV.out]
        refine (HCL.out V HWV.out).mono ?_
        rintro e Y ⟨rfl, hby⟩
        have HBY := Lib.hid (btr (btr HB.out HWV.out) hby)
        clear hby
        go_wp2
        go_roundw
        case rel => exact ⟨k + 1, hlt, by go_num, HF, HBY⟩
        case measure => simp [intOf]; omega
      · have HF := Lib.hid (show R = false by rw [← HN.out, HQ.out, Bool.false_and])
        go_wp2_with fail
        rw [← HVV.out]
        refine (HCL.out V HWV.out).mono ?_
        rintro e Y ⟨rfl, hby⟩
        have HBY := Lib.hid (btr (btr HB.out HWV.out) hby)
        clear hby
        go_wp2
        go_ret
        exact ⟨ret_bool HF.out.symm, HBY.out⟩
    · have HF := Lib.hid (show R = true by rw [← HN.out, List.drop_eq_nil_of_le (by omega), List.drop_eq_nil_of_le (by have := HNE.out; omega), WP.sameL])
      go_wp2
      go_ret
      exact ⟨ret_bool HF.out.symm, HB.out⟩
theorem same_all : ∀ n, SameC n := by
  intro n
  induction n with
  | zero => intro l m v u w hl; exact absurd hl (Nat.not_lt_zero _)
  | succ n ih =>
    intro l m v u w hl hn h h'
    obtain ⟨A, cap, rfl⟩ := h.slice
    obtain ⟨B, cap', rfl⟩ := h'.slice
    have HE := Lib.hid (eqFunc_any ih l m _ _ w (by omega) hn h h')
    clear h h' ih
    go_enter Try.func27, Try.ntmps27
    go_wp2_with fail
    refine HE.out.mono ?_
    rintro e Y ⟨rfl, hb⟩
    have HB := Lib.hid hb
    clear hb
    go_wp2
    go_ret
    exact ⟨rfl, HB.out⟩
theorem Same_any (l m : List GP) (v u : Value) (w : World) (hn : WP.cntL l ≤ 1000000) (h : GS w (fun b => b < w.heap.size) v l) (h' : GS w (fun b => b < w.heap.size) u m) :
    Calls Try.prog 27 #[v, u] w fun e w' => e = .returned (.bool (WP.sameL l m)) ∧ Below w.heap.size w w' := same_all (WP.cntL l + 1) l m v u w (Nat.lt_succ_self _) hn h h'
end W
end Go.Proofs.Ytijibooneochjaa
