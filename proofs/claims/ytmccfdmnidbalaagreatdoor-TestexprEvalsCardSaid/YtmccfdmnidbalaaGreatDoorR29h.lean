/- Chapter 29: the reference's and, or. -/
import Derived.Test.YtmccfdmnidbalaaGreatDoorR29g
namespace Go.Proofs.YtmccfdmnidbalaaGreatDoor
open Go.RowKit K
namespace P
theorem notR_len (F : Str → Option (Bool × Str)) : ∀ f, (∀ r, (notR F f r).rest.length ≤ r.length) ∧ (∀ r, (andR F f r).rest.length ≤ r.length) ∧ (∀ q, (andRL F f q).rest.length ≤ q.rest.length) ∧ (∀ r, (orR F f r).rest.length ≤ r.length) ∧ (∀ q, (orRL F f q).rest.length ≤ q.rest.length) := by
  intro f
  induction f with
  | zero =>
    refine ⟨fun r => ?_, fun r => ?_, fun q => ?_, fun r => ?_, fun q => ?_⟩
    · simp [notR]
    · simp [andR]
    · simp [andRL]
    · simp [orR]
    · simp [orRL]
  | succ f ih =>
    obtain ⟨h1, h2, h3, h4, h5⟩ := ih
    refine ⟨fun r => ?_, fun r => ?_, fun q => ?_, fun r => ?_, fun q => ?_⟩
    · cases r with
      | nil => rw [notR]; simp
      | cons a r =>
        rw [notR]
        split
        · simp; omega
        · split
          · have := h1 r; simp only [List.length_cons]; omega
          · split
            · have := h4 r
              simp only
              split
              · simp; omega
              · simp; omega
            · split
              · simp; omega
              · simp
    · rw [andR]
      exact Nat.le_trans (h3 _) (h1 _)
    · rw [andRL]
      split
      · refine Nat.le_trans (h3 _) ?_
        have := h1 (q.rest.drop 1)
        simp at this ⊢
        omega
      · exact Nat.le_refl _
    · rw [orR]
      exact Nat.le_trans (h5 _) (h2 _)
    · rw [orRL]
      split
      · refine Nat.le_trans (h5 _) ?_
        have := h2 (q.rest.drop 1)
        simp at this ⊢
        omega
      · exact Nat.le_refl _
end P
namespace W
/-- Where the reader stands. -/
def atOf (w : World) (g : Nat) : Nat := match w.cell? ⟨g, 1, none⟩ with
  | some (.int _ n) => n.toNat
  | _ => 0
theorem atOf_of {w : World} {g : Nat} {a f : Value} {at_ : Nat} {c : List UInt8} {e : Int} {o : Bool} (h : RB w g a at_ f c e o) : atOf w g = at_ := by
  unfold atOf
  rw [h.cells.2.1]
  simp
theorem drop_len {args : List (List UInt8)} {a b : Nat} (ha : a ≤ args.length) (hb : b ≤ args.length) (h : (args.drop b).length ≤ (args.drop a).length) : a ≤ b := by
  rw [List.length_drop, List.length_drop] at h
  omega
set_option maxHeartbeats 4000000 in
set_option maxRecDepth 100000 in
theorem and_ref {w0 : World} {f : Value} {c : List UInt8} {fs : List Fi} {ar : Value} {args : List (List UInt8)} (hx : RX w0 f c fs ar args) (fu : Nat) (HNT : ∀ m, m < fu → NotD w0 f c fs ar args m) : AndD w0 f c fs ar args fu := by
  intro a w o ha hf hb0 hp
  obtain ⟨g, rfl⟩ : ∃ g, fu = g + 1 := ⟨fu - 1, by omega⟩
  have H1 := Lib.hid (HNT g (by omega) a w o ha (by omega) hb0 hp)
  have HAL := Lib.hid HNT
  have HL := Lib.hid (fun w a (ha : a ≤ args.length) e o z (hz : (args.length : Int) - (a : Int) = z) (hp : RB w w0.heap.size ar a f c e o) => left_q w a e o z hz ha hx.na hx.rv hp)
  have HX := Lib.hid hx
  have HNA := Lib.hid hx.na
  have HQ0 := Lib.hid (show P.andR (P.lookF fs c) (g + 1) (args.drop a) = P.andRL (P.lookF fs c) g (P.notR (P.lookF fs c) g (args.drop a)) by rw [P.andR])
  generalize P.andR (P.lookF fs c) (g + 1) (args.drop a) = Q at HQ0 ⊢
  have hq0l := (P.notR_len (P.lookF fs c) g).1 (args.drop a)
  generalize P.notR (P.lookF fs c) g (args.drop a) = q0 at *
  have HF := Lib.hid hf
  have HA := Lib.hid ha
  have HQL := Lib.hid hq0l
  obtain ⟨A, cap, hAr, q1, q2, hS⟩ := id hx.rv
  subst hAr
  have HSL := Lib.hid hS
  have hna : (args.length : Int) ≤ 1000 := by have := hx.na; omega
  clear hf hb0 hp HNT hq0l hx hS ha
  go_enter Tryz.func47, Tryz.ntmps47
  go_wp2_with fail
  refine H1.out.mono ?_
  rintro e w1 ⟨rfl, hb1, a1, ha1, hr1, hp1⟩
  have HB1 := Lib.hid hb1
  have HA1 := Lib.hid ha1
  have HR1 := Lib.hid hr1
  have HP1 := Lib.hid hp1
  have HF1 := Lib.hid (show 4 * (args.length - a1) + 1 ≤ g by
    have h1 := HQL.out
    rw [hr1] at h1
    have := drop_len HA.out ha1 h1
    have := HF.out
    omega)
  obtain ⟨y, hy⟩ : ∃ y, y = w1 := ⟨_, rfl⟩
  rw [← hy] at HB1 HP1
  clear hb1 hp1 hr1 ha1 H1
  go_wp2_with fail
  rw [← hy]
  clear hy
  go_loopw [3] (fun v wr => ∃ (g' a' : Nat) (q : P.RR), v = .bool q.v ∧ Below w0.heap.size w0 wr ∧ RB wr w0.heap.size (.slice A args.length cap) a' f c (if q.e then 27 else 0) (o || q.o) ∧ a' ≤ args.length ∧ Hid (q.rest = args.drop a') ∧ Hid (4 * (args.length - a') + 1 ≤ g') ∧ Hid (g' ≤ g) ∧ Hid (Q = P.andRL (P.lookF fs c) g' q)) (fun _ wr => args.length - atOf wr w0.heap.size)
  case atStart => exact ⟨g, a1, q0, rfl, HB1.out, HP1.out, HA1.out, HR1, HF1, Nat.le_refl _, HQ0.out⟩
  case round =>
    obtain ⟨g', a', q, rfl, hbw, hpw, haw, HR, HFU, HG, HQ⟩ := hrel
    obtain ⟨g2, rfl⟩ : ∃ g2, g' = g2 + 1 := ⟨g' - 1, by have := HFU.out; omega⟩
    have HBw := Lib.hid hbw
    have HPw := Lib.hid hpw
    have HAw := Lib.hid haw
    have HAT := Lib.hid (atOf_of hpw)
    have HQS := Lib.hid (show Q = if q.e = false ∧ q.rest.head? = some [45, 97] then P.andRL (P.lookF fs c) g2 ⟨q.v && (P.notR (P.lookF fs c) g2 (q.rest.drop 1)).v, (P.notR (P.lookF fs c) g2 (q.rest.drop 1)).rest, (P.notR (P.lookF fs c) g2 (q.rest.drop 1)).e, q.o || (P.notR (P.lookF fs c) g2 (q.rest.drop 1)).o⟩ else q by rw [HQ.out, P.andRL])
    cases hqe : q.e with
    | true =>
      rw [hqe] at hpw
      have HQV := Lib.hid (show Q = q by rw [HQS.out, if_neg (by rw [hqe]; simp)])
      have HQE := Lib.hid hqe
      obtain ⟨k0, k1, -, -, k4, -⟩ := hpw.cells
      simp only [if_true] at k4
      clear hpw hbw hqe haw HQS HQ
      go_wp2_with fail
      go_quiet (fail)
      obtain ⟨w4, hw4⟩ : ∃ w4, w4 = wr.drewN nq := ⟨_, rfl⟩
      rw [← hw4]
      have HB4 := Lib.hid (show Below w0.heap.size w0 w4 by rw [hw4]; exact bdN HBw.out _)
      have HP4 := Lib.hid (show RB w4 w0.heap.size (.slice A args.length cap) a' f c (if q.e then 27 else 0) (o || q.o) by rw [hw4]; exact HPw.out.drewN _)
      clear hw4 k0 k1 k4
      go_wp2
      go_ret
      exact rpost q.v a' (by rw [HQV.out]) HB4.out HAw.out (by rw [HQV.out]; exact HR.out) (by rw [HQV.out]; exact HP4.out)
    | false =>
    rw [hqe] at hpw
    have hpw0 : RB wr w0.heap.size (.slice A args.length cap) a' f c 0 (o || q.o) := hpw
    have HPZ := Lib.hid hpw0
    have HQE := Lib.hid hqe
    obtain ⟨k0, k1, -, -, k4, -⟩ := hpw0.cells
    have HLZ := Lib.hid (fun n z hz => HL.out (wr.drewN n) a' haw 0 (o || q.o) z hz (hpw0.drewN n))
    clear hpw hpw0
    rcases Nat.lt_or_ge a' args.length with h3 | h3
    · obtain ⟨b, off, rfl, hbl, v0⟩ := (HSL.out.below HBw.out).get h3
      have HHD := Lib.hid (show q.rest.head? = some (args.getD a' []) by rw [HR.out, List.drop_eq_getElem_cons h3, List.getD_eq_getElem?_getD, List.getElem?_eq_getElem h3]; rfl)
      have HDR := Lib.hid (show q.rest.drop 1 = args.drop (a' + 1) by rw [HR.out, List.drop_drop])
      have HLL := Lib.hid (fun n => HLZ.out n _ rfl)
      have g1 : decide ((0 : Int) < (args.length : Int) - (a' : Int)) = true := decide_eq_true (by omega)
      have g2' : (0 : Int) ≤ (a' : Int) := by omega
      have g3 : (a' : Int) < (args.length : Int) := by omega
      have g4 : (a' : Int) ≤ 1000 := by omega
      have HA4 := Lib.hid h3
      generalize args.getD a' [] = t at *
      clear hbw haw hqe h3
      cases ht : (t == [45, 97]) with
      | true =>
        have HQV := Lib.hid (HQS.out.trans (if_pos ⟨HQE.out, by rw [HHD.out]; simpa using ht⟩))
        rw [HDR.out] at HQV
        have HSTEP := Lib.hid (fun w' (h1 : Below w0.heap.size w0 w') (h2 : RB w' w0.heap.size (.slice (some ⟨b, off, none⟩) args.length cap) (a' + 1) f c 0 (o || q.o)) => HAL.out g2 (by have := HG.out; omega) (a' + 1) w' (o || q.o) (by have := HA4.out; omega) (by have h1 := HFU.out; have h2 := HA4.out; omega) h1 h2)
        have hpl := (P.notR_len (P.lookF fs c) g2).1 (args.drop (a' + 1))
        generalize P.notR (P.lookF fs c) g2 (args.drop (a' + 1)) = p at HQV HSTEP hpl
        have HPL := Lib.hid hpl
        clear HQS HQ hpl
        go_wp2_with fail
        go_quiet ((go_at_call 38; exact Calls.quiet_of (HLL.out _)))
        obtain ⟨w4, hw4⟩ : ∃ w4, w4 = wr.drewN nq := ⟨_, rfl⟩
        rw [← hw4]
        have HB4 := Lib.hid (show Below w0.heap.size w0 w4 by rw [hw4]; exact bdN HBw.out _)
        have HP4 := Lib.hid (show RB w4 w0.heap.size (.slice (some ⟨b, off, none⟩) args.length cap) a' f c 0 (o || q.o) by rw [hw4]; exact HPZ.out.drewN _)
        obtain ⟨j0, j1, -⟩ := HP4.out.cells
        obtain ⟨u0, u1, -⟩ := HP4.out.thaw
        have HCA := Lib.hid (HSTEP.out _ (HB4.out.setCell (p := ⟨w0.heap.size, 1, none⟩) (by simp) (.int .i64 ((a' : Int) + 1))) (HP4.out.at1 _ (a' + 1) (by omega)))
        clear hw4 k0 k1 k4 v0 g1
        go_wp2_with fail
        refine HCA.out.mono ?_
        rintro e w5 ⟨rfl, hb5, a5, ha5, hr5, hp5⟩
        have HB5 := Lib.hid hb5
        have HA5 := Lib.hid ha5
        have HR5 := Lib.hid hr5
        have HP5 := Lib.hid hp5
        have HAT5 := Lib.hid (atOf_of hp5)
        have HLE := Lib.hid (show a' + 1 ≤ a5 by
          have h1 := HPL.out
          rw [hr5] at h1
          exact drop_len (by have := HA4.out; omega) ha5 h1)
        clear hb5 ha5 hr5 hp5
        cases hqv : q.v
        all_goals
          rw [hqv] at HQV
          go_wp2
          go_roundw
          case rel => exact ⟨g2, a5, ⟨_, p.rest, p.e, q.o || p.o⟩, rfl, HB5.out, by have := HP5.out; rw [Bool.or_assoc] at this; exact this, HA5.out, HR5, by show _ ≤ _; have h1 := HFU.out; have h2 := HLE.out; have h3 := HA4.out; omega, by show _ ≤ _; have := HG.out; omega, by rw [HQV.out]; rfl⟩
          case measure => rw [HAT5.out, HAT.out]; have h2 := HLE.out; have h3 := HA4.out; omega
      | false =>
        have HQV := Lib.hid (HQS.out.trans (if_neg (by rw [HHD.out]; rintro ⟨_, h⟩; simp at h; simp [h] at ht)))
        clear HQS HQ
        go_wp2_with fail
        go_quiet ((go_at_call 38; exact Calls.quiet_of (HLL.out _)))
        obtain ⟨w4, hw4⟩ : ∃ w4, w4 = wr.drewN nq := ⟨_, rfl⟩
        rw [← hw4]
        have HB4 := Lib.hid (show Below w0.heap.size w0 w4 by rw [hw4]; exact bdN HBw.out _)
        have HP4 := Lib.hid (show RB w4 w0.heap.size (.slice (some ⟨b, off, none⟩) args.length cap) a' f c (if q.e then 27 else 0) (o || q.o) by rw [hw4]; exact HPw.out.drewN _)
        clear hw4 k0 k1 k4 v0 g1
        go_wp2
        go_ret
        exact rpost q.v a' (by rw [HQV.out]) HB4.out HAw.out (by rw [HQV.out]; exact HR.out) (by rw [HQV.out]; exact HP4.out)
    · have HQV := Lib.hid (HQS.out.trans (if_neg (by rw [HR.out, List.drop_eq_nil_of_le h3]; simp)))
      have HLL := Lib.hid (fun n => HLZ.out n 0 (by omega))
      clear HQS HQ hbw haw hqe h3
      go_wp2_with fail
      go_quiet ((go_at_call 38; exact Calls.quiet_of (HLL.out _)))
      obtain ⟨w4, hw4⟩ : ∃ w4, w4 = wr.drewN nq := ⟨_, rfl⟩
      rw [← hw4]
      have HB4 := Lib.hid (show Below w0.heap.size w0 w4 by rw [hw4]; exact bdN HBw.out _)
      have HP4 := Lib.hid (show RB w4 w0.heap.size (.slice A args.length cap) a' f c (if q.e then 27 else 0) (o || q.o) by rw [hw4]; exact HPw.out.drewN _)
      clear hw4 k0 k1 k4
      go_wp2
      go_ret
      exact rpost q.v a' (by rw [HQV.out]) HB4.out HAw.out (by rw [HQV.out]; exact HR.out) (by rw [HQV.out]; exact HP4.out)
set_option maxHeartbeats 4000000 in
set_option maxRecDepth 100000 in
theorem or_ref {w0 : World} {f : Value} {c : List UInt8} {fs : List Fi} {ar : Value} {args : List (List UInt8)} (hx : RX w0 f c fs ar args) (fu : Nat) (HNT : ∀ m, m < fu → AndD w0 f c fs ar args m) : OrD w0 f c fs ar args fu := by
  intro a w o ha hf hb0 hp
  obtain ⟨g, rfl⟩ : ∃ g, fu = g + 1 := ⟨fu - 1, by omega⟩
  have H1 := Lib.hid (HNT g (by omega) a w o ha (by omega) hb0 hp)
  have HAL := Lib.hid HNT
  have HL := Lib.hid (fun w a (ha : a ≤ args.length) e o z (hz : (args.length : Int) - (a : Int) = z) (hp : RB w w0.heap.size ar a f c e o) => left_q w a e o z hz ha hx.na hx.rv hp)
  have HX := Lib.hid hx
  have HNA := Lib.hid hx.na
  have HQ0 := Lib.hid (show P.orR (P.lookF fs c) (g + 1) (args.drop a) = P.orRL (P.lookF fs c) g (P.andR (P.lookF fs c) g (args.drop a)) by rw [P.orR])
  generalize P.orR (P.lookF fs c) (g + 1) (args.drop a) = Q at HQ0 ⊢
  have hq0l := (P.notR_len (P.lookF fs c) g).2.1 (args.drop a)
  generalize P.andR (P.lookF fs c) g (args.drop a) = q0 at *
  have HF := Lib.hid hf
  have HA := Lib.hid ha
  have HQL := Lib.hid hq0l
  obtain ⟨A, cap, hAr, q1, q2, hS⟩ := id hx.rv
  subst hAr
  have HSL := Lib.hid hS
  have hna : (args.length : Int) ≤ 1000 := by have := hx.na; omega
  clear hf hb0 hp HNT hq0l hx hS ha
  go_enter Tryz.func37, Tryz.ntmps37
  go_wp2_with fail
  refine H1.out.mono ?_
  rintro e w1 ⟨rfl, hb1, a1, ha1, hr1, hp1⟩
  have HB1 := Lib.hid hb1
  have HA1 := Lib.hid ha1
  have HR1 := Lib.hid hr1
  have HP1 := Lib.hid hp1
  have HF1 := Lib.hid (show 4 * (args.length - a1) + 1 ≤ g by
    have h1 := HQL.out
    rw [hr1] at h1
    have := drop_len HA.out ha1 h1
    have := HF.out
    omega)
  obtain ⟨y, hy⟩ : ∃ y, y = w1 := ⟨_, rfl⟩
  rw [← hy] at HB1 HP1
  clear hb1 hp1 hr1 ha1 H1
  go_wp2_with fail
  rw [← hy]
  clear hy
  go_loopw [3] (fun v wr => ∃ (g' a' : Nat) (q : P.RR), v = .bool q.v ∧ Below w0.heap.size w0 wr ∧ RB wr w0.heap.size (.slice A args.length cap) a' f c (if q.e then 27 else 0) (o || q.o) ∧ a' ≤ args.length ∧ Hid (q.rest = args.drop a') ∧ Hid (4 * (args.length - a') + 1 ≤ g') ∧ Hid (g' ≤ g) ∧ Hid (Q = P.orRL (P.lookF fs c) g' q)) (fun _ wr => args.length - atOf wr w0.heap.size)
  case atStart => exact ⟨g, a1, q0, rfl, HB1.out, HP1.out, HA1.out, HR1, HF1, Nat.le_refl _, HQ0.out⟩
  case round =>
    obtain ⟨g', a', q, rfl, hbw, hpw, haw, HR, HFU, HG, HQ⟩ := hrel
    obtain ⟨g2, rfl⟩ : ∃ g2, g' = g2 + 1 := ⟨g' - 1, by have := HFU.out; omega⟩
    have HBw := Lib.hid hbw
    have HPw := Lib.hid hpw
    have HAw := Lib.hid haw
    have HAT := Lib.hid (atOf_of hpw)
    have HQS := Lib.hid (show Q = if q.e = false ∧ q.rest.head? = some [45, 111] then P.orRL (P.lookF fs c) g2 ⟨q.v || (P.andR (P.lookF fs c) g2 (q.rest.drop 1)).v, (P.andR (P.lookF fs c) g2 (q.rest.drop 1)).rest, (P.andR (P.lookF fs c) g2 (q.rest.drop 1)).e, q.o || (P.andR (P.lookF fs c) g2 (q.rest.drop 1)).o⟩ else q by rw [HQ.out, P.orRL])
    cases hqe : q.e with
    | true =>
      rw [hqe] at hpw
      have HQV := Lib.hid (show Q = q by rw [HQS.out, if_neg (by rw [hqe]; simp)])
      have HQE := Lib.hid hqe
      obtain ⟨k0, k1, -, -, k4, -⟩ := hpw.cells
      simp only [if_true] at k4
      clear hpw hbw hqe haw HQS HQ
      go_wp2_with fail
      go_quiet (fail)
      obtain ⟨w4, hw4⟩ : ∃ w4, w4 = wr.drewN nq := ⟨_, rfl⟩
      rw [← hw4]
      have HB4 := Lib.hid (show Below w0.heap.size w0 w4 by rw [hw4]; exact bdN HBw.out _)
      have HP4 := Lib.hid (show RB w4 w0.heap.size (.slice A args.length cap) a' f c (if q.e then 27 else 0) (o || q.o) by rw [hw4]; exact HPw.out.drewN _)
      clear hw4 k0 k1 k4
      go_wp2
      go_ret
      exact rpost q.v a' (by rw [HQV.out]) HB4.out HAw.out (by rw [HQV.out]; exact HR.out) (by rw [HQV.out]; exact HP4.out)
    | false =>
    rw [hqe] at hpw
    have hpw0 : RB wr w0.heap.size (.slice A args.length cap) a' f c 0 (o || q.o) := hpw
    have HPZ := Lib.hid hpw0
    have HQE := Lib.hid hqe
    obtain ⟨k0, k1, -, -, k4, -⟩ := hpw0.cells
    have HLZ := Lib.hid (fun n z hz => HL.out (wr.drewN n) a' haw 0 (o || q.o) z hz (hpw0.drewN n))
    clear hpw hpw0
    rcases Nat.lt_or_ge a' args.length with h3 | h3
    · obtain ⟨b, off, rfl, hbl, v0⟩ := (HSL.out.below HBw.out).get h3
      have HHD := Lib.hid (show q.rest.head? = some (args.getD a' []) by rw [HR.out, List.drop_eq_getElem_cons h3, List.getD_eq_getElem?_getD, List.getElem?_eq_getElem h3]; rfl)
      have HDR := Lib.hid (show q.rest.drop 1 = args.drop (a' + 1) by rw [HR.out, List.drop_drop])
      have HLL := Lib.hid (fun n => HLZ.out n _ rfl)
      have g1 : decide ((0 : Int) < (args.length : Int) - (a' : Int)) = true := decide_eq_true (by omega)
      have g2' : (0 : Int) ≤ (a' : Int) := by omega
      have g3 : (a' : Int) < (args.length : Int) := by omega
      have g4 : (a' : Int) ≤ 1000 := by omega
      have HA4 := Lib.hid h3
      generalize args.getD a' [] = t at *
      clear hbw haw hqe h3
      cases ht : (t == [45, 111]) with
      | true =>
        have HQV := Lib.hid (HQS.out.trans (if_pos ⟨HQE.out, by rw [HHD.out]; simpa using ht⟩))
        rw [HDR.out] at HQV
        have HSTEP := Lib.hid (fun w' (h1 : Below w0.heap.size w0 w') (h2 : RB w' w0.heap.size (.slice (some ⟨b, off, none⟩) args.length cap) (a' + 1) f c 0 (o || q.o)) => HAL.out g2 (by have := HG.out; omega) (a' + 1) w' (o || q.o) (by have := HA4.out; omega) (by have h1 := HFU.out; have h2 := HA4.out; omega) h1 h2)
        have hpl := (P.notR_len (P.lookF fs c) g2).2.1 (args.drop (a' + 1))
        generalize P.andR (P.lookF fs c) g2 (args.drop (a' + 1)) = p at HQV HSTEP hpl
        have HPL := Lib.hid hpl
        clear HQS HQ hpl
        go_wp2_with fail
        go_quiet ((go_at_call 38; exact Calls.quiet_of (HLL.out _)))
        obtain ⟨w4, hw4⟩ : ∃ w4, w4 = wr.drewN nq := ⟨_, rfl⟩
        rw [← hw4]
        have HB4 := Lib.hid (show Below w0.heap.size w0 w4 by rw [hw4]; exact bdN HBw.out _)
        have HP4 := Lib.hid (show RB w4 w0.heap.size (.slice (some ⟨b, off, none⟩) args.length cap) a' f c 0 (o || q.o) by rw [hw4]; exact HPZ.out.drewN _)
        obtain ⟨j0, j1, -⟩ := HP4.out.cells
        obtain ⟨u0, u1, -⟩ := HP4.out.thaw
        have HCA := Lib.hid (HSTEP.out _ (HB4.out.setCell (p := ⟨w0.heap.size, 1, none⟩) (by simp) (.int .i64 ((a' : Int) + 1))) (HP4.out.at1 _ (a' + 1) (by omega)))
        clear hw4 k0 k1 k4 v0 g1
        go_wp2_with fail
        refine HCA.out.mono ?_
        rintro e w5 ⟨rfl, hb5, a5, ha5, hr5, hp5⟩
        have HB5 := Lib.hid hb5
        have HA5 := Lib.hid ha5
        have HR5 := Lib.hid hr5
        have HP5 := Lib.hid hp5
        have HAT5 := Lib.hid (atOf_of hp5)
        have HLE := Lib.hid (show a' + 1 ≤ a5 by
          have h1 := HPL.out
          rw [hr5] at h1
          exact drop_len (by have := HA4.out; omega) ha5 h1)
        clear hb5 ha5 hr5 hp5
        cases hqv : q.v
        all_goals
          rw [hqv] at HQV
          go_wp2
          go_roundw
          case rel => exact ⟨g2, a5, ⟨_, p.rest, p.e, q.o || p.o⟩, rfl, HB5.out, by have := HP5.out; rw [Bool.or_assoc] at this; exact this, HA5.out, HR5, by show _ ≤ _; have h1 := HFU.out; have h2 := HLE.out; have h3 := HA4.out; omega, by show _ ≤ _; have := HG.out; omega, by rw [HQV.out]; rfl⟩
          case measure => rw [HAT5.out, HAT.out]; have h2 := HLE.out; have h3 := HA4.out; omega
      | false =>
        have HQV := Lib.hid (HQS.out.trans (if_neg (by rw [HHD.out]; rintro ⟨_, h⟩; simp at h; simp [h] at ht)))
        clear HQS HQ
        go_wp2_with fail
        go_quiet ((go_at_call 38; exact Calls.quiet_of (HLL.out _)))
        obtain ⟨w4, hw4⟩ : ∃ w4, w4 = wr.drewN nq := ⟨_, rfl⟩
        rw [← hw4]
        have HB4 := Lib.hid (show Below w0.heap.size w0 w4 by rw [hw4]; exact bdN HBw.out _)
        have HP4 := Lib.hid (show RB w4 w0.heap.size (.slice (some ⟨b, off, none⟩) args.length cap) a' f c (if q.e then 27 else 0) (o || q.o) by rw [hw4]; exact HPw.out.drewN _)
        clear hw4 k0 k1 k4 v0 g1
        go_wp2
        go_ret
        exact rpost q.v a' (by rw [HQV.out]) HB4.out HAw.out (by rw [HQV.out]; exact HR.out) (by rw [HQV.out]; exact HP4.out)
    · have HQV := Lib.hid (HQS.out.trans (if_neg (by rw [HR.out, List.drop_eq_nil_of_le h3]; simp)))
      have HLL := Lib.hid (fun n => HLZ.out n 0 (by omega))
      clear HQS HQ hbw haw hqe h3
      go_wp2_with fail
      go_quiet ((go_at_call 38; exact Calls.quiet_of (HLL.out _)))
      obtain ⟨w4, hw4⟩ : ∃ w4, w4 = wr.drewN nq := ⟨_, rfl⟩
      rw [← hw4]
      have HB4 := Lib.hid (show Below w0.heap.size w0 w4 by rw [hw4]; exact bdN HBw.out _)
      have HP4 := Lib.hid (show RB w4 w0.heap.size (.slice A args.length cap) a' f c (if q.e then 27 else 0) (o || q.o) by rw [hw4]; exact HPw.out.drewN _)
      clear hw4 k0 k1 k4
      go_wp2
      go_ret
      exact rpost q.v a' (by rw [HQV.out]) HB4.out HAw.out (by rw [HQV.out]; exact HR.out) (by rw [HQV.out]; exact HP4.out)
theorem all_ref {w0 : World} {f : Value} {c : List UInt8} {fs : List Fi} {ar : Value} {args : List (List UInt8)} (hx : RX w0 f c fs ar args) : ∀ fu, NotD w0 f c fs ar args fu ∧ AndD w0 f c fs ar args fu ∧ OrD w0 f c fs ar args fu := by
  intro fu
  induction fu using Nat.strongRecOn with
  | _ fu ih =>
    exact ⟨not_ref hx fu (fun m hm => (ih m hm).1) (fun m hm => (ih m hm).2.2), and_ref hx fu (fun m hm => (ih m hm).1), or_ref hx fu (fun m hm => (ih m hm).2.1)⟩
end W
end Go.Proofs.YtmccfdmnidbalaaGreatDoor
