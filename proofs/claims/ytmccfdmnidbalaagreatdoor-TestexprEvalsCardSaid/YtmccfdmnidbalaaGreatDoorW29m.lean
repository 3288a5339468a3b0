/- Chapter 29: not of the parser. -/
import Derived.Test.YtmccfdmnidbalaaGreatDoorW29l
import Derived.Deep.RegionHeldLaw
namespace Go.Proofs.YtmccfdmnidbalaaGreatDoor
open Go.RowKit K
namespace P
theorem notP_A {F : Str → Option (Bool × Str)} {f : Nat} {neg : Bool} {a x y : Str} {r : List Str} (h : isBin x = true) : notP F (f + 1) neg (a :: x :: y :: r) = ⟨binV a x y != neg, r, false, binI a x y⟩ := by
  rw [notP, if_pos ⟨by simp, by simpa using h⟩]; rfl
def noA (r : List Str) : Prop := ¬ (2 ≤ r.length ∧ isBin (r.getD 0 []) = true)
theorem notP_B {F : Str → Option (Bool × Str)} {f : Nat} {neg : Bool} {r : List Str} (h : noA r) (h1 : 1 ≤ r.length) : notP F (f + 1) neg ([33] :: r) = notP F f (!neg) r := by
  rw [notP, if_neg h, if_pos ⟨h1, rfl⟩]
theorem notP_C {F : Str → Option (Bool × Str)} {f : Nat} {neg : Bool} {r : List Str} (h : noA r) : notP F (f + 1) neg ([40] :: r) = if (orP F f r).rest.head? = some [41] then ⟨(orP F f r).v != neg, (orP F f r).rest.drop 1, (orP F f r).u, (orP F f r).i⟩ else ⟨(orP F f r).v != neg, (orP F f r).rest, true, (orP F f r).i⟩ := by
  rw [notP, if_neg h, if_neg (by rintro ⟨_, h⟩; simp at h), if_pos rfl]
theorem notP_D {F : Str → Option (Bool × Str)} {f : Nat} {neg : Bool} {a x : Str} {r : List Str} (h : noA (x :: r)) (h1 : a ≠ [33]) (h2 : a ≠ [40]) (h3 : isUn a = true) : notP F (f + 1) neg (a :: x :: r) = ⟨unV F a x != neg, r, false, false⟩ := by
  rw [notP, if_neg h, if_neg (by rintro ⟨_, h⟩; exact h1 h), if_neg h2, if_pos ⟨by simp, h3⟩]; rfl
theorem notP_E {F : Str → Option (Bool × Str)} {f : Nat} {neg : Bool} {a : Str} {r : List Str} (h : noA r) (h1 : ¬ (1 ≤ r.length ∧ a = [33])) (h2 : a ≠ [40]) (h3 : ¬ (1 ≤ r.length ∧ isUn a = true)) : notP F (f + 1) neg (a :: r) = ⟨(a != []) != neg, r, false, false⟩ := by
  rw [notP, if_neg h, if_neg h1, if_neg h2, if_neg h3]
end P
namespace W
set_option maxHeartbeats 8000000 in
set_option maxRecDepth 100000 in
theorem not_of (w0 : World) (f : Value) (c : List UInt8) (fs : List Fi) (h : CX w0 f c fs) (fu : Nat) (HO : ∀ m, m < fu → OrC w0 f c fs m) : NotC w0 f c fs fu := by
  intro rest w r u i hs hf hr hb0 hp
  have HCX := Lib.hid h
  have HOL := Lib.hid HO
  generalize hQ : P.notP (P.lookF fs c) fu false rest = Q
  have HQ0 := Lib.hid hQ
  have HS0 := Lib.hid hs
  have HF0 := Lib.hid hf
  have HB0 := Lib.hid hb0
  have HP0 := Lib.hid hp
  have HR0 := Lib.hid hr
  obtain ⟨y, hy⟩ : ∃ y, y = w := ⟨_, rfl⟩
  rw [← hy] at HB0 HP0
  clear hQ hs hf hb0 hp hr h HO
  go_enter Tryz.func54, Tryz.ntmps54
  go_wp2
  rw [← hy]
  clear hy
  go_loopw [3] (fun ng wr => ∃ (g : Nat) (neg : Bool) (rs : List (List UInt8)) (r' : Value), ng = .bool neg ∧ Below w0.heap.size w0 wr ∧ PB wr w0.heap.size r' f c u i ∧ RV w0 r' rs ∧ Hid (∀ s ∈ rs, SOK s) ∧ Hid (4 * rs.length + 1 ≤ g) ∧ Hid (g ≤ fu) ∧ Hid (P.notP (P.lookF fs c) g neg rs = Q)) (fun _ wr => restLen wr w0.heap.size)
  case atStart => exact ⟨fu, false, rest, r, rfl, HB0.out, HP0.out, HR0.out, HS0, HF0, Nat.le_refl _, HQ0.out⟩
  case round =>
    obtain ⟨g, neg, rs, r', rfl, hbw, hpw, hrw, HS, HF, HG, HQ⟩ := hrel
    have HBw := Lib.hid hbw
    have HPw := Lib.hid hpw
    have HRL := Lib.hid (restLen_of hpw hrw)
    obtain ⟨g2, rfl⟩ : ∃ g2, g = g2 + 1 := ⟨g - 1, by have := HF.out; omega⟩
    obtain ⟨c0, c1, c2, c3, c4⟩ := hpw.cells
    obtain ⟨f0, f3, f4⟩ := hpw.thaw
    have HTK := Lib.hid (fun (n : Nat) (h1 : 1 ≤ n) (hn : n ≤ rs.length) => take_of wr r' rs n u i h1 hn hrw hbw hpw)
    have HRw := Lib.hid hrw
    obtain ⟨Aw, cw, hr', q1, q2, hSL⟩ := hrw
    subst hr'
    cases rs with
    | nil =>
      have HF2 := Lib.hid (show Q = ⟨false, [], true, false⟩ by rw [← HQ.out, P.notP])
      have hl0 : ((([] : List (List UInt8)).length : Int) == 0) = true := rfl
      have Z1 := Lib.hid (hbw.setCell (p := ⟨w0.heap.size, 3, none⟩) (by simp) (.bool true))
      have Z2 := Lib.hid (hpw.set3 true)
      clear hbw hpw hSL HTK
      go_wp2
      go_ret
      exact ⟨ret_bool (by rw [HF2.out]), Z1.out, _, by rw [HF2.out, Bool.or_true, Bool.or_false]; exact Z2.out, by rw [HF2.out]; exact HRw.out⟩
    | cons a rr =>
      obtain ⟨bk, off, rfl, hbk, hcell⟩ := (hSL.below hbw) (by simp)
      have a0 : wr.cell? ⟨bk, off, none⟩ = some (.string ⟨a.toArray⟩) := hcell 0 (by simp)
      have HSA := Lib.hid (HS.out a (by simp))
      have HT1 := Lib.hid (HTK.out 1 (by omega) (by simp))
      obtain ⟨N, hN⟩ : ∃ N, (a :: rr).length = N := ⟨_, rfl⟩
      rw [hN] at c0 q1
      have hN' : rr.length + 1 = N := hN
      have HNN := Lib.hid hN'
      have hL0 : ((N : Int) == 0) = false := by simp; omega
      have hL1 : (0 : Int) < (N : Int) := by omega
      have hIB : (((3 : Int) ≤ (N : Int)) = False ∧ P.noA rr) ∨ (((3 : Int) ≤ (N : Int)) = True ∧ ∃ x yy r2, rr = x :: yy :: r2 ∧ wr.cell? ⟨bk, off + 1, none⟩ = some (.string ⟨x.toArray⟩)) := by
        by_cases h3 : 2 ≤ rr.length
        · right
          refine ⟨eq_true (by omega), ?_⟩
          match rr, hcell, h3 with
          | x :: yy :: r2, hcell, _ => exact ⟨x, yy, r2, rfl, hcell 1 (by simp)⟩
        · left
          exact ⟨eq_false (by omega), fun hh => h3 hh.1⟩
      clear hcell hbw hpw hSL hN hN'
      rcases hIB with ⟨hn3, hno⟩ | ⟨hn3, x, yy, r2, rfl, hx1⟩
      · have hdummy : True := trivial
        by_cases hB : 1 ≤ (rr).length ∧ a = [33]
        · obtain ⟨hB1, rfl⟩ := hB
          have n2 : ((2 : Int) ≤ (N : Int)) = True := eq_true (by have := HNN.out; (try simp only [List.length_cons] at *); omega)
          have HST := Lib.hid (show P.notP (P.lookF fs c) g2 (!neg) (rr) = Q by rw [← HQ.out, P.notP_B hno hB1])
          have HL := Lib.hid hB1
          clear hB1 hno
          go_wp2_with fail
          refine HT1.out.mono ?_
          rintro e w2 ⟨A2, cap2, r2', rfl, hs2, hb2, hp2, hr2⟩
          have HB2 := Lib.hid hb2
          have HP2 := Lib.hid hp2
          have HR2 := Lib.hid hr2
          have HRL2 := Lib.hid (restLen_of hp2 hr2)
          clear hs2 hb2 hp2 hr2
          cases neg
          all_goals
            go_wp2
            go_roundw
            case rel => exact ⟨g2, _, rr, r2', rfl, HB2.out, HP2.out, HR2.out, fun s hs => HS.out s (List.mem_cons_of_mem _ hs), by show _ ≤ _; have h1 := HF.out; simp only [List.length_cons] at h1 ⊢; omega, by show _ ≤ _; have := HG.out; omega, HST.out⟩
            case measure => rw [HRL2.out, HRL.out]; simp
        have hnB : (((2 : Int) ≤ (N : Int)) = False) ∨ (((2 : Int) ≤ (N : Int)) = True ∧ (a == [33]) = false) := by
          have h0 := HNN.out
          by_cases h1 : 1 ≤ (rr).length
          · exact .inr ⟨eq_true (by (try simp only [List.length_cons] at *); omega), by simpa using fun h => hB ⟨h1, h⟩⟩
          · exact .inl (eq_false (by (try simp only [List.length_cons] at *); omega))
        by_cases hC : a = [40]
        · subst hC
          have HST := Lib.hid (show Q = if (P.orP (P.lookF fs c) g2 (rr)).rest.head? = some [41] then ⟨(P.orP (P.lookF fs c) g2 (rr)).v != neg, (P.orP (P.lookF fs c) g2 (rr)).rest.drop 1, (P.orP (P.lookF fs c) g2 (rr)).u, (P.orP (P.lookF fs c) g2 (rr)).i⟩ else ⟨(P.orP (P.lookF fs c) g2 (rr)).v != neg, (P.orP (P.lookF fs c) g2 (rr)).rest, true, (P.orP (P.lookF fs c) g2 (rr)).i⟩ by rw [← HQ.out, P.notP_C hno])
          have HOR := Lib.hid (fun w2 rz h1 h2 h3 => HOL.out g2 (by have := HG.out; omega) (rr) w2 rz u i (fun s hs => HS.out s (List.mem_cons_of_mem _ hs)) (by have h1 := HF.out; simp only [List.length_cons] at h1 ⊢; omega) h1 h2 h3)
          generalize P.orP (P.lookF fs c) g2 (rr) = q at HST HOR
          unfold NPost at HOR
          clear hB hno hnB
          have d33 : (([40] : List UInt8) == [33]) = false := rfl
          have hn2 : (((2 : Int) ≤ (N : Int)) = False) ∨ (((2 : Int) ≤ (N : Int)) = True) := by by_cases h1 : (2 : Int) ≤ (N : Int); exact .inr (eq_true h1); exact .inl (eq_false h1)
          rcases hn2 with n2 | n2
          all_goals
            go_wp2_with fail
            refine HT1.out.mono ?_
            rintro e w2 ⟨A2, cap2, r2', rfl, hs2, hb2, hp2, hr2⟩
            have HB2 := Lib.hid hb2
            have HP2 := Lib.hid hp2
            have HR2 := Lib.hid hr2
            clear hs2 hb2 hp2 hr2
            go_wp2_with fail
            refine (HOR.out w2 r2' HR2.out HB2.out HP2.out).mono ?_
            rintro e w3 ⟨rfl, hb3, r3, hp3, hr3⟩
            have HNX := Lib.hid (next_of w3 r3 q.rest [41] (u || q.u) (i || q.i) hr3 hb3 hp3)
            have HR3 := Lib.hid hr3
            clear hb3 hp3 hr3
            go_wp2_with fail
            refine HNX.out.mono ?_
            rintro e w4 (⟨hh, rfl, hb4, r4, hp4, hr4⟩ | ⟨hh, rfl, hb4, hp4⟩)
            · have HF2 := Lib.hid (show Q = ⟨q.v != neg, q.rest.drop 1, q.u, q.i⟩ by rw [HST.out, if_pos hh])
              have HB4 := Lib.hid hb4
              have HP4 := Lib.hid hp4
              have HR4 := Lib.hid hr4
              clear hh hb4 hp4 hr4
              go_wp2
              go_ret
              exact ⟨ret_bool (by rw [HF2.out]; cases q.v <;> cases neg <;> rfl), HB4.out, r4, by rw [HF2.out]; exact HP4.out, by rw [HF2.out]; exact HR4.out⟩
            · have HF2 := Lib.hid (show Q = ⟨q.v != neg, q.rest, true, q.i⟩ by rw [HST.out, if_neg hh])
              have Z1 := Lib.hid (hb4.setCell (p := ⟨w0.heap.size, 3, none⟩) (by simp) (.bool true))
              have Z2 := Lib.hid (hp4.set3 true)
              obtain ⟨t0, t3, t4⟩ := hp4.thaw
              obtain ⟨d0, d1, d2, d3, d4⟩ := hp4.cells
              clear hh hb4 hp4
              go_wp2
              go_ret
              exact ⟨ret_bool (by rw [HF2.out]; cases q.v <;> cases neg <;> rfl), Z1.out, r3, by rw [HF2.out, Bool.or_true]; exact Z2.out, by rw [HF2.out]; exact HR3.out⟩
        have dC : (a == [40]) = false := by simpa using hC
        have HIU := Lib.hid (fun w => isUnary_any a w)
        rcases hnB with n2 | ⟨n2, d33⟩
        · have HF2 := Lib.hid (show Q = ⟨(a != []) != neg, rr, false, false⟩ by rw [← HQ.out, P.notP_E hno hB hC (by rintro ⟨h1, _⟩; exact (of_eq_false n2) (by have := HNN.out; (try simp only [List.length_cons] at *); omega))])
          clear hB hC hno HIU
          go_wp2_with fail
          refine HT1.out.mono ?_
          rintro e w2 ⟨A2, cap2, r2', rfl, hs2, hb2, hp2, hr2⟩
          have HB2 := Lib.hid hb2
          have HP2 := Lib.hid hp2
          have HR2 := Lib.hid hr2
          obtain ⟨k2, off2, hA2, hk2, hc2⟩ := hs2 (by simp)
          have e2 := hc2 0 (by simp)
          have e2' : w2.cell? ⟨k2, off2, none⟩ = some (.string ⟨a.toArray⟩) := (hb2.cell (p := ⟨k2, off2, none⟩) hk2).trans (by simpa using e2)
          subst hA2
          clear hs2 hb2 hp2 hr2 hc2 e2
          cases a with
          | nil =>
            go_wp2
            go_ret
            exact ⟨ret_bool (by rw [HF2.out]; cases neg <;> rfl), HB2.out, r2', by rw [HF2.out, Bool.or_false, Bool.or_false]; exact HP2.out, by rw [HF2.out]; exact HR2.out⟩
          | cons ax ay =>
            go_wp2
            go_ret
            exact ⟨ret_bool (by rw [HF2.out]; cases neg <;> rfl), HB2.out, r2', by rw [HF2.out, Bool.or_false, Bool.or_false]; exact HP2.out, by rw [HF2.out]; exact HR2.out⟩
        · cases hun : P.isUn a with
          | false =>
            rw [hun] at HIU
            have HF2 := Lib.hid (show Q = ⟨(a != []) != neg, rr, false, false⟩ by rw [← HQ.out, P.notP_E hno hB hC (by rintro ⟨_, h⟩; rw [hun] at h; cases h)])
            clear hB hC hno hun
            go_wp2_with fail
            refine (HIU.out _).mono ?_
            rintro e wj ⟨rfl, rfl⟩
            go_wp2_with fail
            refine HT1.out.mono ?_
            rintro e w2 ⟨A2, cap2, r2', rfl, hs2, hb2, hp2, hr2⟩
            have HB2 := Lib.hid hb2
            have HP2 := Lib.hid hp2
            have HR2 := Lib.hid hr2
            obtain ⟨k2, off2, hA2, hk2, hc2⟩ := hs2 (by simp)
            have e2 := hc2 0 (by simp)
            have e2' : w2.cell? ⟨k2, off2, none⟩ = some (.string ⟨a.toArray⟩) := (hb2.cell (p := ⟨k2, off2, none⟩) hk2).trans (by simpa using e2)
            subst hA2
            clear hs2 hb2 hp2 hr2 hc2 e2
            cases a with
            | nil =>
              go_wp2
              go_ret
              exact ⟨ret_bool (by rw [HF2.out]; cases neg <;> rfl), HB2.out, r2', by rw [HF2.out, Bool.or_false, Bool.or_false]; exact HP2.out, by rw [HF2.out]; exact HR2.out⟩
            | cons ax ay =>
              go_wp2
              go_ret
              exact ⟨ret_bool (by rw [HF2.out]; cases neg <;> rfl), HB2.out, r2', by rw [HF2.out, Bool.or_false, Bool.or_false]; exact HP2.out, by rw [HF2.out]; exact HR2.out⟩
          | true =>
            rw [hun] at HIU
            obtain ⟨x', r2x, hrr⟩ : ∃ x' r2x, rr = x' :: r2x := by
              cases rr with
              | nil => exact absurd (of_eq_true n2) (by have := HNN.out; simp at this; omega)
              | cons x' r2x => exact ⟨x', r2x, rfl⟩
            have hno2 : P.noA (x' :: r2x) := by rw [← hrr]; exact hno
            have HF2 := Lib.hid (show Q = ⟨P.unV (P.lookF fs c) a x' != neg, r2x, false, false⟩ by rw [← HQ.out, hrr, P.notP_D hno2 (of_decide_eq_false (by simpa using d33)) hC hun])
            have HSX := Lib.hid (HS.out x' (by rw [hrr]; simp))
            have HT2 := Lib.hid (HTK.out 2 (by omega) (by rw [hrr]; simp))
            have HUN := Lib.hid (fun w1 r1 h1 h2 => un_ok HCX.out a x' HSX.out w1 r1 u i h1 h2)
            unfold BPost at HUN
            generalize P.unV (P.lookF fs c) a x' = V at HF2 HUN
            have HRR := Lib.hid hrr
            clear hB hC hno hno2 hun hrr
            go_wp2_with fail
            refine (HIU.out _).mono ?_
            rintro e wj ⟨rfl, rfl⟩
            go_wp2_with fail
            refine HT2.out.mono ?_
            rintro e w2 ⟨A2, cap2, r2', rfl, hs2, hb2, hp2, hr2⟩
            rw [HRR.out] at hs2 hr2
            have HB2 := Lib.hid hb2
            have HP2 := Lib.hid hp2
            have HR2 := Lib.hid (show RV w0 r2' r2x from hr2)
            obtain ⟨k2, off2, rfl, hk2, e20, e21⟩ := SL.two (show SL w0 A2 [a, x'] from hs2)
            have HKP := Lib.hid (show ∀ w', Below w0.heap.size w0 w' → (w'.cell? ⟨k2, off2, none⟩ = some (.string ⟨a.toArray⟩) ∧ w'.cell? ⟨k2, off2 + 1, none⟩ = some (.string ⟨x'.toArray⟩) ∧ Below w0.heap.size w0 w') from fun w' h => ⟨(h.cell (p := ⟨k2, off2, none⟩) hk2).trans e20, (h.cell (p := ⟨k2, off2 + 1, none⟩) hk2).trans e21, h⟩)
            obtain ⟨e30, e31, -⟩ := HKP.out w2 HB2.out
            clear hs2 hb2 hp2 hr2 e20 e21
            go_wp2_with fail
            go_region_held_law (fun w' => w'.cell? ⟨k2, off2, none⟩ = some (.string ⟨a.toArray⟩) ∧ w'.cell? ⟨k2, off2 + 1, none⟩ = some (.string ⟨x'.toArray⟩) ∧ Below w0.heap.size w0 w')
              (first | exact HKP.out _ HB2.out.drew | exact HKP.out _ hb3 | (go_split_ands; exact HKP.out _ ‹_›) | go_keep)
              (first
                | (go_at_call 29; refine (HUN.out _ _ HB2.out.drew HP2.out).mono ?_; rintro e w3 ⟨rfl, hb3, hp3⟩))
            all_goals
              have HB3 := Lib.hid hb3
              have HP3 := Lib.hid hp3
              clear hb3 hp3
              go_wp2
              go_ret
              exact ⟨ret_bool (by rw [HF2.out]; cases V <;> cases neg <;> rfl), HB3.out, r2', by rw [HF2.out, Bool.or_false, Bool.or_false]; exact HP3.out, by rw [HF2.out]; exact HR2.out⟩
      · have hL2 : (1 : Int) < (N : Int) := by have := of_eq_true hn3; omega
        cases hbin : P.isBin x with
        | false =>
          have HIBX := Lib.hid (fun w => isBinary_any x w)
          rw [hbin] at HIBX
          have hno : P.noA (x :: yy :: r2) := by rintro ⟨_, h⟩; simp at h; rw [hbin] at h; cases h
          clear hbin
          by_cases hB : 1 ≤ (x :: yy :: r2).length ∧ a = [33]
          · obtain ⟨hB1, rfl⟩ := hB
            have n2 : ((2 : Int) ≤ (N : Int)) = True := eq_true (by have := HNN.out; (try simp only [List.length_cons] at *); omega)
            have HST := Lib.hid (show P.notP (P.lookF fs c) g2 (!neg) (x :: yy :: r2) = Q by rw [← HQ.out, P.notP_B hno hB1])
            have HL := Lib.hid hB1
            clear hB1 hno
            go_wp2_with fail
            refine (HIBX.out _).mono ?_
            rintro e wi ⟨rfl, rfl⟩
            go_wp2_with fail
            refine HT1.out.mono ?_
            rintro e w2 ⟨A2, cap2, r2', rfl, hs2, hb2, hp2, hr2⟩
            have HB2 := Lib.hid hb2
            have HP2 := Lib.hid hp2
            have HR2 := Lib.hid hr2
            have HRL2 := Lib.hid (restLen_of hp2 hr2)
            clear hs2 hb2 hp2 hr2
            cases neg
            all_goals
              go_wp2
              go_roundw
              case rel => exact ⟨g2, _, x :: yy :: r2, r2', rfl, HB2.out, HP2.out, HR2.out, fun s hs => HS.out s (List.mem_cons_of_mem _ hs), by show _ ≤ _; have h1 := HF.out; simp only [List.length_cons] at h1 ⊢; omega, by show _ ≤ _; have := HG.out; omega, HST.out⟩
              case measure => rw [HRL2.out, HRL.out]; simp
          have hnB : (((2 : Int) ≤ (N : Int)) = False) ∨ (((2 : Int) ≤ (N : Int)) = True ∧ (a == [33]) = false) := by
            have h0 := HNN.out
            by_cases h1 : 1 ≤ (x :: yy :: r2).length
            · exact .inr ⟨eq_true (by (try simp only [List.length_cons] at *); omega), by simpa using fun h => hB ⟨h1, h⟩⟩
            · exact .inl (eq_false (by (try simp only [List.length_cons] at *); omega))
          by_cases hC : a = [40]
          · subst hC
            have HST := Lib.hid (show Q = if (P.orP (P.lookF fs c) g2 (x :: yy :: r2)).rest.head? = some [41] then ⟨(P.orP (P.lookF fs c) g2 (x :: yy :: r2)).v != neg, (P.orP (P.lookF fs c) g2 (x :: yy :: r2)).rest.drop 1, (P.orP (P.lookF fs c) g2 (x :: yy :: r2)).u, (P.orP (P.lookF fs c) g2 (x :: yy :: r2)).i⟩ else ⟨(P.orP (P.lookF fs c) g2 (x :: yy :: r2)).v != neg, (P.orP (P.lookF fs c) g2 (x :: yy :: r2)).rest, true, (P.orP (P.lookF fs c) g2 (x :: yy :: r2)).i⟩ by rw [← HQ.out, P.notP_C hno])
            have HOR := Lib.hid (fun w2 rz h1 h2 h3 => HOL.out g2 (by have := HG.out; omega) (x :: yy :: r2) w2 rz u i (fun s hs => HS.out s (List.mem_cons_of_mem _ hs)) (by have h1 := HF.out; simp only [List.length_cons] at h1 ⊢; omega) h1 h2 h3)
            generalize P.orP (P.lookF fs c) g2 (x :: yy :: r2) = q at HST HOR
            unfold NPost at HOR
            clear hB hno hnB
            have d33 : (([40] : List UInt8) == [33]) = false := rfl
            have hn2 : (((2 : Int) ≤ (N : Int)) = False) ∨ (((2 : Int) ≤ (N : Int)) = True) := by by_cases h1 : (2 : Int) ≤ (N : Int); exact .inr (eq_true h1); exact .inl (eq_false h1)
            rcases hn2 with n2 | n2
            all_goals
              go_wp2_with fail
              refine (HIBX.out _).mono ?_
              rintro e wi ⟨rfl, rfl⟩
              go_wp2_with fail
              refine HT1.out.mono ?_
              rintro e w2 ⟨A2, cap2, r2', rfl, hs2, hb2, hp2, hr2⟩
              have HB2 := Lib.hid hb2
              have HP2 := Lib.hid hp2
              have HR2 := Lib.hid hr2
              clear hs2 hb2 hp2 hr2
              go_wp2_with fail
              refine (HOR.out w2 r2' HR2.out HB2.out HP2.out).mono ?_
              rintro e w3 ⟨rfl, hb3, r3, hp3, hr3⟩
              have HNX := Lib.hid (next_of w3 r3 q.rest [41] (u || q.u) (i || q.i) hr3 hb3 hp3)
              have HR3 := Lib.hid hr3
              clear hb3 hp3 hr3
              go_wp2_with fail
              refine HNX.out.mono ?_
              rintro e w4 (⟨hh, rfl, hb4, r4, hp4, hr4⟩ | ⟨hh, rfl, hb4, hp4⟩)
              · have HF2 := Lib.hid (show Q = ⟨q.v != neg, q.rest.drop 1, q.u, q.i⟩ by rw [HST.out, if_pos hh])
                have HB4 := Lib.hid hb4
                have HP4 := Lib.hid hp4
                have HR4 := Lib.hid hr4
                clear hh hb4 hp4 hr4
                go_wp2
                go_ret
                exact ⟨ret_bool (by rw [HF2.out]; cases q.v <;> cases neg <;> rfl), HB4.out, r4, by rw [HF2.out]; exact HP4.out, by rw [HF2.out]; exact HR4.out⟩
              · have HF2 := Lib.hid (show Q = ⟨q.v != neg, q.rest, true, q.i⟩ by rw [HST.out, if_neg hh])
                have Z1 := Lib.hid (hb4.setCell (p := ⟨w0.heap.size, 3, none⟩) (by simp) (.bool true))
                have Z2 := Lib.hid (hp4.set3 true)
                obtain ⟨t0, t3, t4⟩ := hp4.thaw
                obtain ⟨d0, d1, d2, d3, d4⟩ := hp4.cells
                clear hh hb4 hp4
                go_wp2
                go_ret
                exact ⟨ret_bool (by rw [HF2.out]; cases q.v <;> cases neg <;> rfl), Z1.out, r3, by rw [HF2.out, Bool.or_true]; exact Z2.out, by rw [HF2.out]; exact HR3.out⟩
          have dC : (a == [40]) = false := by simpa using hC
          have HIU := Lib.hid (fun w => isUnary_any a w)
          rcases hnB with n2 | ⟨n2, d33⟩
          · have HF2 := Lib.hid (show Q = ⟨(a != []) != neg, x :: yy :: r2, false, false⟩ by rw [← HQ.out, P.notP_E hno hB hC (by rintro ⟨h1, _⟩; exact (of_eq_false n2) (by have := HNN.out; (try simp only [List.length_cons] at *); omega))])
            clear hB hC hno HIU
            go_wp2_with fail
            refine (HIBX.out _).mono ?_
            rintro e wi ⟨rfl, rfl⟩
            go_wp2_with fail
            refine HT1.out.mono ?_
            rintro e w2 ⟨A2, cap2, r2', rfl, hs2, hb2, hp2, hr2⟩
            have HB2 := Lib.hid hb2
            have HP2 := Lib.hid hp2
            have HR2 := Lib.hid hr2
            obtain ⟨k2, off2, hA2, hk2, hc2⟩ := hs2 (by simp)
            have e2 := hc2 0 (by simp)
            have e2' : w2.cell? ⟨k2, off2, none⟩ = some (.string ⟨a.toArray⟩) := (hb2.cell (p := ⟨k2, off2, none⟩) hk2).trans (by simpa using e2)
            subst hA2
            clear hs2 hb2 hp2 hr2 hc2 e2
            cases a with
            | nil =>
              go_wp2
              go_ret
              exact ⟨ret_bool (by rw [HF2.out]; cases neg <;> rfl), HB2.out, r2', by rw [HF2.out, Bool.or_false, Bool.or_false]; exact HP2.out, by rw [HF2.out]; exact HR2.out⟩
            | cons ax ay =>
              go_wp2
              go_ret
              exact ⟨ret_bool (by rw [HF2.out]; cases neg <;> rfl), HB2.out, r2', by rw [HF2.out, Bool.or_false, Bool.or_false]; exact HP2.out, by rw [HF2.out]; exact HR2.out⟩
          · cases hun : P.isUn a with
            | false =>
              rw [hun] at HIU
              have HF2 := Lib.hid (show Q = ⟨(a != []) != neg, x :: yy :: r2, false, false⟩ by rw [← HQ.out, P.notP_E hno hB hC (by rintro ⟨_, h⟩; rw [hun] at h; cases h)])
              clear hB hC hno hun
              go_wp2_with fail
              refine (HIBX.out _).mono ?_
              rintro e wi ⟨rfl, rfl⟩
              go_wp2_with fail
              refine (HIU.out _).mono ?_
              rintro e wj ⟨rfl, rfl⟩
              go_wp2_with fail
              refine HT1.out.mono ?_
              rintro e w2 ⟨A2, cap2, r2', rfl, hs2, hb2, hp2, hr2⟩
              have HB2 := Lib.hid hb2
              have HP2 := Lib.hid hp2
              have HR2 := Lib.hid hr2
              obtain ⟨k2, off2, hA2, hk2, hc2⟩ := hs2 (by simp)
              have e2 := hc2 0 (by simp)
              have e2' : w2.cell? ⟨k2, off2, none⟩ = some (.string ⟨a.toArray⟩) := (hb2.cell (p := ⟨k2, off2, none⟩) hk2).trans (by simpa using e2)
              subst hA2
              clear hs2 hb2 hp2 hr2 hc2 e2
              cases a with
              | nil =>
                go_wp2
                go_ret
                exact ⟨ret_bool (by rw [HF2.out]; cases neg <;> rfl), HB2.out, r2', by rw [HF2.out, Bool.or_false, Bool.or_false]; exact HP2.out, by rw [HF2.out]; exact HR2.out⟩
              | cons ax ay =>
                go_wp2
                go_ret
                exact ⟨ret_bool (by rw [HF2.out]; cases neg <;> rfl), HB2.out, r2', by rw [HF2.out, Bool.or_false, Bool.or_false]; exact HP2.out, by rw [HF2.out]; exact HR2.out⟩
            | true =>
              rw [hun] at HIU
              obtain ⟨x', r2x, hrr⟩ : ∃ x' r2x, x :: yy :: r2 = x' :: r2x := ⟨x, yy :: r2, rfl⟩
              have hno2 : P.noA (x' :: r2x) := by rw [← hrr]; exact hno
              have HF2 := Lib.hid (show Q = ⟨P.unV (P.lookF fs c) a x' != neg, r2x, false, false⟩ by rw [← HQ.out, hrr, P.notP_D hno2 (of_decide_eq_false (by simpa using d33)) hC hun])
              have HSX := Lib.hid (HS.out x' (by rw [hrr]; simp))
              have HT2 := Lib.hid (HTK.out 2 (by omega) (by rw [hrr]; simp))
              have HUN := Lib.hid (fun w1 r1 h1 h2 => un_ok HCX.out a x' HSX.out w1 r1 u i h1 h2)
              unfold BPost at HUN
              generalize P.unV (P.lookF fs c) a x' = V at HF2 HUN
              have HRR := Lib.hid hrr
              clear hB hC hno hno2 hun hrr
              go_wp2_with fail
              refine (HIBX.out _).mono ?_
              rintro e wi ⟨rfl, rfl⟩
              go_wp2_with fail
              refine (HIU.out _).mono ?_
              rintro e wj ⟨rfl, rfl⟩
              go_wp2_with fail
              refine HT2.out.mono ?_
              rintro e w2 ⟨A2, cap2, r2', rfl, hs2, hb2, hp2, hr2⟩
              rw [HRR.out] at hs2 hr2
              have HB2 := Lib.hid hb2
              have HP2 := Lib.hid hp2
              have HR2 := Lib.hid (show RV w0 r2' r2x from hr2)
              obtain ⟨k2, off2, rfl, hk2, e20, e21⟩ := SL.two (show SL w0 A2 [a, x'] from hs2)
              have HKP := Lib.hid (show ∀ w', Below w0.heap.size w0 w' → (w'.cell? ⟨k2, off2, none⟩ = some (.string ⟨a.toArray⟩) ∧ w'.cell? ⟨k2, off2 + 1, none⟩ = some (.string ⟨x'.toArray⟩) ∧ Below w0.heap.size w0 w') from fun w' h => ⟨(h.cell (p := ⟨k2, off2, none⟩) hk2).trans e20, (h.cell (p := ⟨k2, off2 + 1, none⟩) hk2).trans e21, h⟩)
              obtain ⟨e30, e31, -⟩ := HKP.out w2 HB2.out
              clear hs2 hb2 hp2 hr2 e20 e21
              go_wp2_with fail
              go_region_held_law (fun w' => w'.cell? ⟨k2, off2, none⟩ = some (.string ⟨a.toArray⟩) ∧ w'.cell? ⟨k2, off2 + 1, none⟩ = some (.string ⟨x'.toArray⟩) ∧ Below w0.heap.size w0 w')
                (first | exact HKP.out _ HB2.out.drew | exact HKP.out _ hb3 | (go_split_ands; exact HKP.out _ ‹_›) | go_keep)
                (first
                  | (go_at_call 29; refine (HUN.out _ _ HB2.out.drew HP2.out).mono ?_; rintro e w3 ⟨rfl, hb3, hp3⟩))
              all_goals
                have HB3 := Lib.hid hb3
                have HP3 := Lib.hid hp3
                clear hb3 hp3
                go_wp2
                go_ret
                exact ⟨ret_bool (by rw [HF2.out]; cases V <;> cases neg <;> rfl), HB3.out, r2', by rw [HF2.out, Bool.or_false, Bool.or_false]; exact HP3.out, by rw [HF2.out]; exact HR2.out⟩
        | true =>
          have HIBX := Lib.hid (fun w => isBinary_any x w)
          rw [hbin] at HIBX
          have HF2 := Lib.hid (show Q = ⟨P.binV a x yy != neg, r2, false, P.binI a x yy⟩ by rw [← HQ.out, P.notP_A hbin])
          have HSY := Lib.hid (HS.out yy (by simp))
          have HT3 := Lib.hid (HTK.out 3 (by omega) (by simp))
          have HBN := Lib.hid (fun w1 r1 h1 h2 => bin_ok HCX.out a x yy HSA.out HSY.out w1 r1 u i h1 h2)
          unfold BPost at HBN
          generalize P.binV a x yy = V at HF2 HBN
          generalize P.binI a x yy = J at HF2 HBN
          clear hbin
          go_wp2_with fail
          refine (HIBX.out _).mono ?_
          rintro e wi ⟨rfl, rfl⟩
          go_wp2_with fail
          refine HT3.out.mono ?_
          rintro e w2 ⟨A2, cap2, r2', rfl, hs2, hb2, hp2, hr2⟩
          have HB2 := Lib.hid hb2
          have HP2 := Lib.hid hp2
          have HR2 := Lib.hid (show RV w0 r2' r2 from hr2)
          obtain ⟨k2, off2, rfl, hk2, e20, e21, e22⟩ := SL.three (show SL w0 A2 [a, x, yy] from hs2)
          have HKP := Lib.hid (show ∀ w', Below w0.heap.size w0 w' → (w'.cell? ⟨k2, off2, none⟩ = some (.string ⟨a.toArray⟩) ∧ w'.cell? ⟨k2, off2 + 1, none⟩ = some (.string ⟨x.toArray⟩) ∧ w'.cell? ⟨k2, off2 + 2, none⟩ = some (.string ⟨yy.toArray⟩) ∧ Below w0.heap.size w0 w') from fun w' h => ⟨(h.cell (p := ⟨k2, off2, none⟩) hk2).trans e20, (h.cell (p := ⟨k2, off2 + 1, none⟩) hk2).trans e21, (h.cell (p := ⟨k2, off2 + 2, none⟩) hk2).trans e22, h⟩)
          obtain ⟨e30, e31, e32, -⟩ := HKP.out w2 HB2.out
          clear hs2 hb2 hp2 hr2 e20 e21 e22
          go_wp2_with fail
          go_region_held_law (fun w' => w'.cell? ⟨k2, off2, none⟩ = some (.string ⟨a.toArray⟩) ∧ w'.cell? ⟨k2, off2 + 1, none⟩ = some (.string ⟨x.toArray⟩) ∧ w'.cell? ⟨k2, off2 + 2, none⟩ = some (.string ⟨yy.toArray⟩) ∧ Below w0.heap.size w0 w')
            (first | exact HKP.out _ HB2.out.drew | exact HKP.out _ hb3 | (go_split_ands; exact HKP.out _ ‹_›) | go_keep)
            (first
              | (go_at_call 31; refine (HBN.out _ _ HB2.out.drew HP2.out).mono ?_; rintro e w3 ⟨rfl, hb3, hp3⟩))
          all_goals
            have HB3 := Lib.hid hb3
            have HP3 := Lib.hid hp3
            clear hb3 hp3
            go_wp2
            go_ret
            exact ⟨ret_bool (by rw [HF2.out]; cases V <;> cases neg <;> rfl), HB3.out, r2', by rw [HF2.out, Bool.or_false]; exact HP3.out, by rw [HF2.out]; exact HR2.out⟩
end W
end Go.Proofs.YtmccfdmnidbalaaGreatDoor
