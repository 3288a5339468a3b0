/- Chapter 29: the reference's not. -/
import Derived.Test.YtmccfdmnidbalaaGreatDoorR29f
namespace Go.Proofs.YtmccfdmnidbalaaGreatDoor
open Go.RowKit K
namespace W
set_option maxHeartbeats 4000000 in
set_option maxRecDepth 100000 in
theorem not_ref {w0 : World} {f : Value} {c : List UInt8} {fs : List Fi} {ar : Value} {args : List (List UInt8)} (hx : RX w0 f c fs ar args) (fu : Nat) (HNT : ∀ m, m < fu → NotD w0 f c fs ar args m) (HOR : ∀ m, m < fu → OrD w0 f c fs ar args m) : NotD w0 f c fs ar args fu := by
  intro a w o ha hf hb0 hp
  obtain ⟨g, rfl⟩ : ∃ g, fu = g + 1 := ⟨fu - 1, by omega⟩
  have HN := Lib.hid (HNT g (by omega))
  have HO := Lib.hid (HOR g (by omega))
  clear HNT HOR
  have HL := Lib.hid (fun w a (ha : a ≤ args.length) e o z (hz : (args.length : Int) - (a : Int) = z) (hp : RB w w0.heap.size ar a f c e o) => left_q w a e o z hz ha hx.na hx.rv hp)
  have HX := Lib.hid hx
  have HP := Lib.hid hp
  have HB0 := Lib.hid hb0
  rcases Nat.lt_or_ge a args.length with hlt | hge
  case inr =>
    have hd : args.drop a = [] := List.drop_eq_nil_of_le hge
    rw [hd]
    have HQ := Lib.hid (show P.notR (P.lookF fs c) (g + 1) [] = ⟨false, [], true, false⟩ by rw [P.notR])
    generalize P.notR (P.lookF fs c) (g + 1) [] = Q at *
    have HL0 := Lib.hid (HL.out w a ha 0 o 0 (by omega) hp)
    obtain ⟨c0, c1, c2, c3, c4, c5⟩ := hp.cells
    obtain ⟨f0, f1, f4, f5⟩ := hp.thaw
    have HDD := Lib.hid hd
    clear hp hb0 hx hf HL hd
    go_enter Tryz.func56, Tryz.ntmps56
    go_wp2_with fail
    refine HL0.out.mono ?_
    rintro e w1 ⟨rfl, n1, rfl⟩
    go_wp2
    go_ret
    exact rpost false a (by rw [HQ.out]) ((bdN HB0.out _).setCell (by simp) _) ha (by rw [HQ.out, HDD.out]) (by rw [HQ.out, Bool.or_false]; exact (HP.out.drewN n1).set4 27)
  obtain ⟨x, r, hd⟩ : ∃ x r, args.drop a = x :: r := ⟨args[a], args.drop (a + 1), List.drop_eq_getElem_cons hlt⟩
  have hr : args.drop (a + 1) = r := by
    have := List.drop_eq_getElem_cons hlt
    rw [hd] at this
    injection this with _ h2
    exact h2.symm
  have hrl : r.length = args.length - (a + 1) := by rw [← hr, List.length_drop]
  obtain ⟨A, cap, hAr, q1, q2, hS⟩ := hx.rv
  obtain ⟨b, off, rfl, hbl, hc⟩ := hS (by rintro rfl; simp at hlt)
  subst hAr
  have HCELL : Hid (∀ w', Below w0.heap.size w0 w' → ∀ i, i < args.length → w'.cell? ⟨b, off + i, none⟩ = some (.string ⟨(args.getD i []).toArray⟩)) := fun w' h i hi => by
    refine (h.cell (p := ⟨b, off + i, none⟩) hbl).trans ((hc i hi).trans ?_)
    rw [List.getD_eq_getElem?_getD, List.getElem?_eq_getElem hi]
    rfl
  have hx0 : args.getD a [] = x := by
    have := List.drop_eq_getElem_cons hlt
    rw [hd] at this
    injection this with h1 _
    rw [List.getD_eq_getElem?_getD, List.getElem?_eq_getElem hlt, h1]
    rfl
  have hxl : x.length ≤ 200 := hx.la x (List.mem_of_mem_drop (i := a) (by rw [hd]; simp))
  have HXL := Lib.hid hxl
  rw [hd]
  obtain ⟨Q, hQ⟩ : ∃ Q, P.notR (P.lookF fs c) (g + 1) (x :: r) = Q := ⟨_, rfl⟩
  rw [hQ]
  have HQ := Lib.hid hQ
  have HR := Lib.hid hr
  have HRL := Lib.hid hrl
  have HD := Lib.hid hd
  have HX0 := Lib.hid hx0
  have HNA := Lib.hid hx.na
  obtain ⟨m, hm⟩ : ∃ m, m = args.length - a := ⟨_, rfl⟩
  have HL0 := Lib.hid (HL.out w a ha 0 o _ rfl hp)
  obtain ⟨c0, c1, -⟩ := hp.cells
  have l1 : (((args.length : Int) - (a : Int)) < 1) = False := eq_false (by omega)
  have l2 : (0 : Int) ≤ (a : Int) := by omega
  have l3 : (a : Int) ≤ (args.length : Int) := by omega
  have l4 : (args.length : Int) ≤ (cap : Int) := by omega
  have l5 : (a : Int) < (cap : Int) := by omega
  have l6 : (a : Int) ≤ 1000 := by have := hx.na; omega
  have HM := Lib.hid hm
  have HFU := Lib.hid (show 4 * (args.length - a) ≤ g by omega)
  have HBL := Lib.hid hbl
  have m1 : (0 : Int) < (m : Int) := by omega
  have p1 : (0 < m) = True := eq_true (by omega)
  clear hS hc hxl hQ hr hrl hd hx0 hx hp hb0 hf q1 hm
  go_enter Tryz.func56, Tryz.ntmps56
  go_wp2_with fail
  refine HL0.out.mono ?_
  rintro e w1 ⟨rfl, n1, rfl⟩
  go_wp2_with fail
  go_quiet (fail)
  obtain ⟨w1, hw1⟩ : ∃ w1, w1 = (w.drewN n1).drewN nq := ⟨_, rfl⟩
  rw [← hw1, ← HM.out]
  have HB1 := Lib.hid (show Below w0.heap.size w0 w1 by rw [hw1]; exact bdN (bdN HB0.out _) _)
  have HP1 := Lib.hid (show RB w1 w0.heap.size (.slice (some ⟨b, off, none⟩) args.length cap) a f c 0 o by rw [hw1]; exact (HP.out.drewN _).drewN _)
  clear hw1 c0 c1 l1 HL0 HB0 HP
  by_cases hbin : 2 ≤ r.length ∧ P.isBin (r.getD 0 []) = true
  · -- a binary operator
    obtain ⟨h2, hbin⟩ := hbin
    have HBIN := Lib.hid hbin
    obtain ⟨y, hy⟩ : ∃ y, y = r.getD 0 [] := ⟨_, rfl⟩
    obtain ⟨z, hz⟩ : ∃ z, z = r.getD 1 [] := ⟨_, rfl⟩
    have hya : args.getD (a + 1) [] = y := by rw [hy, ← HR.out]; simp [List.getD_eq_getElem?_getD]
    have hza : args.getD (a + 2) [] = z := by rw [hz, ← HR.out]; simp [List.getD_eq_getElem?_getD]
    have hn2 : a + 2 < args.length := by have := HRL.out; omega
    have HQV := Lib.hid (show Q = ⟨P.binW x y z, r.drop 2, false, P.binI x y z⟩ by rw [← HQ.out, P.notR, if_pos ⟨h2, hbin⟩, hy, hz])
    rw [← hy] at HBIN
    have HZL := Lib.hid (show z.length ≤ 200 by
      rw [← hza, List.getD_eq_getElem?_getD, List.getElem?_eq_getElem hn2]
      exact HX.out.la _ (List.getElem_mem hn2))
    have f3 : (3 ≤ (m : Int)) = True := eq_true (by have := HM.out; omega)
    have m2 : (1 : Int) < (m : Int) := by have := HM.out; omega
    have m3 : (2 : Int) < (m : Int) := by have := HM.out; omega
    have HCY := Lib.hid (fun w' (h : Below w0.heap.size w0 w') => by have := HCELL.out w' h (a + 1) (by omega); rw [hya] at this; exact this)
    have HCZ := Lib.hid (fun w' (h : Below w0.heap.size w0 w') => by have := HCELL.out w' h (a + 2) (by omega); rw [hza] at this; exact this)
    have HCX := Lib.hid (fun w' (h : Below w0.heap.size w0 w') => by have := HCELL.out w' h a (by omega); rw [HX0.out] at this; exact this)
    have HN2 := Lib.hid hn2
    have s1 := HCY.out w1 HB1.out
    have HBY := Lib.hid (binary_q y w0 w1 _ f a c 0 o HB1.out HP1.out)
    have HTW := Lib.hid (fun w' (h1 : Below w0.heap.size w0 w') (h2 : RB w' w0.heap.size (.slice (some ⟨b, off, none⟩) args.length cap) (a + 3) f c 0 o) => two_ref x y z w0 w' _ f (a + 3) c 0 o HBIN.out (by have := HXL.out; omega) (by have := HZL.out; omega) h1 h2)
    rw [HBIN.out] at HBY
    clear h2 hbin hya hza hn2 hy hz HQ
    rw [← Nat.add_assoc] at s1
    unfold QPost at HTW
    go_wp2_with fail
    refine HBY.out.mono ?_
    rintro e w2 ⟨rfl, hb2, hp2⟩
    have HB2 := Lib.hid hb2
    have HP2 := Lib.hid hp2
    obtain ⟨d0, d1, -⟩ := hp2.cells
    obtain ⟨t0, t1, -⟩ := hp2.thaw
    obtain ⟨w3, hw3⟩ : ∃ w3, w3 = w2.setCell ⟨w0.heap.size, 1, none⟩ (.int .i64 ((a : Int) + 3)) := ⟨_, rfl⟩
    have HW3 := Lib.hid hw3
    have HB3 := Lib.hid (show Below w0.heap.size w0 w3 by rw [hw3]; exact hb2.setCell (by simp) _)
    have HP3 := Lib.hid (show RB w3 w0.heap.size (.slice (some ⟨b, off, none⟩) args.length cap) (a + 3) f c 0 o by rw [hw3]; exact hp2.at1 _ (a + 3) (by omega))
    have u0 := HCX.out w3 HB3.out
    have u1 := HCY.out w3 HB3.out
    have u2 := HCZ.out w3 HB3.out
    rw [← Nat.add_assoc] at u1 u2
    clear hb2 hp2 hw3 s1
    go_wp2_with fail
    rw [← HW3.out]
    refine wp_region_still_tail 10 (by kernel_rfl) (by kernel_rfl) ?_
    simp only [List.take_succ_cons, List.take_zero, List.drop_succ_cons, List.drop_zero]
    repeat still_step
    refine wpStill_nil ?_
    change wpList _ _ _ _ _ w3.drew
    go_wp2_with fail
    refine (HTW.out _ HB3.out.drew HP3.out.drew).mono ?_
    rintro e w4 ⟨rfl, hb4, hp4⟩
    have HB4 := Lib.hid hb4
    have HP4 := Lib.hid hp4
    clear hb4 hp4
    go_wp2
    go_ret
    exact rpost _ (a + 3) (by rw [HQV.out]) HB4.out (by have := HN2.out; omega) (by rw [HQV.out, ← HR.out, List.drop_drop]) (by rw [HQV.out]; exact HP4.out)
  have HNB := Lib.hid hbin
  have HQ1 := Lib.hid (show Q = if 1 ≤ r.length ∧ x = [33] then
      ⟨!(P.notR (P.lookF fs c) g r).v, (P.notR (P.lookF fs c) g r).rest, (P.notR (P.lookF fs c) g r).e, (P.notR (P.lookF fs c) g r).o⟩
    else if x = [40] then
      (if (P.orR (P.lookF fs c) g r).rest.head? = some [41] then ⟨(P.orR (P.lookF fs c) g r).v, (P.orR (P.lookF fs c) g r).rest.drop 1, (P.orR (P.lookF fs c) g r).e, (P.orR (P.lookF fs c) g r).o⟩ else ⟨false, (P.orR (P.lookF fs c) g r).rest, true, (P.orR (P.lookF fs c) g r).o⟩)
    else if 1 ≤ r.length ∧ P.isUn x = true then ⟨P.unV (P.lookF fs c) x (r.getD 0 []), r.drop 1, false, false⟩
    else ⟨x != [], r, false, false⟩ by rw [← HQ.out, P.notR, if_neg HNB.out])
  have HCX := Lib.hid (fun w' (h : Below w0.heap.size w0 w') => by have := HCELL.out w' h a hlt; rw [HX0.out] at this; exact this)
  obtain ⟨y, hy⟩ : ∃ y, y = r.getD 0 [] := ⟨_, rfl⟩
  have HY := Lib.hid hy
  have HCY := Lib.hid (fun w' (h : Below w0.heap.size w0 w') (h1 : a + 1 < args.length) => by
    have := HCELL.out w' h (a + 1) h1
    rw [show args.getD (a + 1) [] = y by rw [hy, ← HR.out]; simp [List.getD_eq_getElem?_getD]] at this
    exact this)
  have hpre : (3 ≤ m ∧ P.isBin y = false) ∨ m < 3 := by
    rcases Nat.lt_or_ge m 3 with h | h
    · exact .inr h
    · refine .inl ⟨h, ?_⟩
      cases hb : P.isBin y with
      | false => rfl
      | true => exact absurd ⟨by have h1 := HRL.out; have h2 := HM.out; omega, by rw [← hy]; exact hb⟩ hbin
  have HST : Hid (∃ w2, Below w0.heap.size w0 w2 ∧ RB w2 w0.heap.size (.slice (some ⟨b, off, none⟩) args.length cap) a f c 0 o) := ⟨w1, HB1.out, HP1.out⟩
  clear hbin hy HQ HNB HST
  rcases hpre with ⟨h3, hyb⟩ | h3
  case' inl =>
    have f3 : (3 ≤ (m : Int)) = True := eq_true (by omega)
    have f2 : (2 ≤ (m : Int)) = True := eq_true (by omega)
    have m2 : (1 : Int) < (m : Int) := by omega
    have s1 := HCY.out w1 HB1.out (by have := HM.out; omega)
    rw [← Nat.add_assoc] at s1
    have HBY := Lib.hid (binary_q y w0 w1 _ f a c 0 o HB1.out HP1.out)
    rw [hyb] at HBY
    have hcase : (2 ≤ m ∧ (2 ≤ (m : Int)) = True) ∨ (m = 1 ∧ (2 ≤ (m : Int)) = False) := .inl ⟨by omega, f2⟩
    clear hyb h3 f2
    go_wp2_with fail
    refine HBY.out.mono ?_
    rintro e w2 ⟨rfl, hb2, hp2⟩
    have HB2 := Lib.hid hb2
    have HP2 := Lib.hid hp2
    clear hb2 hp2 s1 HBY
  case' inr =>
    have f3 : (3 ≤ (m : Int)) = False := eq_false (by omega)
    have hcase : (2 ≤ m ∧ (2 ≤ (m : Int)) = True) ∨ (m = 1 ∧ (2 ≤ (m : Int)) = False) := by
      rcases Nat.lt_or_ge m 2 with h | h
      · exact .inr ⟨by omega, eq_false (by omega)⟩
      · exact .inl ⟨h, eq_true (by omega)⟩
    obtain ⟨w2, hw2⟩ : ∃ w2, w2 = w1 := ⟨_, rfl⟩
    rw [← hw2]
    have HB2 := Lib.hid (show Below w0.heap.size w0 w2 by rw [hw2]; exact HB1.out)
    have HP2 := Lib.hid (show RB w2 w0.heap.size (.slice (some ⟨b, off, none⟩) args.length cap) a f c 0 o by rw [hw2]; exact HP1.out)
    clear hw2 h3
  all_goals
    clear HB1 HP1
    have s0 := HCX.out w2 HB2.out
    obtain ⟨d0, d1, -⟩ := HP2.out.cells
    obtain ⟨t0, t1, -⟩ := HP2.out.thaw
    have HS1 := Lib.hid (fun (n : Nat) (z : Int) (hz : z = (n : Int)) => And.intro (show Below w0.heap.size w0 (w2.setCell ⟨w0.heap.size, 1, none⟩ (.int .i64 z)) from HB2.out.setCell (by simp) _) (HP2.out.at1 z n hz))
    have HMR := Lib.hid (show r.length + 1 = m by have h1 := HRL.out; have h2 := HM.out; omega)
    have hbne : ¬ b = w0.heap.size := by have := HBL.out; omega
    have hbne2 : ¬ w0.heap.size = b := by have := HBL.out; omega
    by_cases hex : 1 ≤ r.length ∧ x = [33]
    · -- the negation
      obtain ⟨h1, hx33⟩ := hex
      subst hx33
      have HQV := Lib.hid (HQ1.out.trans (if_pos ⟨h1, rfl⟩))
      have f2 : (2 ≤ (m : Int)) = True := eq_true (by have := HMR.out; omega)
      have HC := Lib.hid (HN.out (a + 1) _ o (by omega) (by have := HFU.out; omega) (HS1.out (a + 1) ((a : Int) + 1) (by omega)).1 (HS1.out (a + 1) ((a : Int) + 1) (by omega)).2)
      rw [HR.out] at HC
      generalize P.notR (P.lookF fs c) g r = q at HC HQV
      clear h1 hcase HQ1
      go_wp2_with fail
      refine HC.out.mono ?_
      rintro e w3 ⟨rfl, hb3, a3, ha3, hr3, hp3⟩
      have HB3 := Lib.hid hb3
      have HA3 := Lib.hid ha3
      have HR3 := Lib.hid hr3
      have HP3 := Lib.hid hp3
      clear hb3 ha3 hr3 hp3
      go_wp2
      go_ret
      exact rpost (!q.v) a3 (by rw [HQV.out]) HB3.out HA3.out (by rw [HQV.out]; exact HR3.out) (by rw [HQV.out]; exact HP3.out)
    have HQ2 := Lib.hid (HQ1.out.trans (if_neg hex))
    clear HQ1
    by_cases h40 : x = [40]
    · subst h40
      have HQV := Lib.hid (HQ2.out.trans (if_pos rfl))
      have HC := Lib.hid (HO.out (a + 1) _ o (by omega) (by have := HFU.out; omega) (HS1.out (a + 1) ((a : Int) + 1) (by omega)).1 (HS1.out (a + 1) ((a : Int) + 1) (by omega)).2)
      rw [HR.out] at HC
      generalize P.orR (P.lookF fs c) g r = q at HC HQV
      clear hex HQ2
      have hcase2 : ((2 ≤ (m : Int)) = True) ∨ ((2 ≤ (m : Int)) = False) := by
        rcases hcase with ⟨_, h⟩ | ⟨_, h⟩
        · exact .inl h
        · exact .inr h
      clear hcase
      rcases hcase2 with f2 | f2
      all_goals
        go_wp2_with fail
        refine HC.out.mono ?_
        rintro e w3 ⟨rfl, hb3, a3, ha3, hr3, hp3⟩
        have HB3 := Lib.hid hb3
        have HA3 := Lib.hid ha3
        have HR3 := Lib.hid hr3
        have HP3 := Lib.hid hp3
        obtain ⟨E, hE⟩ : ∃ E : Int, E = if q.e then 27 else 0 := ⟨_, rfl⟩
        obtain ⟨O, hO⟩ : ∃ O : Bool, O = (o || q.o) := ⟨_, rfl⟩
        rw [← hE, ← hO] at HP3 hp3
        have HE := Lib.hid hE
        have HOO := Lib.hid hO
        have HL3 := Lib.hid (fun n z hz => HL.out (w3.drewN n) a3 ha3 E O z hz (hp3.drewN n))
        obtain ⟨k0, k1, -⟩ := hp3.cells
        have hn3 : (a3 : Int) ≤ 1000 := by have := HNA.out; omega
        clear hb3 hr3 hp3 hE hO s0 d0 d1 t0 t1
        rcases Nat.lt_or_ge a3 args.length with h3 | h3
        · have HT := Lib.hid (fun w' h => HCELL.out w' h a3 h3)
          have HHD := Lib.hid (show q.rest.head? = some (args.getD a3 []) by rw [HR3.out, List.drop_eq_getElem_cons h3, List.getD_eq_getElem?_getD, List.getElem?_eq_getElem h3]; rfl)
          have HDR := Lib.hid (show q.rest.drop 1 = args.drop (a3 + 1) by rw [HR3.out, List.drop_drop])
          have HLZ := Lib.hid (fun n => HL3.out n _ rfl)
          have g1 : decide ((args.length : Int) - (a3 : Int) < 1) = false := decide_eq_false (by omega)
          have g2 : (0 : Int) ≤ (a3 : Int) := by omega
          have g3 : (a3 : Int) < (args.length : Int) := by omega
          have HA4 := Lib.hid h3
          have v0 := HT.out w3 HB3.out
          generalize args.getD a3 [] = t at *
          clear h3 ha3
          cases ht : (t == [41]) with
          | true =>
            have ht2 : (t != [41]) = false := by unfold bne; rw [ht]; rfl
            have HQW := Lib.hid (HQV.out.trans (if_pos (by rw [HHD.out]; simpa using ht)))
            clear HQV
            go_wp2_with fail
            go_quiet ((go_at_call 38; exact Calls.quiet_of (HLZ.out _)))
            obtain ⟨w4, hw4⟩ : ∃ w4, w4 = w3.drewN nq := ⟨_, rfl⟩
            rw [← hw4]
            have HB4 := Lib.hid (show Below w0.heap.size w0 w4 by rw [hw4]; exact bdN HB3.out _)
            have HP4 := Lib.hid (show RB w4 w0.heap.size (.slice (some ⟨b, off, none⟩) args.length cap) a3 f c E O by rw [hw4]; exact HP3.out.drewN _)
            obtain ⟨j0, j1, -⟩ := HP4.out.cells
            obtain ⟨u0, u1, -⟩ := HP4.out.thaw
            clear hw4 k0 k1 v0 g1
            go_wp2
            go_ret
            exact rpost q.v (a3 + 1) (by rw [HQW.out]) (HB4.out.setCell (by simp) _) (by have := HA4.out; omega) (by rw [HQW.out]; exact HDR.out) (by rw [HQW.out]; show RB _ _ _ _ _ _ (if q.e then 27 else 0) (o || q.o); rw [← HE.out, ← HOO.out]; exact HP4.out.at1 _ (a3 + 1) (by omega))
          | false =>
            have ht2 : (t != [41]) = true := by unfold bne; rw [ht]; rfl
            have HQW := Lib.hid (HQV.out.trans (if_neg (by rw [HHD.out]; simpa using ht)))
            clear HQV
            go_wp2_with fail
            go_quiet ((go_at_call 38; exact Calls.quiet_of (HLZ.out _)))
            obtain ⟨w4, hw4⟩ : ∃ w4, w4 = w3.drewN nq := ⟨_, rfl⟩
            rw [← hw4]
            have HB4 := Lib.hid (show Below w0.heap.size w0 w4 by rw [hw4]; exact bdN HB3.out _)
            have HP4 := Lib.hid (show RB w4 w0.heap.size (.slice (some ⟨b, off, none⟩) args.length cap) a3 f c E O by rw [hw4]; exact HP3.out.drewN _)
            obtain ⟨j0, j1, -, -, j4, -⟩ := HP4.out.cells
            obtain ⟨u0, u1, u4, -⟩ := HP4.out.thaw
            clear hw4 k0 k1 v0 g1
            go_wp2
            go_ret
            exact rpost false a3 (by rw [HQW.out]) (HB4.out.setCell (by simp) _) HA3.out (by rw [HQW.out]; exact HR3.out) (by rw [HQW.out]; show RB _ _ _ _ _ _ 27 (o || q.o); rw [← HOO.out]; exact HP4.out.set4 27)
        · have HHD := Lib.hid (show ¬ q.rest.head? = some [41] by rw [HR3.out, List.drop_eq_nil_of_le h3]; simp)
          have HQW := Lib.hid (HQV.out.trans (if_neg HHD.out))
          have HLZ := Lib.hid (fun n => HL3.out n 0 (by omega))
          clear h3 ha3 HQV
          go_wp2_with fail
          go_quiet ((go_at_call 38; exact Calls.quiet_of (HLZ.out _)))
          obtain ⟨w4, hw4⟩ : ∃ w4, w4 = w3.drewN nq := ⟨_, rfl⟩
          rw [← hw4]
          have HB4 := Lib.hid (show Below w0.heap.size w0 w4 by rw [hw4]; exact bdN HB3.out _)
          have HP4 := Lib.hid (show RB w4 w0.heap.size (.slice (some ⟨b, off, none⟩) args.length cap) a3 f c E O by rw [hw4]; exact HP3.out.drewN _)
          obtain ⟨j0, j1, -, -, j4, -⟩ := HP4.out.cells
          obtain ⟨u0, u1, u4, -⟩ := HP4.out.thaw
          clear hw4 k0 k1
          go_wp2
          go_ret
          exact rpost false a3 (by rw [HQW.out]) (HB4.out.setCell (by simp) _) HA3.out (by rw [HQW.out]; exact HR3.out) (by rw [HQW.out]; show RB _ _ _ _ _ _ 27 (o || q.o); rw [← HOO.out]; exact HP4.out.set4 27)
    have HQ3 := Lib.hid (HQ2.out.trans (if_neg h40))
    have e40 : (x == [40]) = false := by simpa using h40
    clear HQ2
    have hxe : (x = [] ∧ x.isEmpty = true) ∨ (x ≠ [] ∧ x.isEmpty = false) := by cases x <;> simp
    rcases hcase with ⟨h2, f2⟩ | ⟨h1, f2⟩
    · have e33 : (x == [33]) = false := by
        have : ¬ x = [33] := fun h => hex ⟨by have := HMR.out; omega, h⟩
        simpa using this
      have HUN := Lib.hid (unary_q x w0 w2 _ f a c 0 o HB2.out HP2.out)
      have m2 : (1 : Int) < (m : Int) := by omega
      have HN1 := Lib.hid (show a + 1 < args.length by have := HM.out; omega)
      have HRN := Lib.hid (show 1 ≤ r.length by have := HMR.out; omega)
      cases hu : P.isUn x with
      | true =>
        have HU := Lib.hid hu
        have HQV := Lib.hid (HQ3.out.trans (if_pos ⟨HRN.out, hu⟩))
        rw [hu] at HUN
        have HYL := Lib.hid (show y.length ≤ 200 by
          have h' := HN1.out
          have : y = args.getD (a + 1) [] := by rw [HY.out, ← HR.out]; simp [List.getD_eq_getElem?_getD]
          rw [this, List.getD_eq_getElem?_getD, List.getElem?_eq_getElem h']
          exact HX.out.la _ (List.getElem_mem h'))
        have HON := Lib.hid (fun w' (h1 : Below w0.heap.size w0 w') (h2 : RB w' w0.heap.size (.slice (some ⟨b, off, none⟩) args.length cap) (a + 2) f c 0 o) => one_ref x y w0 w' _ f (a + 2) c 0 o fs HU.out HX.out.lc HYL.out HX.out.files HX.out.nf h1 h2)
        rw [← HY.out] at HQV
        unfold QPost at HON
        generalize P.unV (P.lookF fs c) x y = V at HON HQV
        clear h2 hu hex h40 hxe HQ3
        go_wp2_with fail
        refine HUN.out.mono ?_
        rintro e w3 ⟨rfl, hb3, hp3⟩
        obtain ⟨k0, k1, -⟩ := hp3.cells
        obtain ⟨v0, v1, -⟩ := hp3.thaw
        obtain ⟨w4, hw4⟩ : ∃ w4, w4 = w3.setCell ⟨w0.heap.size, 1, none⟩ (.int .i64 ((a : Int) + 2)) := ⟨_, rfl⟩
        have HW4 := Lib.hid hw4
        have HB4 := Lib.hid (show Below w0.heap.size w0 w4 by rw [hw4]; exact hb3.setCell (by simp) _)
        have HP4 := Lib.hid (show RB w4 w0.heap.size (.slice (some ⟨b, off, none⟩) args.length cap) (a + 2) f c 0 o by rw [hw4]; exact hp3.at1 _ (a + 2) (by omega))
        have u0 := HCX.out w4 HB4.out
        have u1 := HCY.out w4 HB4.out HN1.out
        rw [← Nat.add_assoc] at u1
        clear hb3 hp3 hw4 s0
        go_wp2_with fail
        rw [← HW4.out]
        refine wp_region_still_tail 7 (by kernel_rfl) (by kernel_rfl) ?_
        simp only [List.take_succ_cons, List.take_zero, List.drop_succ_cons, List.drop_zero]
        repeat still_step
        refine wpStill_nil ?_
        change wpList _ _ _ _ _ w4.drew
        go_wp2_with fail
        refine (HON.out _ HB4.out.drew HP4.out.drew).mono ?_
        rintro e w5 ⟨rfl, hb5, hp5⟩
        have HB5 := Lib.hid hb5
        have HP5 := Lib.hid hp5
        clear hb5 hp5
        go_wp2
        go_ret
        exact rpost _ (a + 2) (by rw [HQV.out]) HB5.out (by have := HN1.out; omega) (by rw [HQV.out, ← HR.out, List.drop_drop]) (by rw [HQV.out, Bool.or_false]; exact HP5.out)
      | false =>
        have HQV := Lib.hid (HQ3.out.trans (if_neg (fun h => by rw [hu] at h; cases h.2)))
        rw [hu] at HUN
        clear h2 hu hex h40 HQ3
        go_wp2_with fail
        refine HUN.out.mono ?_
        rintro e w3 ⟨rfl, hb3, hp3⟩
        obtain ⟨k0, k1, -⟩ := hp3.cells
        obtain ⟨v0, v1, -⟩ := hp3.thaw
        have HB4 := Lib.hid (hb3.setCell (p := ⟨w0.heap.size, 1, none⟩) (by simp) (.int .i64 ((a : Int) + 1)))
        have HP4 := Lib.hid (hp3.at1 ((a : Int) + 1) (a + 1) (by omega))
        have u0 := HCX.out w3 hb3
        clear hb3 hp3 s0
        rcases hxe with ⟨rfl, hxe⟩ | ⟨hx1, hxe⟩
        · go_wp2
          go_ret
          exact rpost false (a + 1) (by rw [HQV.out]; rfl) HB4.out (by have := HN1.out; omega) (by rw [HQV.out]; exact HR.out.symm) (by rw [HQV.out, Bool.or_false]; exact HP4.out)
        · have HV := Lib.hid (show (x != []) = true by simpa using hx1)
          clear hx1
          go_wp2
          go_ret
          exact rpost true (a + 1) (by rw [HQV.out]; exact HV.out) HB4.out (by have := HN1.out; omega) (by rw [HQV.out]; exact HR.out.symm) (by rw [HQV.out, Bool.or_false]; exact HP4.out)
    · have HQV := Lib.hid (HQ3.out.trans (if_neg (fun h => by have := HMR.out; omega)))
      have HN1 := Lib.hid (show a + 1 ≤ args.length by omega)
      have HB4 := Lib.hid (HB2.out.setCell (p := ⟨w0.heap.size, 1, none⟩) (by simp) (.int .i64 ((a : Int) + 1)))
      have HP4 := Lib.hid (HP2.out.at1 ((a : Int) + 1) (a + 1) (by omega))
      clear h1 hex h40 HQ3
      rcases hxe with ⟨rfl, hxe⟩ | ⟨hx1, hxe⟩
      · go_wp2
        go_ret
        exact rpost false (a + 1) (by rw [HQV.out]; rfl) HB4.out HN1.out (by rw [HQV.out]; exact HR.out.symm) (by rw [HQV.out, Bool.or_false]; exact HP4.out)
      · have HV := Lib.hid (show (x != []) = true by simpa using hx1)
        clear hx1
        go_wp2
        go_ret
        exact rpost true (a + 1) (by rw [HQV.out]; exact HV.out) HB4.out HN1.out (by rw [HQV.out]; exact HR.out.symm) (by rw [HQV.out, Bool.or_false]; exact HP4.out)
end W
end Go.Proofs.YtmccfdmnidbalaaGreatDoor
