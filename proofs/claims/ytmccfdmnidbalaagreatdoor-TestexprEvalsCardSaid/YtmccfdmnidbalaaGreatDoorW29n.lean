/- Chapter 29: general, whole and Eval. -/
import Derived.Test.YtmccfdmnidbalaaGreatDoorW29m
namespace Go.Proofs.YtmccfdmnidbalaaGreatDoor
open Go.RowKit K
namespace W
theorem nao (w0 : World) (f : Value) (c : List UInt8) (fs : List Fi) (h : CX w0 f c fs) : ∀ fu, NotC w0 f c fs fu ∧ AndC w0 f c fs fu ∧ OrC w0 f c fs fu := by
  intro fu
  induction fu using Nat.strongRecOn with
  | ind fu ih => exact ⟨not_of w0 f c fs h fu fun m hm => (ih m hm).2.2, and_of w0 f c fs fu fun m hm => (ih m hm).1, or_of w0 f c fs fu fun m hm => (ih m hm).2.1⟩
/-- A value and the two marks. -/
def GPost (w0 : World) (f : Value) (c : List UInt8) (q : P.VR) (u i : Bool) (e : Ending) (w' : World) : Prop := e = .returned (.bool q.v) ∧ Below w0.heap.size w0 w' ∧ ∃ r', PB w' w0.heap.size r' f c (u || q.u) (i || q.i)
theorem BPost.g {w0 : World} {r f : Value} {c : List UInt8} {q : P.VR} {u i : Bool} {e : Ending} {w' : World} (h : BPost w0 r f c q.v (u || q.u) (i || q.i) e w') : GPost w0 f c q u i e w' := ⟨h.1, h.2.1, r, h.2.2⟩
set_option maxHeartbeats 1000000 in
theorem general_of {w0 : World} {f : Value} {c : List UInt8} {fs : List Fi} (h : CX w0 f c fs) (v : Value) (args : List (List UInt8)) (hA : RV w0 v args) (hs : ∀ s ∈ args, SOK s) (w : World) (r : Value) (u i : Bool) (hb0 : Below w0.heap.size w0 w) (hp : PB w w0.heap.size r f c u i) :
    Calls Tryz.prog 17 #[.pointer (some ⟨w0.heap.size, 0, none⟩), v] w (GPost w0 f c (P.generalP (P.lookF fs c) args) u i) := by
  have HO := Lib.hid (fun w1 h1 h2 => (nao w0 f c fs h (P.fuelP args)).2.2 args w1 v u i hs (Nat.le_refl _) hA h1 h2)
  unfold NPost at HO
  have HG := Lib.hid (show P.generalP (P.lookF fs c) args = ⟨(P.orP (P.lookF fs c) (P.fuelP args) args).v, (P.orP (P.lookF fs c) (P.fuelP args) args).u || (P.orP (P.lookF fs c) (P.fuelP args) args).rest != [], (P.orP (P.lookF fs c) (P.fuelP args) args).i⟩ from rfl)
  generalize P.generalP (P.lookF fs c) args = G at HG ⊢
  generalize P.orP (P.lookF fs c) (P.fuelP args) args = q at HG HO
  obtain ⟨A, cap, rfl, -, -, -⟩ := hA
  have HB0 := Lib.hid hb0
  obtain ⟨c0, c1, c2, c3, c4⟩ := hp.cells
  obtain ⟨f0, f3, f4⟩ := hp.thaw
  have Z1 := Lib.hid (hb0.setCell (p := ⟨w0.heap.size, 0, none⟩) (by simp) (.slice A args.length cap))
  have Z2 := Lib.hid (hp.set0 (.slice A args.length cap))
  clear hb0 hp hs h
  go_enter Tryz.func17, Tryz.ntmps17
  go_wp2_with fail
  refine (HO.out _ Z1.out Z2.out).mono ?_
  rintro e w1 ⟨rfl, hb1, r1, hp1, A1, cap1, rfl, q1, q2, -⟩
  have HB1 := Lib.hid hb1
  have HP1 := Lib.hid hp1
  obtain ⟨d0, d1, d2, d3, d4⟩ := hp1.cells
  obtain ⟨t0, t3, t4⟩ := hp1.thaw
  by_cases hl : q.rest = []
  · have hn0 : q.rest.length = 0 := by rw [hl]; rfl
    rw [hn0] at d0 HP1
    have HF := Lib.hid (show G = ⟨q.v, q.u, q.i⟩ by rw [HG.out, hl]; simp)
    clear hb1 hp1 hl hn0 q1 c0 c1 c2 c3 c4 f0 f3 f4
    go_wp2
    go_ret
    exact ⟨by rw [HF.out]; rfl, HB1.out, _, by rw [HF.out]; exact HP1.out⟩
  · have g1 : ((0 : Int) < (q.rest.length : Int)) = True := eq_true (by have := List.length_pos_iff.2 hl; omega)
    have g2 : 0 < q.rest.length := List.length_pos_iff.2 hl
    have HF := Lib.hid (show G = ⟨q.v, true, q.i⟩ by
      have hx : (q.rest != []) = true := by simpa using hl
      rw [HG.out, hx, Bool.or_true])
    have Y1 := Lib.hid (hb1.setCell (p := ⟨w0.heap.size, 3, none⟩) (by simp) (.bool true))
    have Y2 := Lib.hid (hp1.set3 true)
    clear hb1 hp1 hl c0 c1 c2 c3 c4 f0 f3 f4
    go_wp2
    go_ret
    exact ⟨by rw [HF.out]; rfl, Y1.out, _, by rw [HF.out, Bool.or_true]; exact Y2.out⟩
theorem whole_tail {w0 : World} {f : Value} {c : List UInt8} {fs : List Fi} (h : CX w0 f c fs) (v : Value) (args : List (List UInt8)) (hA : RV w0 v args) (hs : ∀ s ∈ args, SOK s) (w : World) (r : Value) (u i : Bool) (hb0 : Below w0.heap.size w0 w) (hp : PB w w0.heap.size r f c u i) (q : P.VR) (hq : P.generalP (P.lookF fs c) args = q) :
    Calls Tryz.prog 17 #[.pointer (some ⟨w0.heap.size, 0, none⟩), v] w (GPost w0 f c q u i) := by
  rw [← hq]
  exact general_of h v args hA hs w r u i hb0 hp
set_option maxHeartbeats 2000000 in
set_option maxRecDepth 100000 in
theorem whole_of {w0 : World} {f : Value} {c : List UInt8} {fs : List Fi} (h : CX w0 f c fs) (v : Value) (args : List (List UInt8)) (hA : RV w0 v args) (hs : ∀ s ∈ args, SOK s) (w : World) (r : Value) (u i : Bool) (hb0 : Below w0.heap.size w0 w) (hp : PB w w0.heap.size r f c u i) :
    Calls Tryz.prog 11 #[.pointer (some ⟨w0.heap.size, 0, none⟩), v] w (GPost w0 f c (P.wholeP (P.lookF fs c) args) u i) := by
  have HB0 := Lib.hid hb0
  have HP := Lib.hid hp
  have HGEN := Lib.hid (fun q hq => whole_tail h v args hA hs w r u i hb0 hp q hq)
  obtain ⟨A, cap, hv, k1, k2, hS⟩ := id hA
  match args, hv, k1, hS, HGEN, hs with
  | [], hv, k1, hS, HGEN, hs =>
    subst hv
    clear HGEN hb0 hp hS hA
    go_enter Tryz.func11, Tryz.ntmps11
    go_wp2
    go_ret
    exact ⟨rfl, HB0.out, r, by have := HP.out; simpa [P.wholeP] using this⟩
  | [a], hv, k1, hS, HGEN, hs =>
    subst hv
    obtain ⟨k, off, rfl, hk, hc⟩ := (hS.below hb0) (by simp)
    have a0 : w.cell? ⟨k, off, none⟩ = some (.string ⟨a.toArray⟩) := hc 0 (by simp)
    clear HGEN hb0 hp hS hA hc hs
    cases a with
    | nil =>
      go_enter Tryz.func11, Tryz.ntmps11
      go_wp2
      go_ret
      exact ⟨rfl, HB0.out, r, by have := HP.out; simpa [P.wholeP] using this⟩
    | cons x y =>
      go_enter Tryz.func11, Tryz.ntmps11
      go_wp2
      go_ret
      exact ⟨rfl, HB0.out, r, by have := HP.out; simpa [P.wholeP] using this⟩
  | [a, b], hv, k1, hS, HGEN, hs =>
    subst hv
    have HT := Lib.hid ((two_of h a b (hs b (by simp)) A cap hS w r u i hb0 hp).mono fun _ _ hh => hh.g)
    have HQ := Lib.hid (show P.wholeP (P.lookF fs c) [a, b] = P.twoP (P.lookF fs c) a b from rfl)
    generalize P.wholeP (P.lookF fs c) [a, b] = Q at HQ ⊢
    generalize P.twoP (P.lookF fs c) a b = T at HQ HT
    unfold GPost at HT
    clear HGEN hb0 hp hS hA hs h
    go_enter Tryz.func11, Tryz.ntmps11
    go_wp2_with fail
    refine HT.out.mono ?_
    rintro e w1 ⟨rfl, hb1, r1, hp1⟩
    have HB1 := Lib.hid hb1
    have HP1 := Lib.hid hp1
    clear hb1 hp1
    go_wp2
    go_ret
    exact ⟨by rw [HQ.out]; rfl, HB1.out, r1, by rw [HQ.out]; exact HP1.out⟩
  | [a, b, d], hv, k1, hS, HGEN, hs =>
    subst hv
    have HT := Lib.hid ((three_of h a b d (hs a (by simp)) (hs d (by simp)) A cap hS k1 k2 w r u i hb0 hp).mono fun _ _ hh => hh.g)
    have HQ := Lib.hid (show P.wholeP (P.lookF fs c) [a, b, d] = P.threeP (P.lookF fs c) a b d from rfl)
    generalize P.wholeP (P.lookF fs c) [a, b, d] = Q at HQ ⊢
    generalize P.threeP (P.lookF fs c) a b d = T at HQ HT
    unfold GPost at HT
    clear HGEN hb0 hp hS hA hs h
    go_enter Tryz.func11, Tryz.ntmps11
    go_wp2_with fail
    refine HT.out.mono ?_
    rintro e w1 ⟨rfl, hb1, r1, hp1⟩
    have HB1 := Lib.hid hb1
    have HP1 := Lib.hid hp1
    clear hb1 hp1
    go_wp2
    go_ret
    exact ⟨by rw [HQ.out]; rfl, HB1.out, r1, by rw [HQ.out]; exact HP1.out⟩
  | [a, b, d, z], hv, k1, hS, HGEN, hs =>
    subst hv
    have k1' : 4 ≤ cap := k1
    obtain ⟨k, off, hAA, hk, hc⟩ := (hS.below hb0) (by simp)
    subst hAA
    have a0 : w.cell? ⟨k, off, none⟩ = some (.string ⟨a.toArray⟩) := hc 0 (by simp)
    have a3 : w.cell? ⟨k, off + 3, none⟩ = some (.string ⟨z.toArray⟩) := hc 3 (by simp)
    have HT3 := Lib.hid ((three_of h b d z (hs b (by simp)) (hs z (by simp)) (some ⟨k, off + 1, none⟩) (cap - 1) (hS.drop 1) (by omega) (by omega) w r u i hb0 hp).mono fun _ _ hh => hh.g)
    have HT2 := Lib.hid ((two_of h b d (hs d (by simp)) (some ⟨k, off + 1, none⟩) (cap - 1) ((hS.drop 1).take 2) w r u i hb0 hp).mono fun _ _ hh => hh.g)
    have HQ := Lib.hid (show P.wholeP (P.lookF fs c) [a, b, d, z] = if a = [33] then ⟨!(P.threeP (P.lookF fs c) b d z).v, (P.threeP (P.lookF fs c) b d z).u, (P.threeP (P.lookF fs c) b d z).i⟩ else if a = [40] ∧ z = [41] then P.twoP (P.lookF fs c) b d else P.generalP (P.lookF fs c) [a, b, d, z] from rfl)
    generalize P.wholeP (P.lookF fs c) [a, b, d, z] = Q at HQ ⊢
    generalize P.threeP (P.lookF fs c) b d z = T3 at HQ HT3
    generalize P.twoP (P.lookF fs c) b d = T2 at HQ HT2
    generalize P.generalP (P.lookF fs c) [a, b, d, z] = T4 at HQ HGEN
    have HT4 := Lib.hid (HGEN.out T4 rfl)
    unfold GPost at HT3 HT2 HT4
    have hc1 : (4 : Int) ≤ (cap : Int) := by omega
    clear HGEN hb0 hp hS hA hs h hc k1
    by_cases o1 : a = [33]
    · subst o1
      have HF := Lib.hid (show Q = ⟨!T3.v, T3.u, T3.i⟩ from HQ.out)
      clear HQ
      go_enter Tryz.func11, Tryz.ntmps11
      go_wp2_with fail
      refine HT3.out.mono ?_
      rintro e w1 ⟨rfl, hb1, r1, hp1⟩
      have HB1 := Lib.hid hb1
      have HP1 := Lib.hid hp1
      clear hb1 hp1
      go_wp2
      go_ret
      exact ⟨by rw [HF.out]; rfl, HB1.out, r1, by rw [HF.out]; exact HP1.out⟩
    · have d1 : (a == [33]) = false := by simpa using o1
      by_cases o2 : a = [40]
      · subst o2
        by_cases o3 : z = [41]
        · subst o3
          have HF := Lib.hid (show Q = T2 by rw [HQ.out, if_neg o1, if_pos ⟨rfl, rfl⟩])
          clear HQ
          go_enter Tryz.func11, Tryz.ntmps11
          go_wp2_with fail
          refine HT2.out.mono ?_
          rintro e w1 ⟨rfl, hb1, r1, hp1⟩
          have HB1 := Lib.hid hb1
          have HP1 := Lib.hid hp1
          clear hb1 hp1
          go_wp2
          go_ret
          exact ⟨by rw [HF.out]; rfl, HB1.out, r1, by rw [HF.out]; exact HP1.out⟩
        · have d3 : (z == [41]) = false := by simpa using o3
          have HF := Lib.hid (show Q = T4 by rw [HQ.out, if_neg o1, if_neg (by rintro ⟨_, h⟩; exact o3 h)])
          clear HQ
          go_enter Tryz.func11, Tryz.ntmps11
          go_wp2_with fail
          refine HT4.out.mono ?_
          rintro e w1 ⟨rfl, hb1, r1, hp1⟩
          have HB1 := Lib.hid hb1
          have HP1 := Lib.hid hp1
          clear hb1 hp1
          go_wp2
          go_ret
          exact ⟨by rw [HF.out]; rfl, HB1.out, r1, by rw [HF.out]; exact HP1.out⟩
      · have d2 : (a == [40]) = false := by simpa using o2
        have HF := Lib.hid (show Q = T4 by rw [HQ.out, if_neg o1, if_neg (by rintro ⟨h, _⟩; exact o2 h)])
        clear HQ
        go_enter Tryz.func11, Tryz.ntmps11
        go_wp2_with fail
        refine HT4.out.mono ?_
        rintro e w1 ⟨rfl, hb1, r1, hp1⟩
        have HB1 := Lib.hid hb1
        have HP1 := Lib.hid hp1
        clear hb1 hp1
        go_wp2
        go_ret
        exact ⟨by rw [HF.out]; rfl, HB1.out, r1, by rw [HF.out]; exact HP1.out⟩
  | a :: b :: d :: z :: e :: rr, hv, k1, hS, HGEN, hs =>
    have HT4 := Lib.hid (HGEN.out (P.generalP (P.lookF fs c) (a :: b :: d :: z :: e :: rr)) rfl)
    have HQ := Lib.hid (show P.wholeP (P.lookF fs c) (a :: b :: d :: z :: e :: rr) = P.generalP (P.lookF fs c) (a :: b :: d :: z :: e :: rr) from rfl)
    generalize P.wholeP (P.lookF fs c) (a :: b :: d :: z :: e :: rr) = Q at HQ ⊢
    generalize P.generalP (P.lookF fs c) (a :: b :: d :: z :: e :: rr) = T4 at HQ HT4
    unfold GPost at HT4
    subst hv
    obtain ⟨N, hN⟩ : ∃ N, (a :: b :: d :: z :: e :: rr).length = N := ⟨_, rfl⟩
    rw [hN] at HT4 ⊢
    have hN5 : 5 ≤ N := by rw [← hN]; simp
    have g0 : ((N : Int) == 0) = false := by simp; omega
    have g1 : ((N : Int) == 1) = false := by simp; omega
    have g2 : ((N : Int) == 2) = false := by simp; omega
    have g3 : ((N : Int) == 3) = false := by simp; omega
    have g4 : ((N : Int) == 4) = false := by simp; omega
    clear HGEN hb0 hp hS hA hs h k1 hN hN5
    go_enter Tryz.func11, Tryz.ntmps11
    go_wp2_with fail
    refine HT4.out.mono ?_
    rintro e w1 ⟨rfl, hb1, r1, hp1⟩
    have HB1 := Lib.hid hb1
    have HP1 := Lib.hid hp1
    clear hb1 hp1
    go_wp2
    go_ret
    exact ⟨by rw [HQ.out]; rfl, HB1.out, r1, by rw [HQ.out]; exact HP1.out⟩
end W
end Go.Proofs.YtmccfdmnidbalaaGreatDoor
