/- Chapter 29: the reference's general, expr, Eval. -/
import Derived.Test.YtmccfdmnidbalaaGreatDoorR29h
import Derived.Test.YtmccfdmnidbalaaGreatDoorW29o
namespace Go.Proofs.YtmccfdmnidbalaaGreatDoor
open Go.RowKit K
namespace K
theorem SL.at {w0 w : World} {k off : Nat} {ls : List (List UInt8)} (h : SL w0 (some ⟨k, off, none⟩) ls) (hb : Below w0.heap.size w0 w) {i : Nat} (hi : i < ls.length) : w.cell? ⟨k, off + i, none⟩ = some (.string ⟨(ls.getD i []).toArray⟩) := by
  obtain ⟨b', off', e, _, hc⟩ := (h.below hb).get hi
  simp at e
  obtain ⟨rfl, rfl⟩ := e
  exact hc
end K
namespace W
/-- What general and expr leave. -/
def XPost (w0 : World) (f : Value) (c : List UInt8) (q : P.VR) (e : Ending) (w' : World) : Prop := e = .returned (.bool q.v) ∧ Below w0.heap.size w0 w' ∧ ∃ (ar : Value) (a : Nat), RB w' w0.heap.size ar a f c (if q.u then 27 else 0) q.i
theorem xpost {w0 : World} {f : Value} {c : List UInt8} {q : P.VR} {w' : World} (v : Bool) (ar : Value) (a : Nat) (hv : q.v = v) (hb : Below w0.heap.size w0 w') (hB : RB w' w0.heap.size ar a f c (if q.u then 27 else 0) q.i) : XPost w0 f c q (.returned (.bool v)) w' := by
  subst hv
  exact ⟨rfl, hb, ar, a, hB⟩
set_option maxHeartbeats 2000000 in
theorem general_ref {w0 : World} {f : Value} {c : List UInt8} {fs : List Fi} {v : Value} {args : List (List UInt8)} (hx : RX w0 f c fs v args) (w : World) (ar : Value) (a : Nat) (hb0 : Below w0.heap.size w0 w) (hp : RB w w0.heap.size ar a f c 0 false) :
    Calls Tryz.prog 22 #[.pointer (some ⟨w0.heap.size, 0, none⟩), v] w (XPost w0 f c (P.generalR (P.lookF fs c) args)) := by
  have HOR := Lib.hid ((all_ref hx (P.fuelP args)).2.2 0 _ false (by omega) (by unfold P.fuelP; omega) ((hb0.setCell (p := ⟨w0.heap.size, 0, none⟩) (by simp) v).setCell (p := ⟨w0.heap.size, 1, none⟩) (by simp) (.int .i64 0)) ((hp.set0 v).at1 0 0 rfl))
  rw [List.drop_zero] at HOR
  have HL := Lib.hid (fun w a (ha : a ≤ args.length) e o z (hz : (args.length : Int) - (a : Int) = z) (hp : RB w w0.heap.size v a f c e o) => left_q w a e o z hz ha hx.na hx.rv hp)
  have HG := Lib.hid (show P.generalR (P.lookF fs c) args = ⟨(P.orR (P.lookF fs c) (P.fuelP args) args).v, (P.orR (P.lookF fs c) (P.fuelP args) args).e || (P.orR (P.lookF fs c) (P.fuelP args) args).rest != [], (P.orR (P.lookF fs c) (P.fuelP args) args).o⟩ from rfl)
  generalize P.generalR (P.lookF fs c) args = G at *
  generalize P.orR (P.lookF fs c) (P.fuelP args) args = q at *
  obtain ⟨A, cap, rfl, q1, q2, -⟩ := hx.rv
  obtain ⟨c0, c1, -⟩ := hp.cells
  obtain ⟨f0, f1, -⟩ := hp.thaw
  clear hx hp hb0
  go_enter Tryz.func22, Tryz.ntmps22
  go_wp2_with fail
  refine HOR.out.mono ?_
  rintro e w1 ⟨rfl, hb1, a1, ha1, hr1, hp1⟩
  have HB1 := Lib.hid hb1
  have HR1 := Lib.hid hr1
  have HP1 := Lib.hid hp1
  rcases Nat.lt_or_ge a1 args.length with h3 | h3
  · have HLL := Lib.hid (HL.out w1 a1 ha1 _ _ _ rfl hp1)
    have g1 : (a1 < args.length) = True := eq_true h3
    have HGV := Lib.hid (show G = ⟨q.v, true, q.o⟩ by
      rw [HG.out]
      have : (q.rest != []) = true := by rw [hr1, List.drop_eq_getElem_cons h3]; rfl
      rw [this, Bool.or_true])
    have HT := Lib.hid hp1.thaw
    have HC := Lib.hid hp1.cells
    clear hb1 hr1 hp1 ha1 h3 c0 c1 f0 f1
    go_wp2_with fail
    refine HLL.out.mono ?_
    rintro e w2 ⟨rfl, n2, rfl⟩
    have t4 : w1.frozen? ⟨w0.heap.size, 4, none⟩ = false := HT.out.2.2.1
    obtain ⟨E, hE⟩ : ∃ E : Int, w1.cell? ⟨w0.heap.size, 4, none⟩ = some (.int .i64 E) := ⟨_, HC.out.2.2.2.2.1⟩
    go_wp2
    go_ret
    exact xpost q.v _ a1 (by rw [HGV.out]) ((bdN HB1.out _).setCell (by simp) _) (by rw [HGV.out]; have := (HP1.out.drewN n2).set4 27; rw [Bool.false_or] at this; exact this)
  · have HLL := Lib.hid (HL.out w1 a1 ha1 _ _ 0 (by omega) hp1)
    have HGV := Lib.hid (show G = ⟨q.v, q.e, q.o⟩ by
      rw [HG.out]
      have : (q.rest != []) = false := by rw [hr1, List.drop_eq_nil_of_le h3]; rfl
      rw [this, Bool.or_false])
    clear hb1 hr1 hp1 ha1 h3 c0 c1 f0 f1
    go_wp2_with fail
    refine HLL.out.mono ?_
    rintro e w2 ⟨rfl, n2, rfl⟩
    go_wp2
    go_ret
    exact xpost q.v _ a1 (by rw [HGV.out]) (bdN HB1.out _) (by rw [HGV.out]; have := HP1.out.drewN n2; rw [Bool.false_or] at this; exact this)
/-- expr at a list of arguments. -/
def ExprD (w0 : World) (f : Value) (c : List UInt8) (fs : List Fi) (args : List (List UInt8)) : Prop := ∀ (v : Value) (w : World) (ar : Value) (a : Nat), RV w0 v args → Below w0.heap.size w0 w → RB w w0.heap.size ar a f c 0 false →
  Calls Tryz.prog 12 #[.pointer (some ⟨w0.heap.size, 0, none⟩), v] w (XPost w0 f c (P.wholeR (P.lookF fs c) args))
set_option maxHeartbeats 1000000 in
theorem expr0 (w0 : World) (f : Value) (c : List UInt8) (fs : List Fi) : ExprD w0 f c fs [] := by
  intro v w ar a hr hb0 hp
  obtain ⟨A, cap, rfl, q1, q2, -⟩ := hr
  have HB0 := Lib.hid hb0
  have HP := Lib.hid hp
  clear hb0 hp
  go_enter Tryz.func12, Tryz.ntmps12
  go_wp2
  go_ret
  exact xpost false _ a rfl HB0.out HP.out
theorem emp_cases (x : List UInt8) : (x = [] ∧ x.isEmpty = true) ∨ (x ≠ [] ∧ x.isEmpty = false) := by cases x <;> simp
set_option maxHeartbeats 1000000 in
theorem expr1 (w0 : World) (f : Value) (c : List UInt8) (fs : List Fi) (x : List UInt8) : ExprD w0 f c fs [x] := by
  intro v w ar a hr hb0 hp
  obtain ⟨A, cap, rfl, q1, q2, hS⟩ := hr
  obtain ⟨k, off, rfl, hk, -⟩ := id (hS (by simp))
  have s0 : w.cell? ⟨k, off, none⟩ = some (.string ⟨x.toArray⟩) := hS.at hb0 (i := 0) (by simp)
  have HB0 := Lib.hid hb0
  have HP := Lib.hid hp
  simp only [List.length_cons, List.length_nil, Nat.zero_add] at q1 ⊢
  have HQ := Lib.hid (show P.wholeR (P.lookF fs c) [x] = ⟨x != [], false, false⟩ from rfl)
  generalize P.wholeR (P.lookF fs c) [x] = Q at *
  clear hb0 hp hS
  rcases emp_cases x with ⟨rfl, hxe⟩ | ⟨hx1, hxe⟩
  · go_enter Tryz.func12, Tryz.ntmps12
    go_wp2
    go_ret
    exact xpost false _ a (by rw [HQ.out]; rfl) HB0.out (by rw [HQ.out]; exact HP.out)
  · have HV := Lib.hid (show (x != []) = true by simpa using hx1)
    clear hx1
    go_enter Tryz.func12, Tryz.ntmps12
    go_wp2
    go_ret
    exact xpost true _ a (by rw [HQ.out]; exact HV.out) HB0.out (by rw [HQ.out]; exact HP.out)
/-- What expr wants beside its arguments. -/
structure EX (w0 : World) (f : Value) (c : List UInt8) (fs : List Fi) : Prop where
  files : FV w0 f fs
  nf : fs.length ≤ 1000000
  lc : c.length ≤ 200
theorem RV.tail {w0 : World} {k off cap n : Nat} {x : List UInt8} {l : List (List UInt8)} (hS : SL w0 (some ⟨k, off, none⟩) (x :: l)) (h1 : l.length ≤ n) (h2 : n ≤ 9223372036854775807) (hc : cap = l.length) : RV w0 (.slice (some ⟨k, off + 1, none⟩) cap n) l :=
  ⟨some ⟨k, off + 1, none⟩, n, by rw [hc], h1, h2, hS.tail⟩
set_option maxHeartbeats 4000000 in
set_option maxRecDepth 100000 in
theorem expr2 {w0 : World} {f : Value} {c : List UInt8} {fs : List Fi} (hx : EX w0 f c fs) (x y : List UInt8) (hyl : y.length ≤ 200) : ExprD w0 f c fs [x, y] := by
  intro v w ar a hr hb0 hp
  obtain ⟨A, cap, rfl, q1, q2, hS⟩ := hr
  obtain ⟨k, off, rfl, hk, -⟩ := id (hS (by simp))
  have HS := Lib.hid hS
  have s0 : w.cell? ⟨k, off, none⟩ = some (.string ⟨x.toArray⟩) := hS.at hb0 (i := 0) (by simp)
  have HB0 := Lib.hid hb0
  have HP := Lib.hid hp
  have HX := Lib.hid hx
  have HYL := Lib.hid hyl
  simp only [List.length_cons, List.length_nil, Nat.zero_add] at q1 ⊢
  have q1' : 2 ≤ cap := q1
  have l5 : (1 : Int) < (cap : Int) := by omega
  have l6 : (2 : Int) ≤ (cap : Int) := by omega
  have HQ := Lib.hid (show P.wholeR (P.lookF fs c) [x, y] = if x = [33] then ⟨y == [], false, false⟩ else if P.isUn x = true then ⟨P.unV (P.lookF fs c) x y, false, false⟩ else ⟨false, true, false⟩ from rfl)
  generalize P.wholeR (P.lookF fs c) [x, y] = Q at *
  clear hb0 hp hS q1 hx hyl
  by_cases h33 : x = [33]
  · subst h33
    have HQV := Lib.hid (HQ.out.trans (if_pos rfl))
    have HE := Lib.hid (expr1 w0 f c fs y (.slice (some ⟨k, off + 1, none⟩) 1 (cap - 1)) w ar a (RV.tail (cap := 1) HS.out (by simp; omega) (by omega) rfl) HB0.out HP.out)
    have HQ1 := Lib.hid (show P.wholeR (P.lookF fs c) [y] = ⟨y != [], false, false⟩ from rfl)
    generalize P.wholeR (P.lookF fs c) [y] = q at *
    go_enter Tryz.func12, Tryz.ntmps12
    go_wp2_with fail
    refine HE.out.mono ?_
    rintro e w1 ⟨rfl, hb1, ar1, a1, hp1⟩
    have HB1 := Lib.hid hb1
    have HP1 := Lib.hid hp1
    clear hb1 hp1
    go_wp2
    go_ret
    exact xpost (!q.v) ar1 a1 (by rw [HQV.out, HQ1.out]; cases y <;> rfl) HB1.out (by have := HP1.out; rw [HQ1.out] at this; rw [HQV.out]; exact this)
  have e33 : (x == [33]) = false := by simpa using h33
  have HQ2 := Lib.hid (HQ.out.trans (if_neg h33))
  have HUN := Lib.hid (unary_q x w0 w _ f a c 0 false HB0.out HP.out)
  clear HQ h33
  cases hu : P.isUn x with
  | true =>
    rw [hu] at HUN
    have HQV := Lib.hid (HQ2.out.trans (if_pos hu))
    have HU := Lib.hid hu
    have HON := Lib.hid (fun w' (h1 : Below w0.heap.size w0 w') (h2 : RB w' w0.heap.size ar a f c 0 false) => one_ref x y w0 w' _ f a c 0 false fs HU.out HX.out.lc HYL.out HX.out.files HX.out.nf h1 h2)
    unfold QPost at HON
    generalize P.unV (P.lookF fs c) x y = V at HON HQV
    clear hu HQ2
    go_enter Tryz.func12, Tryz.ntmps12
    go_wp2_with fail
    refine HUN.out.mono ?_
    rintro e w3 ⟨rfl, hb3, hp3⟩
    have HB3 := Lib.hid hb3
    have HP3 := Lib.hid hp3
    have u0 : w3.cell? ⟨k, off, none⟩ = some (.string ⟨x.toArray⟩) := HS.out.at hb3 (i := 0) (by simp)
    have u1 : w3.cell? ⟨k, off + 1, none⟩ = some (.string ⟨y.toArray⟩) := HS.out.at hb3 (i := 1) (by simp)
    clear hb3 hp3 s0
    go_wp2_with fail
    refine wp_region_still_tail 7 (by kernel_rfl) (by kernel_rfl) ?_
    simp only [List.take_succ_cons, List.take_zero, List.drop_succ_cons, List.drop_zero]
    repeat still_step
    refine wpStill_nil ?_
    change wpList _ _ _ _ _ w3.drew
    go_wp2_with fail
    refine (HON.out _ HB3.out.drew HP3.out.drew).mono ?_
    rintro e w5 ⟨rfl, hb5, hp5⟩
    have HB5 := Lib.hid hb5
    have HP5 := Lib.hid hp5
    clear hb5 hp5
    go_wp2
    go_ret
    exact xpost _ ar a (by rw [HQV.out]) HB5.out (by rw [HQV.out]; exact HP5.out)
  | false =>
    rw [hu] at HUN
    have HQV := Lib.hid (HQ2.out.trans (if_neg (by rw [hu]; simp)))
    clear hu HQ2
    go_enter Tryz.func12, Tryz.ntmps12
    go_wp2_with fail
    refine HUN.out.mono ?_
    rintro e w3 ⟨rfl, hb3, hp3⟩
    have HB3 := Lib.hid hb3
    have HP3 := Lib.hid hp3
    obtain ⟨k0, k1, -, -, k4, -⟩ := hp3.cells
    obtain ⟨v0, v1, v4, -⟩ := hp3.thaw
    clear hb3 hp3 s0
    go_wp2
    go_ret
    exact xpost false ar a (by rw [HQV.out]) (HB3.out.setCell (by simp) _) (by rw [HQV.out]; exact HP3.out.set4 27)
set_option maxHeartbeats 4000000 in
set_option maxRecDepth 100000 in
theorem expr3 {w0 : World} {f : Value} {c : List UInt8} {fs : List Fi} (hx : EX w0 f c fs) (x y z : List UInt8) (hxl : x.length ≤ 200) (hzl : z.length ≤ 200) : ExprD w0 f c fs [x, y, z] := by
  intro v w ar a hr hb0 hp
  have HE2 := Lib.hid (expr2 hx y z hzl)
  have HE1 := Lib.hid (expr1 w0 f c fs y)
  obtain ⟨A, cap, rfl, q1, q2, hS⟩ := hr
  obtain ⟨k, off, rfl, hk, -⟩ := id (hS (by simp))
  have HS := Lib.hid hS
  have s1 : w.cell? ⟨k, off + 1, none⟩ = some (.string ⟨y.toArray⟩) := hS.at hb0 (i := 1) (by simp)
  have HB0 := Lib.hid hb0
  have HP := Lib.hid hp
  simp only [List.length_cons, List.length_nil, Nat.zero_add] at q1 ⊢
  have q1' : 3 ≤ cap := q1
  have l5 : (1 : Int) < (cap : Int) := by omega
  have l6 : (3 : Int) ≤ (cap : Int) := by omega
  have l7 : (2 : Int) ≤ (cap : Int) := by omega
  have HQ := Lib.hid (show P.wholeR (P.lookF fs c) [x, y, z] = P.threeR (P.lookF fs c) x y z from rfl)
  generalize P.wholeR (P.lookF fs c) [x, y, z] = Q at *
  unfold P.threeR at HQ
  have HBN := Lib.hid (binary_q y w0 w _ f a c 0 false HB0.out HP.out)
  have HXL := Lib.hid hxl
  have HZL := Lib.hid hzl
  clear hb0 hp hS q1 hx hxl hzl
  cases hbin : P.isBin y with
  | true =>
    rw [hbin] at HBN
    have HBI := Lib.hid hbin
    have HQV := Lib.hid (HQ.out.trans (if_pos hbin))
    have HTW := Lib.hid (fun w' (h1 : Below w0.heap.size w0 w') (h2 : RB w' w0.heap.size ar a f c 0 false) => two_ref x y z w0 w' _ f a c 0 false HBI.out (by have := HXL.out; omega) (by have := HZL.out; omega) h1 h2)
    unfold QPost at HTW
    clear hbin HQ
    go_enter Tryz.func12, Tryz.ntmps12
    go_wp2_with fail
    refine HBN.out.mono ?_
    rintro e w3 ⟨rfl, hb3, hp3⟩
    have HB3 := Lib.hid hb3
    have HP3 := Lib.hid hp3
    have u0 : w3.cell? ⟨k, off, none⟩ = some (.string ⟨x.toArray⟩) := HS.out.at hb3 (i := 0) (by simp)
    have u1 : w3.cell? ⟨k, off + 1, none⟩ = some (.string ⟨y.toArray⟩) := HS.out.at hb3 (i := 1) (by simp)
    have u2 : w3.cell? ⟨k, off + 2, none⟩ = some (.string ⟨z.toArray⟩) := HS.out.at hb3 (i := 2) (by simp)
    clear hb3 hp3 s1
    go_wp2_with fail
    refine wp_region_still_tail 10 (by kernel_rfl) (by kernel_rfl) ?_
    simp only [List.take_succ_cons, List.take_zero, List.drop_succ_cons, List.drop_zero]
    repeat still_step
    refine wpStill_nil ?_
    change wpList _ _ _ _ _ w3.drew
    go_wp2_with fail
    refine (HTW.out _ HB3.out.drew HP3.out.drew).mono ?_
    rintro e w5 ⟨rfl, hb5, hp5⟩
    have HB5 := Lib.hid hb5
    have HP5 := Lib.hid hp5
    clear hb5 hp5
    go_wp2
    go_ret
    exact xpost _ ar a (by rw [HQV.out]) HB5.out (by rw [HQV.out]; have := HP5.out; rw [Bool.false_or] at this; exact this)
  | false =>
  rw [hbin] at HBN
  have HQ2 := Lib.hid (HQ.out.trans (if_neg (by rw [hbin]; simp)))
  clear hbin HQ
  have HPRE : Hid (∀ w3, Below w0.heap.size w0 w3 → w3.cell? ⟨k, off, none⟩ = some (.string ⟨x.toArray⟩) ∧ w3.cell? ⟨k, off + 1, none⟩ = some (.string ⟨y.toArray⟩) ∧ w3.cell? ⟨k, off + 2, none⟩ = some (.string ⟨z.toArray⟩)) := fun w3 hb3 => ⟨HS.out.at hb3 (i := 0) (by simp), HS.out.at hb3 (i := 1) (by simp), HS.out.at hb3 (i := 2) (by simp)⟩
  by_cases ha : y = [45, 97]
  · have HQV := Lib.hid (HQ2.out.trans (if_pos ha))
    subst ha
    rcases emp_cases x with ⟨rfl, hxe⟩ | ⟨hx1, hxe⟩
    · go_enter Tryz.func12, Tryz.ntmps12
      go_wp2_with fail
      refine HBN.out.mono ?_
      rintro e w3 ⟨rfl, hb3, hp3⟩
      have HB3 := Lib.hid hb3
      have HP3 := Lib.hid hp3
      obtain ⟨u0, u1, u2⟩ := HPRE.out w3 hb3
      clear hb3 hp3 s1
      go_wp2
      go_ret
      exact xpost false ar a (by rw [HQV.out]; rfl) HB3.out (by rw [HQV.out]; exact HP3.out)
    · have HV := Lib.hid (show (x != []) = true by simpa using hx1)
      clear hx1
      rcases emp_cases z with ⟨rfl, hze⟩ | ⟨hz1, hze⟩
      · go_enter Tryz.func12, Tryz.ntmps12
        go_wp2_with fail
        refine HBN.out.mono ?_
        rintro e w3 ⟨rfl, hb3, hp3⟩
        have HB3 := Lib.hid hb3
        have HP3 := Lib.hid hp3
        obtain ⟨u0, u1, u2⟩ := HPRE.out w3 hb3
        clear hb3 hp3 s1
        go_wp2
        go_ret
        exact xpost false ar a (by rw [HQV.out]; show (_ && _) = false; rw [HV.out]; rfl) HB3.out (by rw [HQV.out]; exact HP3.out)
      · have HZ := Lib.hid (show (z != []) = true by simpa using hz1)
        clear hz1
        go_enter Tryz.func12, Tryz.ntmps12
        go_wp2_with fail
        refine HBN.out.mono ?_
        rintro e w3 ⟨rfl, hb3, hp3⟩
        have HB3 := Lib.hid hb3
        have HP3 := Lib.hid hp3
        obtain ⟨u0, u1, u2⟩ := HPRE.out w3 hb3
        clear hb3 hp3 s1
        go_wp2
        go_ret
        exact xpost true ar a (by rw [HQV.out]; show (_ && _) = true; rw [HV.out, HZ.out]; rfl) HB3.out (by rw [HQV.out]; exact HP3.out)
  have ea : (y == [45, 97]) = false := by simpa using ha
  have HQ3 := Lib.hid (HQ2.out.trans (if_neg ha))
  clear HQ2 ha
  by_cases ho : y = [45, 111]
  · have HQV := Lib.hid (HQ3.out.trans (if_pos ho))
    subst ho
    rcases emp_cases x with ⟨rfl, hxe⟩ | ⟨hx1, hxe⟩
    · rcases emp_cases z with ⟨rfl, hze⟩ | ⟨hz1, hze⟩
      · go_enter Tryz.func12, Tryz.ntmps12
        go_wp2_with fail
        refine HBN.out.mono ?_
        rintro e w3 ⟨rfl, hb3, hp3⟩
        have HB3 := Lib.hid hb3
        have HP3 := Lib.hid hp3
        obtain ⟨u0, u1, u2⟩ := HPRE.out w3 hb3
        clear hb3 hp3 s1
        go_wp2
        go_ret
        exact xpost false ar a (by rw [HQV.out]; rfl) HB3.out (by rw [HQV.out]; exact HP3.out)
      · have HZ := Lib.hid (show (z != []) = true by simpa using hz1)
        clear hz1
        go_enter Tryz.func12, Tryz.ntmps12
        go_wp2_with fail
        refine HBN.out.mono ?_
        rintro e w3 ⟨rfl, hb3, hp3⟩
        have HB3 := Lib.hid hb3
        have HP3 := Lib.hid hp3
        obtain ⟨u0, u1, u2⟩ := HPRE.out w3 hb3
        clear hb3 hp3 s1
        go_wp2
        go_ret
        exact xpost true ar a (by rw [HQV.out]; simpa using HZ.out) HB3.out (by rw [HQV.out]; exact HP3.out)
    · have HV := Lib.hid (show (x != []) = true by simpa using hx1)
      clear hx1
      go_enter Tryz.func12, Tryz.ntmps12
      go_wp2_with fail
      refine HBN.out.mono ?_
      rintro e w3 ⟨rfl, hb3, hp3⟩
      have HB3 := Lib.hid hb3
      have HP3 := Lib.hid hp3
      obtain ⟨u0, u1, u2⟩ := HPRE.out w3 hb3
      clear hb3 hp3 s1
      go_wp2
      go_ret
      exact xpost true ar a (by rw [HQV.out]; show (_ || _) = true; rw [HV.out]; simp) HB3.out (by rw [HQV.out]; exact HP3.out)
  have eo : (y == [45, 111]) = false := by simpa using ho
  have HQ4 := Lib.hid (HQ3.out.trans (if_neg ho))
  clear HQ3 ho
  by_cases h33 : x = [33]
  · have HQV := Lib.hid (HQ4.out.trans (if_pos h33))
    subst h33
    have HC := Lib.hid (fun w3 h1 h2 => HE2.out (.slice (some ⟨k, off + 1, none⟩) 2 (cap - 1)) w3 ar a (RV.tail (cap := 2) HS.out (by simp; omega) (by omega) rfl) h1 h2)
    have HQ1 := Lib.hid (show P.wholeR (P.lookF fs c) [y, z] = P.twoP (P.lookF fs c) y z from rfl)
    generalize P.wholeR (P.lookF fs c) [y, z] = q at *
    generalize P.twoP (P.lookF fs c) y z = q' at *
    go_enter Tryz.func12, Tryz.ntmps12
    go_wp2_with fail
    refine HBN.out.mono ?_
    rintro e w3 ⟨rfl, hb3, hp3⟩
    have HB3 := Lib.hid hb3
    have HP3 := Lib.hid hp3
    obtain ⟨u0, u1, u2⟩ := HPRE.out w3 hb3
    clear hb3 hp3 s1
    go_wp2_with fail
    refine (HC.out w3 HB3.out HP3.out).mono ?_
    rintro e w4 ⟨rfl, hb4, ar1, a1, hp4⟩
    have HB4 := Lib.hid hb4
    have HP4 := Lib.hid hp4
    clear hb4 hp4
    go_wp2
    go_ret
    exact xpost (!q.v) ar1 a1 (by rw [HQV.out, HQ1.out]) HB4.out (by have := HP4.out; rw [HQ1.out] at this; rw [HQV.out]; exact this)
  have e33 : (x == [33]) = false := by simpa using h33
  have HQ5 := Lib.hid (HQ4.out.trans (if_neg h33))
  clear HQ4 h33
  by_cases hpa : x = [40] ∧ z = [41]
  · have HQV := Lib.hid (HQ5.out.trans (if_pos hpa))
    obtain ⟨rfl, rfl⟩ := hpa
    have HC := Lib.hid (fun w3 h1 h2 => HE1.out (.slice (some ⟨k, off + 1, none⟩) 1 (cap - 1)) w3 ar a ⟨some ⟨k, off + 1, none⟩, cap - 1, rfl, by simp; omega, by omega, (HS.out.tail).take 1⟩ h1 h2)
    have HQ1 := Lib.hid (show P.wholeR (P.lookF fs c) [y] = ⟨y != [], false, false⟩ from rfl)
    generalize P.wholeR (P.lookF fs c) [y] = q at *
    go_enter Tryz.func12, Tryz.ntmps12
    go_wp2_with fail
    refine HBN.out.mono ?_
    rintro e w3 ⟨rfl, hb3, hp3⟩
    have HB3 := Lib.hid hb3
    have HP3 := Lib.hid hp3
    obtain ⟨u0, u1, u2⟩ := HPRE.out w3 hb3
    clear hb3 hp3 s1
    go_wp2_with fail
    refine (HC.out w3 HB3.out HP3.out).mono ?_
    rintro e w4 ⟨rfl, hb4, ar1, a1, hp4⟩
    have HB4 := Lib.hid hb4
    have HP4 := Lib.hid hp4
    clear hb4 hp4
    go_wp2
    go_ret
    exact xpost q.v ar1 a1 (by rw [HQV.out, HQ1.out]) HB4.out (by have := HP4.out; rw [HQ1.out] at this; rw [HQV.out]; exact this)
  have HQV := Lib.hid (HQ5.out.trans (if_neg hpa))
  have hpc : ((x == [40]) = false) ∨ ((x == [40]) = true ∧ (z == [41]) = false) := by
    cases h1 : (x == [40]) with
    | false => exact .inl rfl
    | true =>
      refine .inr ⟨rfl, ?_⟩
      cases h2 : (z == [41]) with
      | false => rfl
      | true => exact absurd ⟨by simpa using h1, by simpa using h2⟩ hpa
  clear hpa HQ5
  rcases hpc with p1 | ⟨p1, p2⟩
  all_goals
    go_enter Tryz.func12, Tryz.ntmps12
    go_wp2_with fail
    refine HBN.out.mono ?_
    rintro e w3 ⟨rfl, hb3, hp3⟩
    have HB3 := Lib.hid hb3
    have HP3 := Lib.hid hp3
    obtain ⟨u0, u1, u2⟩ := HPRE.out w3 hb3
    obtain ⟨k0, k1, -, -, k4, -⟩ := hp3.cells
    obtain ⟨v0, v1, v4, -⟩ := hp3.thaw
    clear hb3 hp3 s1
    go_wp2
    go_ret
    exact xpost false ar a (by rw [HQV.out]) (HB3.out.setCell (by simp) _) (by rw [HQV.out]; exact HP3.out.set4 27)
end W
end Go.Proofs.YtmccfdmnidbalaaGreatDoor
