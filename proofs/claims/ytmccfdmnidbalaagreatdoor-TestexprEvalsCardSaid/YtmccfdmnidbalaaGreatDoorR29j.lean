/- Chapter 29: the reference's expr at four and more arguments, Eval. -/
import Derived.Test.YtmccfdmnidbalaaGreatDoorR29i
namespace Go.Proofs.YtmccfdmnidbalaaGreatDoor
open Go.RowKit K
namespace W
set_option maxHeartbeats 4000000 in
set_option maxRecDepth 100000 in
theorem expr4 {w0 : World} {f : Value} {c : List UInt8} {fs : List Fi} (hx : EX w0 f c fs) (x y z t : List UInt8) (hxl : x.length ≤ 200) (hyl : y.length ≤ 200) (hzl : z.length ≤ 200) (htl : t.length ≤ 200) : ExprD w0 f c fs [x, y, z, t] := by
  intro v w ar a hr hb0 hp
  have HE3 := Lib.hid (expr3 hx y z t hyl htl)
  have HE2 := Lib.hid (expr2 hx y z hzl)
  have HGE := Lib.hid (general_ref (fs := fs) ⟨hx.files, hx.nf, hx.lc, hr, by simp [hxl, hyl, hzl, htl], by simp⟩ w ar a hb0 hp)
  obtain ⟨A, cap, rfl, q1, q2, hS⟩ := hr
  obtain ⟨k, off, rfl, hk, -⟩ := id (hS (by simp))
  have HS := Lib.hid hS
  have u0 : w.cell? ⟨k, off, none⟩ = some (.string ⟨x.toArray⟩) := hS.at hb0 (i := 0) (by simp)
  have u3 : w.cell? ⟨k, off + 3, none⟩ = some (.string ⟨t.toArray⟩) := hS.at hb0 (i := 3) (by simp)
  have HB0 := Lib.hid hb0
  have HP := Lib.hid hp
  simp only [List.length_cons, List.length_nil, Nat.zero_add] at q1 HGE ⊢
  have q1' : 4 ≤ cap := q1
  have l5 : (1 : Int) < (cap : Int) := by omega
  have l6 : (4 : Int) ≤ (cap : Int) := by omega
  have l7 : (3 : Int) ≤ (cap : Int) := by omega
  have HQ := Lib.hid (show P.wholeR (P.lookF fs c) [x, y, z, t] = if x = [33] then ⟨!(P.threeR (P.lookF fs c) y z t).v, (P.threeR (P.lookF fs c) y z t).u, (P.threeR (P.lookF fs c) y z t).i⟩ else if x = [40] ∧ t = [41] then P.twoP (P.lookF fs c) y z else P.generalR (P.lookF fs c) [x, y, z, t] from rfl)
  generalize P.wholeR (P.lookF fs c) [x, y, z, t] = Q at *
  clear hb0 hp hS q1 hx hxl hyl hzl htl
  by_cases h33 : x = [33]
  · have HQV := Lib.hid (HQ.out.trans (if_pos h33))
    subst h33
    have HC := Lib.hid (HE3.out (.slice (some ⟨k, off + 1, none⟩) 3 (cap - 1)) w ar a (RV.tail (cap := 3) HS.out (by simp; omega) (by omega) rfl) HB0.out HP.out)
    have HQ1 := Lib.hid (show P.wholeR (P.lookF fs c) [y, z, t] = P.threeR (P.lookF fs c) y z t from rfl)
    generalize P.wholeR (P.lookF fs c) [y, z, t] = q at *
    generalize P.threeR (P.lookF fs c) y z t = q' at *
    clear HGE
    go_enter Tryz.func12, Tryz.ntmps12
    go_wp2_with fail
    refine HC.out.mono ?_
    rintro e w4 ⟨rfl, hb4, ar1, a1, hp4⟩
    have HB4 := Lib.hid hb4
    have HP4 := Lib.hid hp4
    clear hb4 hp4
    go_wp2
    go_ret
    exact xpost (!q.v) ar1 a1 (by rw [HQV.out, HQ1.out]) HB4.out (by have := HP4.out; rw [HQ1.out] at this; rw [HQV.out]; exact this)
  have e33 : (x == [33]) = false := by simpa using h33
  have HQ5 := Lib.hid (HQ.out.trans (if_neg h33))
  clear HQ h33
  by_cases hpa : x = [40] ∧ t = [41]
  · have HQV := Lib.hid (HQ5.out.trans (if_pos hpa))
    obtain ⟨rfl, rfl⟩ := hpa
    have HC := Lib.hid (HE2.out (.slice (some ⟨k, off + 1, none⟩) 2 (cap - 1)) w ar a ⟨some ⟨k, off + 1, none⟩, cap - 1, rfl, by simp; omega, by omega, (HS.out.tail).take 2⟩ HB0.out HP.out)
    have HQ1 := Lib.hid (show P.wholeR (P.lookF fs c) [y, z] = P.twoP (P.lookF fs c) y z from rfl)
    generalize P.wholeR (P.lookF fs c) [y, z] = q at *
    generalize P.twoP (P.lookF fs c) y z = q' at *
    clear HGE
    go_enter Tryz.func12, Tryz.ntmps12
    go_wp2_with fail
    refine HC.out.mono ?_
    rintro e w4 ⟨rfl, hb4, ar1, a1, hp4⟩
    have HB4 := Lib.hid hb4
    have HP4 := Lib.hid hp4
    clear hb4 hp4
    go_wp2
    go_ret
    exact xpost q.v ar1 a1 (by rw [HQV.out, HQ1.out]) HB4.out (by have := HP4.out; rw [HQ1.out] at this; rw [HQV.out]; exact this)
  have HQV := Lib.hid (HQ5.out.trans (if_neg hpa))
  have hpc : ((x == [40]) = false) ∨ ((x == [40]) = true ∧ (t == [41]) = false) := by
    cases h1 : (x == [40]) with
    | false => exact .inl rfl
    | true =>
      refine .inr ⟨rfl, ?_⟩
      cases h2 : (t == [41]) with
      | false => rfl
      | true => exact absurd ⟨by simpa using h1, by simpa using h2⟩ hpa
  clear hpa HQ5
  generalize P.generalR (P.lookF fs c) [x, y, z, t] = q at *
  rcases hpc with p1 | ⟨p1, p2⟩
  all_goals
    go_enter Tryz.func12, Tryz.ntmps12
    go_wp2_with fail
    refine HGE.out.mono ?_
    rintro e w4 ⟨rfl, hb4, ar1, a1, hp4⟩
    have HB4 := Lib.hid hb4
    have HP4 := Lib.hid hp4
    clear hb4 hp4
    go_wp2
    go_ret
    exact xpost q.v ar1 a1 (by rw [HQV.out]) HB4.out (by rw [HQV.out]; exact HP4.out)
set_option maxHeartbeats 4000000 in
set_option maxRecDepth 100000 in
theorem exprN {w0 : World} {f : Value} {c : List UInt8} {fs : List Fi} (hx : EX w0 f c fs) (args : List (List UInt8)) (h5 : 5 ≤ args.length) (hla : ∀ s ∈ args, s.length ≤ 200) (hna : args.length ≤ 1000) : ExprD w0 f c fs args := by
  intro v w ar a hr hb0 hp
  have HGE := Lib.hid (general_ref (fs := fs) ⟨hx.files, hx.nf, hx.lc, hr, hla, hna⟩ w ar a hb0 hp)
  obtain ⟨A, cap, rfl, q1, q2, hS⟩ := hr
  have HQ := Lib.hid (show P.wholeR (P.lookF fs c) args = P.generalR (P.lookF fs c) args by
    match args, h5 with
    | x :: y :: z :: t :: u :: r, _ => rfl)
  generalize P.wholeR (P.lookF fs c) args = Q at *
  generalize P.generalR (P.lookF fs c) args = q at *
  generalize args.length = n at *
  have e0 : ((n : Int) == 0) = false := by simp; omega
  have e1 : ((n : Int) == 1) = false := by simp; omega
  have e2 : ((n : Int) == 2) = false := by simp; omega
  have e3 : ((n : Int) == 3) = false := by simp; omega
  have e4 : ((n : Int) == 4) = false := by simp; omega
  have g4 : ((n : Int) ≤ 4) = False := eq_false (by omega)
  have g3 : ((n : Int) ≤ 3) = False := eq_false (by omega)
  have g4' : decide ((n : Int) ≤ 4) = false := decide_eq_false (by omega)
  clear hb0 hp hS hx hla h5
  go_enter Tryz.func12, Tryz.ntmps12
  go_wp2_with fail
  refine HGE.out.mono ?_
  rintro e w4 ⟨rfl, hb4, ar1, a1, hp4⟩
  have HB4 := Lib.hid hb4
  have HP4 := Lib.hid hp4
  clear hb4 hp4
  go_wp2
  go_ret
  exact xpost q.v ar1 a1 (by rw [HQ.out]) HB4.out (by rw [HQ.out]; exact HP4.out)
theorem expr_ref {w0 : World} {f : Value} {c : List UInt8} {fs : List Fi} (hx : EX w0 f c fs) (args : List (List UInt8)) (hla : ∀ s ∈ args, s.length ≤ 200) (hna : args.length ≤ 1000) : ExprD w0 f c fs args := by
  match args, hla, hna with
  | [], _, _ => exact expr0 w0 f c fs
  | [x], _, _ => exact expr1 w0 f c fs x
  | [x, y], h, _ => exact expr2 hx x y (h y (by simp))
  | [x, y, z], h, _ => exact expr3 hx x y z (h x (by simp)) (h z (by simp))
  | [x, y, z, t], h, _ => exact expr4 hx x y z t (h x (by simp)) (h y (by simp)) (h z (by simp)) (h t (by simp))
  | x :: y :: z :: t :: u :: r, h, hn => exact exprN hx _ (by simp) h hn
set_option maxHeartbeats 2000000 in
theorem Eval_ref (w : World) (f : Value) (c : List UInt8) (fs : List Fi) (v : Value) (args : List (List UInt8)) (hV : FV w f fs) (hn : fs.length ≤ 1000000) (hc : c.length ≤ 200) (hA : RV w v args) (hla : ∀ s ∈ args, s.length ≤ 200) (hna : args.length ≤ 1000) :
    Calls Tryz.prog 7 #[v, f, .string ⟨c.toArray⟩] w (EPost w (P.evalR (P.lookF fs c) args)) := by
  obtain ⟨x, hx⟩ : ∃ x, x = w.alloc (.cells #[.slice none 0 0, .int .i64 0, f, .string ⟨c.toArray⟩, .int .i64 0, .bool false] 41) := ⟨_, rfl⟩
  have hpb : RB x w.heap.size (.slice none 0 0) 0 f c 0 false := by rw [hx]; exact heap_alloc_new w _
  have hbx : Below w.heap.size w x := by rw [hx]; exact balloc _ _
  have HX := Lib.hid hx
  have HW := Lib.hid (expr_ref ⟨hV, hn, hc⟩ args hla hna v x (.slice none 0 0) 0 hA hbx hpb)
  have HE := Lib.hid (show P.evalR (P.lookF fs c) args = if (P.wholeR (P.lookF fs c) args).u then (false, 27) else if (P.wholeR (P.lookF fs c) args).i then (false, 1) else ((P.wholeR (P.lookF fs c) args).v, 0) from rfl)
  unfold EPost
  generalize P.evalR (P.lookF fs c) args = E at HE ⊢
  generalize P.wholeR (P.lookF fs c) args = Q at HE HW
  obtain ⟨A, cap, rfl, -⟩ := hA
  obtain ⟨Af, capf, hf, -⟩ := hV
  subst hf
  clear hx hpb hbx hla
  go_enter Tryz.func7, Tryz.ntmps7
  go_wp2_with fail
  rw [← HX.out]
  refine HW.out.mono ?_
  rintro e w1 ⟨rfl, hb1, ar1, a1, hp1⟩
  have HB1 := Lib.hid hb1
  obtain ⟨c0, c1, c2, c3, c4, c5⟩ := hp1.cells
  clear hb1 hp1
  obtain ⟨qv, qu, qi⟩ := Q
  simp only at c4 c5 HE
  cases qu with
  | true =>
    have HF := Lib.hid (show E = (false, 27) from HE.out)
    simp only [if_true] at c4
    go_wp2_with fail
    go_quiet (fail)
    go_wp2
    refine bodyPost_ret (v := .tuple #[.bool false, .int .i64 27]) (by simp [results, Tryz.results7, go_sem]) rfl ⟨by rw [HF.out], bdN HB1.out _⟩
  | false =>
    simp only [Bool.false_eq_true, if_false] at c4
    cases qi with
    | true =>
      have HF := Lib.hid (show E = (false, 1) from HE.out)
      go_wp2
      refine bodyPost_ret (v := .tuple #[.bool false, .int .i64 1]) (by simp [results, Tryz.results7, go_sem]) rfl ⟨by rw [HF.out], HB1.out⟩
    | false =>
      have HF := Lib.hid (show E = (qv, 0) from HE.out)
      go_wp2
      refine bodyPost_ret (v := .tuple #[.bool qv, .int .i64 0]) (by simp [results, Tryz.results7, go_sem]) rfl ⟨by rw [HF.out], HB1.out⟩
end W
end Go.Proofs.YtmccfdmnidbalaaGreatDoor
