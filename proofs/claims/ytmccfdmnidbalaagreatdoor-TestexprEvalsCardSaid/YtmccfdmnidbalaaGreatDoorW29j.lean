/- Chapter 29: three arguments. -/
import Derived.Test.YtmccfdmnidbalaaGreatDoorW29i
namespace Go.Proofs.YtmccfdmnidbalaaGreatDoor
open Go.RowKit K
namespace W
set_option maxHeartbeats 2000000 in
set_option maxRecDepth 100000 in
theorem three_of {w0 : World} {f : Value} {c : List UInt8} {fs : List Fi} (h : CX w0 f c fs) (a op b : List UInt8) (ha : SOK a) (hb : SOK b) (A : Option Addr) (cap : Nat) (hS : SL w0 A [a, op, b]) (hcap : 3 ≤ cap) (hcap2 : cap ≤ 9223372036854775807) (w : World) (r : Value) (u i : Bool) (hb0 : Below w0.heap.size w0 w) (hp : PB w w0.heap.size r f c u i) :
    Calls Tryz.prog 16 #[.pointer (some ⟨w0.heap.size, 0, none⟩), .slice A 3 cap] w (BPost w0 r f c (P.threeP (P.lookF fs c) a op b).v (u || (P.threeP (P.lookF fs c) a op b).u) (i || (P.threeP (P.lookF fs c) a op b).i)) := by
  have HBI := Lib.hid (fun w (h1 : Below w0.heap.size w0 w) (h2 : PB w w0.heap.size r f c u i) => bin_ok h a op b ha hb w r u i h1 h2)
  have HIB := Lib.hid (fun w => isBinary_any op w)
  obtain ⟨k, off, hA, hk, s0, s1, s2⟩ := (hS.below hb0).three
  have HTW := Lib.hid (fun w (h1 : Below w0.heap.size w0 w) (h2 : PB w w0.heap.size r f c u i) => two_of h op b hb (some ⟨k, off + 1, none⟩) (cap - 1) (by subst hA; exact hS.drop 1) w r u i h1 h2)
  unfold BPost at HBI HTW ⊢
  subst hA
  have HB0 := Lib.hid hb0
  have HP := Lib.hid hp
  obtain ⟨c0, c1, c2, c3, c4⟩ := hp.cells
  obtain ⟨f0, f3, f4⟩ := hp.thaw
  cases hbin : P.isBin op with
  | true =>
    rw [hbin] at HIB
    have HF := Lib.hid (show P.threeP (P.lookF fs c) a op b = ⟨P.binV a op b, false, P.binI a op b⟩ by unfold P.threeP; rw [if_pos hbin])
    generalize P.threeP (P.lookF fs c) a op b = T at HF
    generalize P.binV a op b = V at HF HBI
    generalize P.binI a op b = I at HF HBI
    clear hb0 hp hS h ha hb hbin HTW
    go_enter Tryz.func16, Tryz.ntmps16
    go_wp2_with fail
    go_quiet (fail)
    go_wp2_with fail
    refine (HIB.out _).mono ?_
    rintro e w1 ⟨rfl, rfl⟩
    go_wp2_with fail
    refine (HBI.out _ (bdN HB0.out _) (HP.out.drewN _)).mono ?_
    rintro e w2 ⟨rfl, hb2, hp2⟩
    have HB2 := Lib.hid hb2
    have HP2 := Lib.hid hp2
    clear hb2 hp2
    go_wp2
    go_ret
    exact ⟨ret_bool (by rw [HF.out]), HB2.out, by rw [HF.out, Bool.or_false]; exact HP2.out⟩
  | false =>
    rw [hbin] at HIB
    have HF0 := Lib.hid (show P.threeP (P.lookF fs c) a op b = if op = [45, 97] then ⟨a != [] && b != [], false, false⟩
      else if op = [45, 111] then ⟨a != [] || b != [], false, false⟩
      else if a = [33] then ⟨!(P.twoP (P.lookF fs c) op b).v, (P.twoP (P.lookF fs c) op b).u, (P.twoP (P.lookF fs c) op b).i⟩
      else if a = [40] ∧ b = [41] then ⟨op != [], false, false⟩
      else ⟨false, true, false⟩ by unfold P.threeP; rw [if_neg (by rw [hbin]; simp)])
    generalize P.threeP (P.lookF fs c) a op b = T at HF0
    generalize P.twoP (P.lookF fs c) op b = W2 at HF0 HTW
    have Q1 := Lib.hid (hb0.setCell (p := ⟨w0.heap.size, 3, none⟩) (by simp) (.bool true))
    have Q2 := Lib.hid (hp.set3 true)
    have hcap' : (1 : Int) ≤ (cap : Int) := by omega
    clear hb0 hp hS h ha hb hbin HBI
    by_cases o1 : op = [45, 97]
    · subst o1
      have HF := Lib.hid (show T = ⟨a != [] && b != [], false, false⟩ from HF0.out)
      clear HF0 HTW
      cases a with
      | nil =>
        go_enter Tryz.func16, Tryz.ntmps16
        go_wp2_with fail
        go_quiet (fail)
        go_wp2_with fail
        refine (HIB.out _).mono ?_
        rintro e w1 ⟨rfl, rfl⟩
        go_wp2
        go_ret
        exact ⟨ret_bool (by rw [HF.out]; rfl), bdN HB0.out _, by rw [HF.out, Bool.or_false, Bool.or_false]; exact HP.out.drewN _⟩
      | cons x y =>
        cases b with
        | nil =>
          go_enter Tryz.func16, Tryz.ntmps16
          go_wp2_with fail
          go_quiet (fail)
          go_wp2_with fail
          refine (HIB.out _).mono ?_
          rintro e w1 ⟨rfl, rfl⟩
          go_wp2
          go_ret
          exact ⟨ret_bool (by rw [HF.out]; rfl), bdN HB0.out _, by rw [HF.out, Bool.or_false, Bool.or_false]; exact HP.out.drewN _⟩
        | cons x' y' =>
          go_enter Tryz.func16, Tryz.ntmps16
          go_wp2_with fail
          go_quiet (fail)
          go_wp2_with fail
          refine (HIB.out _).mono ?_
          rintro e w1 ⟨rfl, rfl⟩
          go_wp2
          go_ret
          exact ⟨ret_bool (by rw [HF.out]; rfl), bdN HB0.out _, by rw [HF.out, Bool.or_false, Bool.or_false]; exact HP.out.drewN _⟩
    have d1 : (op == [45, 97]) = false := by simpa using o1
    by_cases o2 : op = [45, 111]
    · subst o2
      have HF := Lib.hid (show T = ⟨a != [] || b != [], false, false⟩ from HF0.out)
      clear HF0 HTW o1
      cases a with
      | nil =>
        cases b with
        | nil =>
          go_enter Tryz.func16, Tryz.ntmps16
          go_wp2_with fail
          go_quiet (fail)
          go_wp2_with fail
          refine (HIB.out _).mono ?_
          rintro e w1 ⟨rfl, rfl⟩
          go_wp2
          go_ret
          exact ⟨ret_bool (by rw [HF.out]; rfl), bdN HB0.out _, by rw [HF.out, Bool.or_false, Bool.or_false]; exact HP.out.drewN _⟩
        | cons x' y' =>
          go_enter Tryz.func16, Tryz.ntmps16
          go_wp2_with fail
          go_quiet (fail)
          go_wp2_with fail
          refine (HIB.out _).mono ?_
          rintro e w1 ⟨rfl, rfl⟩
          go_wp2
          go_ret
          exact ⟨ret_bool (by rw [HF.out]; rfl), bdN HB0.out _, by rw [HF.out, Bool.or_false, Bool.or_false]; exact HP.out.drewN _⟩
      | cons x y =>
        go_enter Tryz.func16, Tryz.ntmps16
        go_wp2_with fail
        go_quiet (fail)
        go_wp2_with fail
        refine (HIB.out _).mono ?_
        rintro e w1 ⟨rfl, rfl⟩
        go_wp2
        go_ret
        exact ⟨ret_bool (by rw [HF.out]; rfl), bdN HB0.out _, by rw [HF.out, Bool.or_false, Bool.or_false]; exact HP.out.drewN _⟩
    have d2 : (op == [45, 111]) = false := by simpa using o2
    by_cases o3 : a = [33]
    · subst o3
      have HF := Lib.hid (show T = ⟨!W2.v, W2.u, W2.i⟩ by rw [HF0.out, if_neg o1, if_neg o2, if_pos rfl])
      clear HF0 o1 o2
      go_enter Tryz.func16, Tryz.ntmps16
      go_wp2_with fail
      go_quiet (fail)
      go_wp2_with fail
      refine (HIB.out _).mono ?_
      rintro e w1 ⟨rfl, rfl⟩
      go_wp2_with fail
      refine (HTW.out _ (bdN HB0.out _) (HP.out.drewN _)).mono ?_
      rintro e w2 ⟨rfl, hb2, hp2⟩
      have HB2 := Lib.hid hb2
      have HP2 := Lib.hid hp2
      clear hb2 hp2
      go_wp2
      go_ret
      exact ⟨ret_bool (by rw [HF.out]), HB2.out, by rw [HF.out]; exact HP2.out⟩
    have d3 : (a == [33]) = false := by simpa using o3
    by_cases o4 : a = [40]
    · subst o4
      by_cases o5 : b = [41]
      · subst o5
        have HF := Lib.hid (show T = ⟨op != [], false, false⟩ by rw [HF0.out, if_neg o1, if_neg o2, if_neg o3, if_pos ⟨rfl, rfl⟩])
        clear HF0 o1 o2 o3 HTW
        cases op with
        | nil =>
          go_enter Tryz.func16, Tryz.ntmps16
          go_wp2_with fail
          go_quiet (fail)
          go_wp2_with fail
          refine (HIB.out _).mono ?_
          rintro e w1 ⟨rfl, rfl⟩
          go_wp2
          go_ret
          exact ⟨ret_bool (by rw [HF.out]; rfl), bdN HB0.out _, by rw [HF.out, Bool.or_false, Bool.or_false]; exact HP.out.drewN _⟩
        | cons x y =>
          go_enter Tryz.func16, Tryz.ntmps16
          go_wp2_with fail
          go_quiet (fail)
          go_wp2_with fail
          refine (HIB.out _).mono ?_
          rintro e w1 ⟨rfl, rfl⟩
          go_wp2
          go_ret
          exact ⟨ret_bool (by rw [HF.out]; rfl), bdN HB0.out _, by rw [HF.out, Bool.or_false, Bool.or_false]; exact HP.out.drewN _⟩
      · have d5 : (b == [41]) = false := by simpa using o5
        have HF := Lib.hid (show T = ⟨false, true, false⟩ by rw [HF0.out, if_neg o1, if_neg o2, if_neg o3, if_neg (by rintro ⟨_, h⟩; exact o5 h)])
        clear HF0 o1 o2 o3 o5 HTW
        go_enter Tryz.func16, Tryz.ntmps16
        go_wp2_with fail
        go_quiet (fail)
        go_wp2_with fail
        refine (HIB.out _).mono ?_
        rintro e w1 ⟨rfl, rfl⟩
        go_wp2
        go_ret
        exact ⟨ret_bool (by rw [HF.out]), (bdN HB0.out _).setCell (by simp) _, by rw [HF.out, Bool.or_false, Bool.or_true]; exact (HP.out.drewN _).set3 true⟩
    · have d4 : (a == [40]) = false := by simpa using o4
      have HF := Lib.hid (show T = ⟨false, true, false⟩ by rw [HF0.out, if_neg o1, if_neg o2, if_neg o3, if_neg (by rintro ⟨h, _⟩; exact o4 h)])
      clear HF0 o1 o2 o3 o4 HTW
      go_enter Tryz.func16, Tryz.ntmps16
      go_wp2_with fail
      go_quiet (fail)
      go_wp2_with fail
      refine (HIB.out _).mono ?_
      rintro e w1 ⟨rfl, rfl⟩
      go_wp2
      go_ret
      exact ⟨ret_bool (by rw [HF.out]), (bdN HB0.out _).setCell (by simp) _, by rw [HF.out, Bool.or_false, Bool.or_true]; exact (HP.out.drewN _).set3 true⟩
end W
end Go.Proofs.YtmccfdmnidbalaaGreatDoor
