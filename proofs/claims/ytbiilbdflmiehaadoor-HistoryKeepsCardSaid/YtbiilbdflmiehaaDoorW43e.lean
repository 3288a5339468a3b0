/- Chapter 43: Same, Get. -/
import Derived.Test.YtbiilbdflmiehaaDoorW43c
import Derived.RegionTactic
import Derived.BigRegion
namespace Go.Proofs.YtbiilbdflmiehaaDoor
open Go.RowKit K
namespace W

set_option maxHeartbeats 1000000 in
theorem Same_ref (va vb : Value) (fa fb : Int) (la lb : List (List UInt8)) (w : World) (hVa : HV w va fa la) (hVb : HV w vb fb lb) (hna : la.length ≤ 1000000) (hnb : lb.length ≤ 1000000) :
    Calls Tryd.prog 17 #[va, vb] w fun e w' => e = .returned (.bool (decide (fa = fb ∧ la = lb))) ∧ Below w.heap.size w w' := by
  obtain ⟨A, ca, rfl, _, _, _, hSa⟩ := hVa
  obtain ⟨B, cb, rfl, _, _, _, hSb⟩ := hVb
  unfold hv
  obtain ⟨na, hnaa⟩ : ∃ n, la.length = n := ⟨_, rfl⟩
  obtain ⟨nb, hnbb⟩ : ∃ n, lb.length = n := ⟨_, rfl⟩
  rw [hnaa, hnbb]
  rw [hnaa] at hna
  rw [hnbb] at hnb
  obtain ⟨w0, h0, k0, k1, hb0, hsz0⟩ := box22 w (.int .i64 fa) (.slice A na ca) (.int .i64 fb) (.slice B nb cb) 24
  have HSa := Lib.hid (hSa.below hb0)
  have HSb := Lib.hid (hSb.below hb0)
  have H0 := Lib.hid h0
  have HK0 := Lib.hid k0
  have HK1 := Lib.hid k1
  have HNA := Lib.hid hnaa
  have HNB := Lib.hid hnbb
  obtain ⟨c0, c1, _, _⟩ := box_cells k0
  obtain ⟨d0, d1, _, _⟩ := box_cells k1
  clear h0 k0 k1 hSa hSb hnaa hnbb
  by_cases hf : fa = fb
  case neg =>
    have f1 : (fa != fb) = true := by simp [hf]
    have HG := Lib.hid (show decide (fa = fb ∧ la = lb) = false by simp [hf])
    clear hf
    go_enter Tryd.func17, Tryd.ntmps17
    go_wp2
    rw [← H0.out]
    go_ret
    exact ⟨ret_bool HG.out.symm, hb0⟩
  have f1 : (fa != fb) = false := by simp [hf]
  by_cases hn : na = nb
  case neg =>
    have f2 : ((na : Int) != (nb : Int)) = true := by simp; omega
    have HG := Lib.hid (show decide (fa = fb ∧ la = lb) = false by
      simp; intro _ e; apply hn; rw [← HNA.out, ← HNB.out, e])
    clear hf hn
    go_enter Tryd.func17, Tryd.ntmps17
    go_wp2
    rw [← H0.out]
    go_ret
    exact ⟨ret_bool HG.out.symm, hb0⟩
  subst hn
  subst hf
  obtain ⟨res, hres⟩ : ∃ res, decide (fa = fa ∧ la = lb) = res := ⟨_, rfl⟩
  have HR := Lib.hid (show decide (la = lb) = res by rw [← hres]; simp)
  rw [hres]
  clear hres
  go_enter Tryd.func17, Tryd.ntmps17
  go_wp2
  rw [← H0.out]
  go_loopw [5] (fun i wr => ∃ k : Nat, k ≤ na ∧ i = .int .i64 k ∧ Below w0.heap.size w0 wr ∧ decide (la.drop k = lb.drop k) = res) (fun i _ => na - (intOf i).toNat)
  case atStart => exact ⟨0, by omega, rfl, Below.refl _ _, HR.out⟩
  case round =>
    obtain ⟨k, hk, rfl, hbw, hno⟩ := hrel
    have HN := Lib.hid hno
    clear hno
    have hbf := Lib.hid (show Below w.heap.size w wr from hb0.trans (hbw.mono hb0.size))
    obtain ⟨x0, x1, _, _⟩ := box_cells ((hbw.block w.heap.size (by omega)).trans HK0.out)
    obtain ⟨y0, y1, _, _⟩ := box_cells ((hbw.block (w.heap.size + 1) (by omega)).trans HK1.out)
    by_cases hlt : k < na
    · obtain ⟨b, off, rfl, hb, hcell⟩ := (HSa.out.below hbw).get (k := k) (by have := HNA.out; omega)
      obtain ⟨b', off', rfl, hb', hcell'⟩ := (HSb.out.below hbw).get (k := k) (by have := HNB.out; omega)
      have hda := Lib.hid (P.drop_getD (ls := la) (k := k) (by have := HNA.out; omega))
      have hdb := Lib.hid (P.drop_getD (ls := lb) (k := k) (by have := HNB.out; omega))
      generalize la.getD k [] = s at *
      generalize lb.getD k [] = t at *
      have hk0 : (0 : Int) ≤ (k : Int) := by omega
      have hk1 : (k : Int) < (na : Int) := by omega
      cases hst : (s == t)
      · have hst' := Lib.hid (show s ≠ t by simpa using hst)
        have hst2 : (s != t) = true := by rw [bne, hst]; rfl
        go_wp2
        go_region
        all_goals go_wp2
        all_goals
          go_ret
          refine ⟨ret_bool ?_, hbf.out.drew⟩
          rw [← HN.out, hda.out, hdb.out]
          simp [hst'.out]
      · have hst' := Lib.hid (show s = t by simpa using hst)
        have hst2 : (s != t) = false := by rw [bne, hst]; rfl
        go_wp2
        go_region
        all_goals go_wp2
        all_goals
          go_roundw
          case rel =>
            refine ⟨k + 1, by omega, by go_num, hbw.drew, ?_⟩
            rw [← HN.out, hda.out, hdb.out, hst'.out]
            simp
          case measure => simp [intOf]; omega
    · have e1 := Lib.hid (show la.drop k = [] from List.drop_eq_nil_of_le (by have := HNA.out; omega))
      have e2 := Lib.hid (show lb.drop k = [] from List.drop_eq_nil_of_le (by have := HNB.out; omega))
      go_wp2
      go_ret
      exact ⟨ret_bool (by rw [← HN.out, e1.out, e2.out]; rfl), hbf.out⟩
end W
end Go.Proofs.YtbiilbdflmiehaaDoor
