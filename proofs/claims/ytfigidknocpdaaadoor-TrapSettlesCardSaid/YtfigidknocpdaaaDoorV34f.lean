/- Chapter 34: the law TrapSettles, walked. -/
import Derived.Test.YtfigidknocpdaaaDoorV34e
namespace Go.Proofs.YtfigidknocpdaaaDoor
open Go.RowKit K
namespace W
set_option maxHeartbeats 2000000 in
set_option maxRecDepth 100000 in
theorem TrapSettles_any (v1 : Value) (t1 : List Tr) (v2 : Value) (t2 : List Tr) (talks : Bool) (w : World) (hV1 : TV w v1 t1) (hS1 : ∀ t ∈ t1, t.2.length ≤ 140737488351232) (hV2 : TV w v2 t2) (hS2 : ∀ t ∈ t2, t.2.length ≤ 140737488351232) (hw : Env w) :
    Calls Tryd.prog 7 #[v1, v2, .bool talks] w fun e w' => e = .returned (.bool true) ∧ Below w.heap.size w w' := by
  have HA := Lib.hid (fun w' (hb : Below w.heap.size w w') => awake_any w' (hw.below hb))
  have HOK := Lib.hid (ok_any v1 t1 w hV1 hS1)
  have HOK2 := Lib.hid (fun w' (hb : Below w.heap.size w w') => ok_any v2 t2 w' (hV2.below hb) hS2)
  obtain ⟨A, c, hv1, -⟩ := id hV1
  obtain ⟨A', c', hv2, -⟩ := id hV2
  cases hok : P.okB t1 with
  | false =>
    rw [hok] at HOK
    subst hv1 hv2
    clear hok hS1 hS2 hw hV1 hV2
    go_enter Tryd.func7, Tryd.ntmps7
    go_wp2_with fail; refine (HOK.out).mono ?_; rintro e w1 ⟨rfl, hb⟩
    have HB := Lib.hid hb
    clear hb
    go_wp2_with fail
    refine (HA.out _ HB.out).mono ?_
    rintro e w2 ⟨rfl, hb2⟩
    have HB2 := Lib.hid (btr HB.out hb2)
    clear hb2
    go_wp2
    go_ret
    exact ⟨rfl, HB2.out⟩
  | true =>
    rw [hok] at HOK
    cases hok2 : P.okB t2 with
    | false =>
      rw [hok2] at HOK2
      subst hv1 hv2
      clear hok hok2 hS1 hS2 hw hV1 hV2
      go_enter Tryd.func7, Tryd.ntmps7
      go_wp2_with fail; refine (HOK.out).mono ?_; rintro e w1 ⟨rfl, hb⟩
      have HB := Lib.hid hb
      clear hb
      go_wp2_with fail
      refine (HOK2.out _ HB.out).mono ?_
      rintro e w2 ⟨rfl, hb2⟩
      have HB2 := Lib.hid (btr HB.out hb2)
      clear hb2
      go_wp2_with fail
      refine (HA.out _ HB2.out).mono ?_
      rintro e w3 ⟨rfl, hb3⟩
      have HB3 := Lib.hid (btr HB2.out hb3)
      clear hb3
      go_wp2
      go_ret
      exact ⟨rfl, HB3.out⟩
    | true =>
      rw [hok2] at HOK2
      obtain ⟨hn1, hr1, -⟩ := P.ok_len hok
      obtain ⟨hn2, hr2, -⟩ := P.ok_len hok2
      have H1 := Lib.hid (fun w' (hb : Below w.heap.size w w') => (Requests_any v1 v2 t1 t2 talks w' (hV1.below hb) (hV2.below hb) (by omega) (by omega) (P.right_in hr1) (P.right_in hr2) (hw.below hb)).mono fun _ _ h => h.q)
      have H2 := Lib.hid (fun w' (hb : Below w.heap.size w w') => (Requests_any v2 v1 t2 t1 talks w' (hV2.below hb) (hV1.below hb) (by omega) (by omega) (P.right_in hr2) (P.right_in hr1) (hw.below hb)).mono fun _ _ h => h.q)
      have H3 := Lib.hid (fun w' (hb : Below w.heap.size w w') => (Requests_any v2 v2 t2 t2 talks w' (hV2.below hb) (hV2.below hb) (by omega) (by omega) (P.right_in hr2) (P.right_in hr2) (hw.below hb)).mono fun _ _ h => h.q)
      rw [P.requests_self] at H3
      have hback := P.requests_back t1 t2 talks
      have hrl := P.requests_len hr1 hr2 talks
      have HGD := Lib.hid (P.requests_good hr1 hr2 talks)
      generalize P.requests t2 t1 talks = R2 at H2 hback
      generalize P.requests t1 t2 talks = R at H1 hrl hback HGD
      obtain ⟨n, hRn⟩ : ∃ n, R.length = n := ⟨_, rfl⟩
      have HRN := Lib.hid hRn
      unfold MPost' at H1 H2 H3
      rw [hback] at H2
      rw [hRn] at H1 H2 hrl
      subst hv1 hv2
      clear hok hok2 hS1 hS2 hw hV1 hV2 hn1 hn2 hr1 hr2 hRn hback
      go_enter Tryd.func7, Tryd.ntmps7
      go_wp2_with fail; refine (HOK.out).mono ?_; rintro e w1 ⟨rfl, hb⟩
      have HB := Lib.hid hb
      clear hb
      go_wp2_with fail
      refine (HOK2.out _ HB.out).mono ?_
      rintro e w2 ⟨rfl, hb2⟩
      have HB2 := Lib.hid (btr HB.out hb2)
      clear hb2
      go_wp2_with fail
      refine (H1.out _ HB2.out).mono ?_
      rintro e w3 ⟨A3, c3, rfl, hq3, hb3⟩
      have HB3 := Lib.hid (btr HB2.out hb3)
      have HQ3 := Lib.hid hq3
      clear hq3 hb3
      go_wp2
      go_loopw [8] (fun i wr => ∃ k : Nat, k ≤ n ∧ i = .int .i64 k ∧ Below w3.heap.size w3 wr) (fun i _ => n - (intOf i).toNat)
      case atStart => exact ⟨0, by omega, rfl, Below.refl _ _⟩
      case round =>
        obtain ⟨k, hk, rfl, hbw⟩ := hrel
        have HBw := Lib.hid hbw
        by_cases hlt : k < n
        · obtain ⟨g, rfl, hg, hc⟩ := (HQ3.out.below hbw) k (by rw [HRN.out]; exact hlt)
          obtain ⟨q1, q2, q3, q4, -⟩ := P.goodR_at HGD.out k (by rw [HRN.out]; exact hlt)
          obtain ⟨⟨z, d⟩, hr⟩ : ∃ r, R.getD k (0, 0) = r := ⟨_, rfl⟩
          have HR := Lib.hid hr
          rw [hr] at hc q1 q2 q3 q4
          simp only at q1 q2 q3 q4
          have a0 := hc 0 _ rfl
          have a5 := hc 5 _ rfl
          have a6 := hc 6 _ rfl
          have k0 : (0 : Int) ≤ (k : Int) := by omega
          have k1 : (k : Int) < (n : Int) := by omega
          have d1 : decide (d < 0) = false := by simp; omega
          have d2 : decide (2 < d) = false := by simp; omega
          have d3 : (z == 9) = false := by simpa using q1
          have d4 : (z == 19) = false := by simpa using q2
          simp only [Nat.add_zero] at a0
          clear hc hr q1 q2 q3 q4
          rcases Nat.eq_zero_or_pos k with hk0 | hk0
          · subst hk0
            simp only [Nat.zero_mul, Nat.zero_add] at a0 a5 a6
            clear hbw
            go_wp2_with fail
            go_quiet (fail)
            go_wp2
            go_roundw
            case rel => exact ⟨0 + 1, by omega, by go_num, bdN HBw.out _⟩
            case measure => simp [intOf]; omega
          · obtain ⟨j, rfl⟩ : ∃ j, k = j + 1 := ⟨k - 1, by omega⟩
            obtain ⟨g', hgg, -, hcj⟩ := (HQ3.out.below hbw) j (by rw [HRN.out]; omega)
            simp at hgg
            subst hgg
            have hnx := P.goodR_next HGD.out j (by rw [HRN.out]; exact hlt)
            rw [HR.out] at hnx
            obtain ⟨⟨zp, dp⟩, hrp⟩ : ∃ r, R.getD j (0, 0) = r := ⟨_, rfl⟩
            rw [hrp] at hcj hnx
            simp only at hnx
            have p5 := hcj 5 _ rfl
            have j0 : (0 : Int) ≤ (j : Int) := by omega
            have j1 : (j : Int) < (n : Int) := by omega
            have jk : (0 : Int) < (j : Int) + 1 := by omega
            have d5 : decide (z ≤ zp) = false := by simp; omega
            clear hcj hrp hnx hbw
            go_wp2_with fail
            go_quiet (fail)
            go_wp2
            go_roundw
            case rel => exact ⟨j + 1 + 1, by omega, by go_num, bdN HBw.out _⟩
            case measure => simp [intOf]; omega
        · clear hbw
          go_wp2_with fail
          refine (H2.out _ (btr HB3.out HBw.out)).mono ?_
          rintro e w4 ⟨A4, c4, rfl, -, hb4⟩
          have HB4 := Lib.hid (btr (btr HB3.out HBw.out) hb4)
          clear hb4
          go_wp2_with fail
          refine (H3.out _ HB4.out).mono ?_
          rintro e w5 ⟨A5, c5, rfl, -, hb5⟩
          have HB5 := Lib.hid (btr HB4.out hb5)
          have e2 : ((n : Int) == (n : Int)) = true := by simp
          clear hb5
          go_wp2_with fail
          refine (HA.out _ HB5.out).mono ?_
          rintro e w6 ⟨rfl, hb6⟩
          have HB6 := Lib.hid (btr HB5.out hb6)
          clear hb6
          go_wp2
          go_ret
          exact ⟨rfl, HB6.out⟩
end W
end Go.Proofs.YtfigidknocpdaaaDoor
