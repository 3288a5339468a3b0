/- Chapter 10: the reference's Delimiter. -/
import Derived.Test.YtggjhkmokgliaaaDoorW10r
namespace Go.Proofs.YtggjhkmokgliaaaDoor
open Go.RowKit K
namespace W
set_option maxRecDepth 100000 in
set_option maxHeartbeats 1000000 in
theorem DelimiterR_any (s : List UInt8) (w : World) (hl : s.length ≤ 10000) : Calls Tryd.prog 11 #[.string ⟨s.toArray⟩] w fun e w' => e = .returned (.string ⟨(P.delP s).toArray⟩) ∧ w = w' := by
  obtain ⟨k, hk1, hk2, hk3⟩ := P.delK_ex (P.bare s)
  have hks : k ≤ s.length := Nat.le_trans hk1 (P.bare_len s)
  have HP := Lib.hid (show P.delP s = P.eofT k by unfold P.delP; rw [P.delK_eq hk2 hk3])
  have HA := Lib.hid hk2
  have HN := Lib.hid hk3
  have H0 := Lib.hid (has_any s [69, 79, 70] w hl)
  clear hk1 hk2 hk3
  go_enter Tryd.func11, Tryd.ntmps11
  go_wp2_with fail
  refine H0.out.mono ?_
  rintro e w1 ⟨rfl, rfl⟩
  rcases Nat.eq_zero_or_pos k with rfl | hpos
  · have h0 : decide ([69, 79, 70] ∈ P.bare s) = false := decide_eq_false HN.out
    rw [h0]
    go_wp2
    go_ret
    exact ⟨ret_str (by rw [HP.out]; rfl), rfl⟩
  · have h0 : decide ([69, 79, 70] ∈ P.bare s) = true := decide_eq_true (HA.out 0 hpos)
    rw [h0]
    go_wp2
    go_loop [3] (fun v => ∃ i : Nat, v = .int .i64 i ∧ 1 ≤ i ∧ i ≤ k) (fun v => k - (intOf v).toNat)
    case atStart => exact ⟨1, rfl, Nat.le_refl _, hpos⟩
    case round =>
      obtain ⟨i, rfl, hi1, hi2⟩ := hrel
      have HE := Lib.hid (show P.eofT i = 69 :: 79 :: 70 :: Lib.decDigits i by obtain ⟨j, rfl⟩ : ∃ j, i = j + 1 := ⟨i - 1, by omega⟩; exact P.eofT_succ j)
      have HNU := Lib.hid (number_any i i (Nat.le_refl _) (by omega) w)
      have hlen : (Lib.decDigits i).length ≤ 100002 := by have := P.nDig_le i i (Nat.le_refl _); rw [Lib.decDigits_length]; omega
      have HH := Lib.hid (has_any s (69 :: 79 :: 70 :: Lib.decDigits i) w hl)
      have i1 : ((i : Int) ≤ (s.length : Int)) = True := eq_true (by omega)
      go_wp2_with fail
      refine HNU.out.mono ?_
      rintro e w1 ⟨rfl, rfl⟩
      go_wp2_with fail
      refine HH.out.mono ?_
      rintro e w2 ⟨rfl, rfl⟩
      rcases Nat.lt_or_ge i k with hik | hik
      · have hb : decide ((69 :: 79 :: 70 :: Lib.decDigits i) ∈ P.bare s) = true := decide_eq_true (by rw [← HE.out]; exact HA.out i hik)
        rw [hb]
        go_wp2
        refine ⟨⟨i + 1, by go_num, by omega, by omega⟩, ?_⟩
        simp [intOf]
        omega
      · obtain rfl : i = k := by omega
        have hb : decide ((69 :: 79 :: 70 :: Lib.decDigits i) ∈ P.bare s) = false := decide_eq_false (by rw [← HE.out]; exact HN.out)
        rw [hb]
        go_wp2_with fail
        refine HNU.out.mono ?_
        rintro e w3 ⟨rfl, rfl⟩
        go_wp2
        go_ret
        exact ⟨ret_str (by rw [HP.out, HE.out]), rfl⟩
set_option maxRecDepth 100000 in
set_option maxHeartbeats 2000000 in
theorem HeredocDelimiters_any (s : List UInt8) (w : World) (hw : Env w) : Calls Tryd.prog 4 #[.string ⟨s.toArray⟩] w fun e w' => e = .returned (.bool true) ∧ Below w.heap.size w w' := by
  go_enter Tryd.func4, Tryd.ntmps4
  rcases Nat.lt_or_ge 1000 s.length with h | h
  · have h' : ((1000 : Int) < (s.length : Int)) = True := eq_true (by omega)
    go_wp2_with fail
    refine (awake_any _ hw).mono ?_
    rintro e w1 ⟨rfl, hb⟩
    go_wp2
    go_ret
    exact ⟨rfl, hb⟩
  · have h' : ((1000 : Int) < (s.length : Int)) = False := eq_false (by omega)
    have h1 := Lib.hid (Delimiter_any s w (by omega) hw)
    have h2 := Lib.hid (fun v => DelimiterR_any s v (by omega))
    generalize P.delP s = d at h1 h2
    go_wp2_with fail
    refine h1.out.mono ?_
    rintro e w1 ⟨rfl, hb1⟩
    have HB1 := Lib.hid hb1
    clear hb1
    go_wp2_with fail
    refine (h2.out _).mono ?_
    rintro e w1' ⟨rfl, rfl⟩
    go_wp2_with fail
    refine (awake_any _ (hw.below HB1.out)).mono ?_
    rintro e w3 ⟨rfl, hb3⟩
    have HB3 := Lib.hid (btr HB1.out hb3)
    clear hb3
    go_wp2
    go_ret
    exact ⟨rfl, HB3.out⟩
end W
end Go.Proofs.YtggjhkmokgliaaaDoor
