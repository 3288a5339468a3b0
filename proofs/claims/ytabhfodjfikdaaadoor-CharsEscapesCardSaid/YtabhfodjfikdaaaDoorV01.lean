/- Chapter 1: the walks of the laws. -/
import Derived.Test.YtabhfodjfikdaaaDoorW01w
import Derived.Test.YtabhfodjfikdaaaDoorP01d
namespace Go.Proofs.YtabhfodjfikdaaaDoor
open Go.RowKit K
namespace W

theorem CharsNames_walk (l : List UInt8) (w : World) (hw : Env w) :
    Calls Tryd.prog 3 #[.string ⟨l.toArray⟩] w fun e w' => e = .returned (.bool true) ∧ Below w.heap.size w w' := by
  have HA := Lib.hid awake_any
  by_cases hl : 1000 < l.length
  · go_enter Tryd.func3, Tryd.ntmps3
    go_wp2_with fail
    refine (HA.out _ hw).mono ?_
    rintro e w1 ⟨rfl, hb1⟩
    go_wp2
    go_ret
    exact ⟨rfl, hb1⟩
  · have hl2 : l.length ≤ 1000 := by omega
    have h1 := Lib.hid (fun w => Digits_any l w (by omega))
    have h2 := Lib.hid (fun w => Digits_ref l w (by omega))
    have h3 := Lib.hid (fun w => Name_any l w (by omega))
    have h4 := Lib.hid (fun w => Name_ref l w (by omega))
    have h5 := Lib.hid (fun w => Plain_any l w (by omega))
    have h6 := Lib.hid (fun w => Plain_ref l w (by omega))
    have hd := Lib.hid (P.digitsI_eq l)
    go_enter Tryd.func3, Tryd.ntmps3
    go_wp2_with fail
    refine (h1.out _).mono ?_
    rintro e w1 ⟨rfl, hb1⟩
    rw [hd.out]
    have t1 := Lib.hid (hw.below hb1)
    simp only [optInt]
    go_wp2_with fail
    refine (h2.out _).mono ?_
    rintro e w' ⟨rfl, rfl⟩
    simp only [optInt]
    go_wp2_with fail
    refine (h3.out _).mono ?_
    rintro e w2 ⟨rfl, hb2⟩
    have t2 := Lib.hid (t1.out.below hb2)
    go_wp2_with fail
    refine (h4.out _).mono ?_
    rintro e w' ⟨rfl, rfl⟩
    go_wp2_with fail
    refine (h5.out _).mono ?_
    rintro e w3 ⟨rfl, hb3⟩
    have t3 := Lib.hid (t2.out.below hb3)
    go_wp2_with fail
    refine (h6.out _).mono ?_
    rintro e w' ⟨rfl, rfl⟩
    go_wp2_with fail
    refine (HA.out _ t3.out).mono ?_
    rintro e w4 ⟨rfl, hb4⟩
    go_wp2
    go_ret
    exact ⟨rfl, btr (btr (btr hb1 hb2) hb3) hb4⟩

theorem CharsQuotes_walk (l : List UInt8) (w : World) (hw : Env w) :
    Calls Tryd.prog 4 #[.string ⟨l.toArray⟩] w fun e w' => e = .returned (.bool true) ∧ Below w.heap.size w w' := by
  have HA := Lib.hid awake_any
  by_cases hl : 1000 < l.length
  · go_enter Tryd.func4, Tryd.ntmps4
    go_wp2_with fail
    refine (HA.out _ hw).mono ?_
    rintro e w1 ⟨rfl, hb1⟩
    go_wp2
    go_ret
    exact ⟨rfl, hb1⟩
  · have hl2 : l.length ≤ 1000 := by omega
    have h1 := Lib.hid (fun w h => Quote_any l w (by omega) h)
    have h2 := Lib.hid (fun w => Quote_ref l w (by omega))
    have h3 := Lib.hid (fun w => Plain_any l w (by omega))
    have hq := P.quote_iff l
    go_enter Tryd.func4, Tryd.ntmps4
    go_wp2_with fail
    refine (h1.out _ hw).mono ?_
    rintro e w1 ⟨rfl, hb1⟩
    have t1 := Lib.hid (hw.below hb1)
    go_wp2_with fail
    refine (h2.out _).mono ?_
    rintro e w' ⟨rfl, rfl⟩
    go_wp2_with fail
    refine (h3.out _).mono ?_
    rintro e w2 ⟨rfl, hb2⟩
    have t2 := Lib.hid (t1.out.below hb2)
    go_wp2_with fail
    refine (HA.out _ t2.out).mono ?_
    rintro e w3 ⟨rfl, hb3⟩
    go_wp2
    go_ret
    exact ⟨rfl, btr (btr hb1 hb2) hb3⟩

theorem CharsUnquotes_walk (l : List UInt8) (w : World) (hw : Env w) :
    Calls Tryd.prog 5 #[.string ⟨l.toArray⟩] w fun e w' => e = .returned (.bool true) ∧ Below w.heap.size w w' := by
  have HA := Lib.hid awake_any
  by_cases hl : 1000 < l.length
  · go_enter Tryd.func5, Tryd.ntmps5
    go_wp2_with fail
    refine (HA.out _ hw).mono ?_
    rintro e w1 ⟨rfl, hb1⟩
    go_wp2
    go_ret
    exact ⟨rfl, hb1⟩
  · have hl2 : l.length ≤ 1000 := by omega
    have h1 := Lib.hid (fun w => Unquote_any l w (by omega))
    have h2 := Lib.hid (fun w => Unquote_ref l w (by omega))
    cases hu : P.unquote l with
    | ok a =>
      have HU := Lib.hid hu
      clear hu
      go_enter Tryd.func5, Tryd.ntmps5
      go_wp2_with fail
      refine (h1.out _).mono ?_
      rintro e w1 ⟨rfl, hb1⟩
      rw [HU.out]
      simp only [strErr]
      have t1 := Lib.hid (hw.below hb1)
      go_wp2_with fail
      refine (h2.out _).mono ?_
      rintro e w' ⟨rfl, rfl⟩
      rw [HU.out]
      simp only [strErr]
      go_wp2_with fail
      refine (HA.out _ t1.out).mono ?_
      rintro e w3 ⟨rfl, hb3⟩
      go_wp2
      go_ret
      exact ⟨rfl, btr hb1 hb3⟩
    | error z =>
      have HU := Lib.hid hu
      clear hu
      go_enter Tryd.func5, Tryd.ntmps5
      go_wp2_with fail
      refine (h1.out _).mono ?_
      rintro e w1 ⟨rfl, hb1⟩
      rw [HU.out]
      simp only [strErr]
      have t1 := Lib.hid (hw.below hb1)
      go_wp2_with fail
      refine (h2.out _).mono ?_
      rintro e w' ⟨rfl, rfl⟩
      rw [HU.out]
      simp only [strErr]
      go_wp2_with fail
      refine (HA.out _ t1.out).mono ?_
      rintro e w3 ⟨rfl, hb3⟩
      go_wp2
      go_ret
      exact ⟨rfl, btr hb1 hb3⟩

theorem CharsBack_walk (s t : List UInt8) (w : World) (hw : Env w) :
    Calls Tryd.prog 6 #[.string ⟨s.toArray⟩, .string ⟨t.toArray⟩] w fun e w' => e = .returned (.bool true) ∧ Below w.heap.size w w' := by
  have HA := Lib.hid awake_any
  by_cases hl : 1000 < s.length
  · go_enter Tryd.func6, Tryd.ntmps6
    go_wp2_with fail
    refine (HA.out _ hw).mono ?_
    rintro e w1 ⟨rfl, hb1⟩
    go_wp2
    go_ret
    exact ⟨rfl, hb1⟩
  by_cases hl3 : 1000 < t.length
  · go_enter Tryd.func6, Tryd.ntmps6
    go_wp2_with fail
    refine (HA.out _ hw).mono ?_
    rintro e w1 ⟨rfl, hb1⟩
    go_wp2
    go_ret
    exact ⟨rfl, hb1⟩
  have hl2 : s.length ≤ 1000 := by omega
  have hl4 : t.length ≤ 1000 := by omega
  have q1 := P.quote_le s
  have q2 := P.quote_le t
  have h1 := Lib.hid (fun w h => Quote_any s w (by omega) h)
  have h2 := Lib.hid (fun w h => Quote_any t w (by omega) h)
  have h3 := Lib.hid (fun w => Unquote_any (P.quote s ++ P.quote t) w (by simp; omega))
  have HB := Lib.hid (P.back s t)
  go_enter Tryd.func6, Tryd.ntmps6
  go_wp2_with fail
  refine (h1.out _ hw).mono ?_
  rintro e w1 ⟨rfl, hb1⟩
  have t1 := Lib.hid (hw.below hb1)
  go_wp2_with fail
  refine (h2.out _ t1.out).mono ?_
  rintro e w2 ⟨rfl, hb2⟩
  have t2 := Lib.hid (t1.out.below hb2)
  go_wp2_with fail
  refine (h3.out _).mono ?_
  rintro e w3 ⟨rfl, hb3⟩
  have t3 := Lib.hid (t2.out.below hb3)
  rw [HB.out]
  simp only [strErr]
  go_wp2_with fail
  refine (HA.out _ t3.out).mono ?_
  rintro e w4 ⟨rfl, hb4⟩
  go_wp2
  go_ret
  exact ⟨rfl, btr (btr (btr hb1 hb2) hb3) hb4⟩

theorem CharsDoubles_walk (l : List UInt8) (w : World) (hw : Env w) :
    Calls Tryd.prog 7 #[.string ⟨l.toArray⟩] w fun e w' => e = .returned (.bool true) ∧ Below w.heap.size w w' := by
  have HA := Lib.hid awake_any
  by_cases hl : 1000 < l.length
  · go_enter Tryd.func7, Tryd.ntmps7
    go_wp2_with fail
    refine (HA.out _ hw).mono ?_
    rintro e w1 ⟨rfl, hb1⟩
    go_wp2
    go_ret
    exact ⟨rfl, hb1⟩
  · have hl2 : l.length ≤ 1000 := by omega
    have HD := Lib.hid (P.doubles l)
    go_enter Tryd.func7, Tryd.ntmps7
    go_wp2
    go_loop [3, 4] (fun o i => ∃ (k : Nat) (q : List UInt8), k ≤ l.length ∧ i = .int .i64 k ∧ o = .string ⟨q.toArray⟩ ∧ q.length ≤ 2 * k + 1 ∧ q ++ P.dqBody (l.drop k) = 34 :: P.dqBody l) (fun _ i => l.length - (intOf i).toNat)
    case atStart => exact ⟨0, [34], by omega, rfl, rfl, by simp, by simp⟩
    case round =>
      obtain ⟨k, q, hk, rfl, rfl, hq, hno⟩ := hrel
      have HN := Lib.hid hno
      clear hno
      by_cases hlt : k < l.length
      · obtain ⟨x, hx, hb, _⟩ := drop_cons l k hlt
        have HX := Lib.hid hx
        have HB : Hid (P.iv x = bt l k) := hb.symm
        have hcut := Lib.hid (show cut l k (k + 1) = [x] by rw [cut_one l k hlt, by8_bt hb])
        clear hx hb
        have HE := Lib.hid (show P.dqBody (x :: l.drop (k + 1)) = (if bt l k == 36 || bt l k == 96 || bt l k == 34 || bt l k == 92 then [92, x] else [x]) ++ P.dqBody (l.drop (k + 1)) by rw [P.dqBody, HB.out])
        go_wp2
        all_goals
          go_round
          case rel =>
            refine ⟨k + 1, _, by omega, by go_num, rfl, by simp; omega, ?_⟩
            rw [← HN.out, HX.out, HE.out, hcut.out]
            go_light
            simp_all
          case measure => simp [intOf]; omega
      · have HE := Lib.hid (drop_end l k hlt)
        have HQ := Lib.hid (show q ++ [34] = 34 :: (P.dqBody l ++ [34]) by rw [← List.cons_append, ← HN.out, HE.out]; simp [P.dqBody])
        have h3 := Lib.hid (fun w => Unquote_any (q ++ [34]) w (by simp; omega))
        go_wp2_with fail
        refine (h3.out _).mono ?_
        rintro e w1 ⟨rfl, hb1⟩
        have t1 := Lib.hid (hw.below hb1)
        rw [HQ.out, HD.out]
        simp only [strErr]
        go_wp2_with fail
        refine (HA.out _ t1.out).mono ?_
        rintro e w2 ⟨rfl, hb2⟩
        go_wp2
        go_ret
        exact ⟨rfl, btr hb1 hb2⟩

theorem CharsEscapes_walk (l : List UInt8) (w : World) (hw : Env w) :
    Calls Tryd.prog 8 #[.string ⟨l.toArray⟩] w fun e w' => e = .returned (.bool true) ∧ Below w.heap.size w w' := by
  have HA := Lib.hid awake_any
  by_cases hl : 500 < l.length
  · go_enter Tryd.func8, Tryd.ntmps8
    go_wp2_with fail
    refine (HA.out _ hw).mono ?_
    rintro e w1 ⟨rfl, hb1⟩
    go_wp2
    go_ret
    exact ⟨rfl, hb1⟩
  · have hl2 : l.length ≤ 500 := by omega
    have h1 := Lib.hid (fun w => Escape_any l w (by omega))
    have h2 := Lib.hid (fun w => Escape_ref l w (by omega))
    have hle := P.escape_le l
    have h3 := Lib.hid (fun w => Unescape_any (P.escape l) w (by omega))
    have HU := Lib.hid (P.unescape_escape l)
    have HP := Lib.hid (P.escape_print l)
    obtain ⟨t, ht⟩ : ∃ t, P.escape l = t := ⟨_, rfl⟩
    rw [ht] at h1 h2 hle h3 HU HP
    clear ht
    go_enter Tryd.func8, Tryd.ntmps8
    go_wp2_with fail
    refine (h1.out _).mono ?_
    rintro e w1 ⟨rfl, hb1⟩
    have t1 := Lib.hid (hw.below hb1)
    go_wp2
    go_loop [4] (fun i => ∃ k : Nat, k ≤ t.length ∧ i = .int .i64 k) (fun i => t.length - (intOf i).toNat)
    case atStart => exact ⟨0, by omega, rfl⟩
    case round =>
      obtain ⟨k, hk, rfl⟩ := hrel
      by_cases hlt : k < t.length
      · obtain ⟨hp1, hp2⟩ := HP.out k hlt
        have hp3 : ¬ bt t k < 32 := by omega
        have hp4 : ¬ 126 < bt t k := by omega
        go_wp2
        go_round
        case rel => exact ⟨k + 1, by omega, by go_num⟩
        case measure => simp [intOf]; omega
      · go_wp2_with fail
        refine (h3.out _).mono ?_
        rintro e w2 ⟨rfl, hb2⟩
        have t2 := Lib.hid (t1.out.below hb2)
        rw [HU.out]
        simp only [strErr]
        go_wp2_with fail
        refine (h2.out _).mono ?_
        rintro e w3 ⟨rfl, hb3⟩
        have t3 := Lib.hid (t2.out.below hb3)
        go_wp2_with fail
        refine (HA.out _ t3.out).mono ?_
        rintro e w4 ⟨rfl, hb4⟩
        go_wp2
        go_ret
        exact ⟨rfl, btr (btr (btr hb1 hb2) hb3) hb4⟩
end W
end Go.Proofs.YtabhfodjfikdaaaDoor
