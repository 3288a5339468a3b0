/- Chapter 7: Skip, Operator, number, token. -/
import Derived.Test.YtelhobphphkidaaGreatDoorW07e
import Derived.Test.YtelhobphphkidaaGreatDoorP07b
namespace Go.Proofs.YtelhobphphkidaaGreatDoor
open Go.RowKit K
namespace W
set_option maxRecDepth 100000 in
set_option maxHeartbeats 1000000 in
theorem Skip_any (s : List UInt8) (x : Int) (w : World) (hl : s.length ≤ 100000) : Calls Tryz.prog 46 #[.string ⟨s.toArray⟩, .int .i64 x] w fun e w' => e = .returned (.int .i64 (LX.skipTo s (LX.clamp s x))) ∧ w = w' := by
  have HCL := Lib.hid (LX.clamp_eq s x)
  have hcl := LX.clamp_le s x
  generalize LX.clamp s x = a at HCL hcl
  obtain ⟨R, hR⟩ : ∃ R, R = LX.skipTo s a := ⟨_, rfl⟩
  have HR := Lib.hid (show LX.skip (s.length + 1) s a = R from hR.symm)
  rw [← hR]
  clear hR
  go_enter Tryz.func46, Tryz.ntmps46
  go_wp2
  go_loop [1] (fun v => ∃ i g : Nat, v = .int .i64 i ∧ i ≤ s.length ∧ Hid (s.length - i + 1 ≤ g ∧ LX.skip g s i = R)) (fun v => s.length - (intOf v).toNat)
  case atStart => exact ⟨a, s.length + 1, by rw [HCL.out], hcl, by omega, HR.out⟩
  case round =>
    obtain ⟨i, g, rfl, hi, HG⟩ := hrel
    obtain ⟨g, rfl⟩ : ∃ g', g = g' + 1 := ⟨g - 1, by have := HG.out; omega⟩
    have HE := HG.out.2
    rw [LX.skip] at HE
    by_cases hlt : i < s.length
    · rw [if_pos hlt] at HE
      have HBL := Lib.hid (lx_blank (bt s i) w)
      have HJ := Lib.hid (lx_joins s i w hi hl)
      cases hb : LX.blank (bt s i) with
      | true =>
        rw [if_pos hb] at HE
        rw [hb] at HBL
        replace HE := Lib.hid HE
        clear hb
        go_wp2_with (go_at_call 75; refine HBL.out.mono ?_; rintro e w' ⟨rfl, rfl⟩)
        go_round
        case rel => exact ⟨i + 1, g, by go_num, by omega, by have := HG.out; omega, HE.out⟩
        case measure => simp [intOf]; omega
      | false =>
        rw [if_neg (by rw [hb]; simp)] at HE
        rw [hb] at HBL
        clear hb
        cases hj : LX.joins s i with
        | true =>
          rw [if_pos hj] at HE
          have hj2 := (LX.joins_iff.1 hj).2.2
          rw [hj] at HJ
          replace HE := Lib.hid HE
          clear hj
          go_wp2_with (first | (go_at_call 75; refine HBL.out.mono ?_; rintro e w' ⟨rfl, rfl⟩) | (go_at_call 76; refine HJ.out.mono ?_; rintro e w' ⟨rfl, rfl⟩))
          go_round
          case rel => exact ⟨i + 2, g, by go_num, by omega, by have := HG.out; omega, HE.out⟩
          case measure => simp [intOf]; omega
        | false =>
          rw [if_neg (by rw [hj]; simp)] at HE
          rw [hj] at HJ
          clear hj
          by_cases h35 : bt s i = 35
          · rw [if_pos h35] at HE
            have HCM := Lib.hid (lx_comment s i w hi hl)
            have hc1 := LX.comment_lt hlt (by rw [h35]; decide)
            have hc2 := LX.comment_le s i
            generalize LX.comment s i = j at HE HCM hc1 hc2
            replace HE := Lib.hid HE
            rw [h35] at HBL
            go_wp2_with (first | (go_at_call 75; refine HBL.out.mono ?_; rintro e w' ⟨rfl, rfl⟩) | (go_at_call 76; refine HJ.out.mono ?_; rintro e w' ⟨rfl, rfl⟩) | (go_at_call 77; refine HCM.out.mono ?_; rintro e w' ⟨rfl, rfl⟩))
            go_round
            case rel => exact ⟨j, g, rfl, hc2, by have := HG.out; omega, HE.out⟩
            case measure => simp [intOf]; omega
          · rw [if_neg h35] at HE
            replace HE := Lib.hid HE
            go_wp2_with (first | (go_at_call 75; refine HBL.out.mono ?_; rintro e w' ⟨rfl, rfl⟩) | (go_at_call 76; refine HJ.out.mono ?_; rintro e w' ⟨rfl, rfl⟩))
            go_ret
            exact ⟨ret_int (by rw [HE.out]), rfl⟩
    · rw [if_neg hlt] at HE
      replace HE := Lib.hid HE
      go_wp2
      go_ret
      exact ⟨ret_int (by rw [HE.out]), rfl⟩
set_option maxRecDepth 100000 in
set_option maxHeartbeats 1000000 in
theorem Operator_any (t : List UInt8) (w : World) : Calls Tryz.prog 48 #[.string ⟨t.toArray⟩] w fun e w' => e = .returned (.bool (LX.isOp t)) ∧ w = w' := by
  by_cases h : t ∈ LX.ops
  · have HR := Lib.hid (show LX.isOp t = true from decide_eq_true h)
    simp only [LX.ops, List.mem_cons, List.not_mem_nil, or_false] at h
    rcases h with rfl | rfl | rfl | rfl | rfl | rfl | rfl | rfl | rfl | rfl | rfl | rfl | rfl | rfl | rfl | rfl | rfl | rfl
    all_goals
      go_enter Tryz.func48, Tryz.ntmps48
      go_wp2
      go_ret
      exact ⟨ret_bool HR.out.symm, rfl⟩
  · have HR := Lib.hid (show LX.isOp t = false from decide_eq_false h)
    have hn : ∀ x ∈ LX.ops, (t == x) = false := fun x hx => by rw [beq_eq_false_iff_ne]; rintro rfl; exact h hx
    have n0 := hn [38, 38] (by decide)
    have n1 := hn [124, 124] (by decide)
    have n2 := hn [59] (by decide)
    have n3 := hn [59, 59] (by decide)
    have n4 := hn [38] (by decide)
    have n5 := hn [124] (by decide)
    have n6 := hn [40] (by decide)
    have n7 := hn [41] (by decide)
    have n8 := hn [60] (by decide)
    have n9 := hn [62] (by decide)
    have n10 := hn [60, 60] (by decide)
    have n11 := hn [60, 60, 45] (by decide)
    have n12 := hn [62, 62] (by decide)
    have n13 := hn [60, 38] (by decide)
    have n14 := hn [62, 38] (by decide)
    have n15 := hn [60, 62] (by decide)
    have n16 := hn [62, 124] (by decide)
    have n17 := hn [10] (by decide)
    clear hn h
    go_enter Tryz.func48, Tryz.ntmps48
    go_wp2
    go_ret
    exact ⟨ret_bool HR.out.symm, rfl⟩
theorem number_any (t : List UInt8) (w : World) (hl : t.length ≤ 100000) : Calls Tryz.prog 52 #[.string ⟨t.toArray⟩] w fun e w' => e = .returned (.bool (LX.number t)) ∧ w = w' := by
  go_enter Tryz.func52, Tryz.ntmps52
  go_wp2
  go_loop [3] (fun v => ∃ i : Nat, v = .int .i64 i ∧ i ≤ t.length ∧ Hid (LX.number t = LX.number (t.drop i))) (fun v => t.length - (intOf v).toNat)
  case atStart => exact ⟨0, rfl, Nat.zero_le _, by show _ = _; rw [List.drop_zero]⟩
  case round =>
    obtain ⟨i, rfl, hi, HN⟩ := hrel
    by_cases hlt : i < t.length
    · obtain ⟨x, hx, hb, _⟩ := drop_cons t i hlt
      have HD := Lib.hid (lx_digit (bt t i) w)
      have HX := Lib.hid (show LX.number (t.drop i) = (LX.digit (bt t i) && LX.number (t.drop (i + 1))) by rw [hx, hb]; rfl)
      clear hx hb
      cases hd : LX.digit (bt t i) with
      | true =>
        rw [hd] at HD HX
        clear hd
        go_wp2_with (go_at_call 87; refine HD.out.mono ?_; rintro e w' ⟨rfl, rfl⟩)
        go_round
        case rel => exact ⟨i + 1, by go_num, by omega, by show _ = _; rw [HN.out, HX.out, Bool.true_and]⟩
        case measure => simp [intOf]; omega
      | false =>
        rw [hd] at HD HX
        clear hd
        go_wp2_with (go_at_call 87; refine HD.out.mono ?_; rintro e w' ⟨rfl, rfl⟩)
        go_ret
        exact ⟨ret_bool (by rw [HN.out, HX.out, Bool.false_and]), rfl⟩
    · go_wp2
      go_ret
      exact ⟨ret_bool (by rw [HN.out, List.drop_eq_nil_of_le (by omega)]; rfl), rfl⟩
theorem token_any (s : List UInt8) (k p e : Nat) (w : World) (_hl : s.length ≤ 100000) (hp : p ≤ e) (he : e ≤ s.length) : Calls Tryz.prog 47 #[.string ⟨s.toArray⟩, .int .i64 k, .int .i64 p, .int .i64 e] w fun r w' => r = .returned (.agg #[.int .i64 k, .int .i64 p, .int .i64 e, .string ⟨(cut s p e).toArray⟩]) ∧ Below w.heap.size w w' := by
  have h1 : ((p : Int) ≤ (e : Int)) = True := eq_true (by omega)
  have h2 : ((e : Int) ≤ (s.length : Int)) = True := eq_true (by omega)
  go_enter Tryz.func47, Tryz.ntmps47
  go_wp2
  exact bodyPost_ret (v := .agg #[.int .i64 k, .int .i64 p, .int .i64 e, .string ⟨(cut s p e).toArray⟩]) (by simp [results, Tryz.results47, go_sem]) rfl ⟨rfl, balloc _ _⟩
end W
end Go.Proofs.YtelhobphphkidaaGreatDoor
