/- Chapter 10: the reference's Strip; the law HeredocStrips. -/
import Derived.Test.YtggjhkmokgliaaaDoorW10o
namespace Go.Proofs.YtggjhkmokgliaaaDoor
open Go.RowKit K
namespace W
theorem bt_is {s : List UInt8} {k : Nat} {x : UInt8} (hb : bt s k = (x.toNat : Int)) (c : UInt8) : bt s k = (c.toNat : Int) ↔ x = c := by
  rw [hb]
  exact ⟨fun h => UInt8.toNat_inj.1 (by omega), fun h => by rw [h]⟩
theorem bt_is10 {s : List UInt8} {k : Nat} {x : UInt8} (hb : bt s k = (x.toNat : Int)) : (bt s k == 10) = decide (x = 10) := by
  have := bt_is hb 10
  rw [Bool.eq_iff_iff, beq_iff_eq, decide_eq_true_eq]
  exact this
set_option maxRecDepth 100000 in
theorem StripR_any (s : List UInt8) (w : World) (hl : s.length ≤ 10000) : Calls Tryd.prog 9 #[.string ⟨s.toArray⟩] w fun e w' => e = .returned (.string ⟨(P.stripR true s).toArray⟩) ∧ w = w' := by
  go_enter Tryd.func9, Tryd.ntmps9
  go_wp2
  go_loop [3, 4, 5] (fun o b i => ∃ (k : Nat) (out : List UInt8) (bg : Bool), k ≤ s.length ∧ i = .int .i64 k ∧ o = .string ⟨out.toArray⟩ ∧ b = .bool bg ∧ out.length ≤ k ∧ Hid (out ++ P.stripR bg (s.drop k) = P.stripR true s)) (fun _ _ i => s.length - (intOf i).toNat)
  case atStart => exact ⟨0, [], true, Nat.zero_le _, rfl, rfl, rfl, Nat.le_refl _, by show _ = _; simp⟩
  case round =>
    obtain ⟨k, out, bg, hk, rfl, rfl, rfl, ho, HN⟩ := hrel
    by_cases hlt : k < s.length
    · obtain ⟨x, hx, hb, _⟩ := drop_cons s k hlt
      have HX := Lib.hid hx
      have HB := Lib.hid hb
      have hc : cut s k (k + 1) = [x] := by rw [cut_one s k hlt, by8_bt hb]
      clear hx hb
      rcases (show bg = false ∨ bg = true by cases bg <;> simp) with rfl | rfl
      · go_wp2
        all_goals go_round
        case rel => exact ⟨k + 1, out ++ [x], _, by omega, by go_num, rfl, rfl, by simp; omega, by show _ = _; rw [← HN.out, HX.out, bt_is10 HB.out]; simp [P.stripR]⟩
        case measure => simp [intOf]; omega
      · by_cases h9 : bt s k = 9
        · go_wp2
          go_round
          case rel => exact ⟨k + 1, out, true, by omega, by go_num, rfl, rfl, by omega, by show _ = _; rw [← HN.out, HX.out]; have := (bt_is HB.out 9).1 h9; subst this; simp [P.stripR]⟩
          case measure => simp [intOf]; omega
        · go_wp2
          go_round
          case rel => exact ⟨k + 1, out ++ [x], _, by omega, by go_num, rfl, rfl, by simp; omega, by show _ = _; rw [← HN.out, HX.out, bt_is10 HB.out]; have := mt (bt_is HB.out 9).2 h9; simp [P.stripR, this]⟩
          case measure => simp [intOf]; omega
    · go_wp2
      go_ret
      exact ⟨ret_str (by rw [← HN.out, List.drop_eq_nil_of_le (by omega)]; simp [P.stripR]), rfl⟩
end W
end Go.Proofs.YtggjhkmokgliaaaDoor
