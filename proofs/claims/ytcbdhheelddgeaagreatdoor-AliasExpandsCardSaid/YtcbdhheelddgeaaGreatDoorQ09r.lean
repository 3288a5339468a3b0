/- The reference's letters, digits and look-up in a string (out of my texts on chapter 1). -/
import Derived.Test.YtcbdhheelddgeaaGreatDoorB
import Derived.Test.YtcbdhheelddgeaaGreatDoorZA
import Derived.Test.YtcbdhheelddgeaaGreatDoorShelf
namespace Go.Proofs.YtcbdhheelddgeaaGreatDoor
open Go.RowKit K
namespace W
theorem Letter_any (c : Int) (w : World) :
    Calls Tryz.prog 122 #[.int .u8 c] w fun e w' => e = .returned (.bool (P.lt c)) ∧ w = w' := by
  go_enter Tryz.func122, Tryz.ntmps122
  go_wp2
  all_goals go_ret
  all_goals exact ⟨ret_bool (by rw [Bool.eq_iff_iff]; simp [P.lt]; omega), rfl⟩
theorem Digit_any (c : Int) (w : World) :
    Calls Tryz.prog 109 #[.int .u8 c] w fun e w' => e = .returned (.bool (P.dg c)) ∧ w = w' := by
  go_enter Tryz.func109, Tryz.ntmps109
  go_wp2
  all_goals go_ret
  all_goals exact ⟨ret_bool (by rw [Bool.eq_iff_iff]; simp [P.dg]; try omega), rfl⟩
theorem Word_any (c : Int) (w : World) :
    Calls Tryz.prog 101 #[.int .u8 c] w fun e w' => e = .returned (.bool (P.wd c)) ∧ w = w' := by
  go_enter Tryz.func101, Tryz.ntmps101
  go_wp2_with (first | (go_at_call 122; refine (Letter_any _ _).mono ?_; rintro e w' ⟨rfl, rfl⟩) | (go_at_call 109; refine (Digit_any _ _).mono ?_; rintro e w' ⟨rfl, rfl⟩))
  all_goals go_ret
  all_goals exact ⟨ret_bool (by simp [P.wd, *]), rfl⟩
theorem Has_any (l : List UInt8) (c : Int) (w : World) (hl : l.length ≤ 1000000000) :
    Calls Tryz.prog 102 #[.string ⟨l.toArray⟩, .int .u8 c] w fun e w' => e = .returned (.bool (P.has l c)) ∧ w = w' := by
  go_enter Tryz.func102, Tryz.ntmps102
  go_wp2
  go_loop [5] (fun i => ∃ k : Nat, k ≤ l.length ∧ i = .int .i64 k ∧ P.has (l.drop k) c = P.has l c) (fun i => l.length - (intOf i).toNat)
  case atStart => exact ⟨0, Nat.zero_le _, rfl, by simp⟩
  case round =>
    obtain ⟨k, hk, rfl, hno⟩ := hrel
    have HN := Lib.hid hno
    clear hno
    by_cases hlt : k < l.length
    · obtain ⟨x, hx, hb, _⟩ := drop_cons l k hlt
      have HX := Lib.hid hx
      have HB := Lib.hid hb
      clear hx hb
      go_wp2
      · rename_i h _
        go_ret
        exact ⟨ret_bool (by rw [← HN.out, HX.out]; rw [HB.out] at h; simp [P.has, P.iv, h]), rfl⟩
      · rename_i h
        go_round
        case rel => exact ⟨k + 1, by omega, by go_num, by rw [← HN.out, HX.out]; rw [HB.out] at h; simp [P.has, P.iv, h]⟩
        case measure => simp [intOf]; omega
    · go_wp2
      go_ret
      exact ⟨ret_bool (by rw [← HN.out, List.drop_eq_nil_of_le (by omega)]; rfl), rfl⟩
end W
end Go.Proofs.YtcbdhheelddgeaaGreatDoor
