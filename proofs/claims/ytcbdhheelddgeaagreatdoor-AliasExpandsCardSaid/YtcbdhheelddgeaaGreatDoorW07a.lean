/- Chapter 7: the lexer's small functions. -/
import Derived.Test.YtcbdhheelddgeaaGreatDoorP07
import Derived.Test.YtcbdhheelddgeaaGreatDoorShelf
import Derived.Test.YtcbdhheelddgeaaGreatDoorB
import Derived.LoopTactic
namespace Go.Proofs.YtcbdhheelddgeaaGreatDoor
open Go.RowKit K
namespace W
theorem lx_blank (c : Int) (w : World) : Calls Tryz.prog 55 #[.int .u8 c] w fun e w' => e = .returned (.bool (LX.blank c)) ∧ w = w' := by
  go_enter Tryz.func55, Tryz.ntmps55
  go_wp2
  all_goals go_ret
  all_goals go_light
  all_goals exact ⟨ret_bool (by unfold LX.blank; rw [Bool.eq_iff_iff]; simp; try omega), rfl⟩
theorem lx_digit (c : Int) (w : World) : Calls Tryz.prog 67 #[.int .u8 c] w fun e w' => e = .returned (.bool (LX.digit c)) ∧ w = w' := by
  go_enter Tryz.func67, Tryz.ntmps67
  go_wp2
  all_goals go_ret
  all_goals go_light
  all_goals exact ⟨ret_bool (by unfold LX.digit; rw [Bool.eq_iff_iff]; simp; try omega), rfl⟩
theorem lx_starts (c : Int) (w : World) : Calls Tryz.prog 66 #[.int .u8 c] w fun e w' => e = .returned (.bool (LX.starts c)) ∧ w = w' := by
  go_enter Tryz.func66, Tryz.ntmps66
  go_wp2
  all_goals go_ret
  all_goals go_light
  all_goals exact ⟨ret_bool (by unfold LX.starts; rw [Bool.eq_iff_iff]; simp; try omega), rfl⟩
theorem lx_divides (c : Int) (w : World) : Calls Tryz.prog 27 #[.int .u8 c] w fun e w' => e = .returned (.bool (LX.divides c)) ∧ w = w' := by
  go_enter Tryz.func27, Tryz.ntmps27
  go_wp2_with (go_at_call 55; refine (lx_blank c _).mono ?_; rintro e w' ⟨rfl, rfl⟩)
  all_goals go_ret
  all_goals go_light
  all_goals exact ⟨ret_bool (by unfold LX.divides; (try unfold LX.blank); rw [Bool.eq_iff_iff]; simp only [beq_iff_eq, beq_eq_false_iff_ne, ne_eq] at *; simp; omega), rfl⟩
theorem lx_IndexByte (l : List UInt8) (c : Int) (w : World) : Calls Tryz.prog 59 #[.string ⟨l.toArray⟩, .int .u8 c] w fun e w' => e = .returned (.int .i64 (Lib.indexByte l c.toNat.toUInt8)) ∧ w = w' := (Tryz.strings_IndexByte ⟨l.toArray⟩ c w).mono fun _ _ ⟨x1, x2⟩ => ⟨x1, x2.symm⟩
theorem lx_HasPrefix (s t : List UInt8) (w : World) : Calls Tryz.prog 62 #[.string ⟨s.toArray⟩, .string ⟨t.toArray⟩] w fun e w' => e = .returned (.bool (Lib.hasPrefix s t)) ∧ w = w' := (Tryz.strings_HasPrefix ⟨s.toArray⟩ ⟨t.toArray⟩ w).mono fun _ _ ⟨x1, x2⟩ => ⟨x1, x2.symm⟩
theorem lx_joins (s : List UInt8) (i : Nat) (w : World) (hi : i ≤ s.length) (_hl : s.length ≤ 100000) : Calls Tryz.prog 56 #[.string ⟨s.toArray⟩, .int .i64 i] w fun e w' => e = .returned (.bool (LX.joins s i)) ∧ w = w' := by
  have h1 : ((i : Int) ≤ (s.length : Int)) = True := eq_true (by omega)
  have HP := Lib.hid (lx_HasPrefix (s.drop i) [92, 10] w)
  go_enter Tryz.func56, Tryz.ntmps56
  go_wp2_with fail
  rw [cut_end]
  refine HP.out.mono ?_
  rintro e w1 ⟨rfl, rfl⟩
  go_wp2
  go_ret
  exact ⟨rfl, rfl⟩
theorem lx_comment (s : List UInt8) (i : Nat) (w : World) (hi : i ≤ s.length) (hl : s.length ≤ 100000) : Calls Tryz.prog 57 #[.string ⟨s.toArray⟩, .int .i64 i] w fun e w' => e = .returned (.int .i64 (LX.comment s i)) ∧ w = w' := by
  have h1 : ((i : Int) ≤ (s.length : Int)) = True := eq_true (by omega)
  have HI := Lib.hid (lx_IndexByte (s.drop i) 10 w)
  have HE := Lib.hid (LX.index_find s i 10)
  have HC := Lib.hid (show LX.comment s i = match LX.find s i 10 with | none => s.length | some n => i + n from rfl)
  cases hf : LX.find s i 10 with
  | none =>
    rw [hf] at HE HC
    clear hf
    go_enter Tryz.func57, Tryz.ntmps57
    go_wp2_with fail
    rw [cut_end]
    refine HI.out.mono ?_
    rintro e w1 ⟨rfl, rfl⟩
    rw [show ((10 : Int).toNat.toUInt8) = 10 from rfl, HE.out]
    go_wp2
    go_ret
    exact ⟨ret_int (by rw [HC.out]), rfl⟩
  | some n =>
    have hn := (LX.find_some hf).1
    have hn0 : (0 : Int) ≤ (n : Int) := by omega
    have hn1 : (n : Int) ≤ 100000 := by omega
    rw [hf] at HE HC
    clear hf
    go_enter Tryz.func57, Tryz.ntmps57
    go_wp2_with fail
    rw [cut_end]
    refine HI.out.mono ?_
    rintro e w1 ⟨rfl, rfl⟩
    rw [show ((10 : Int).toNat.toUInt8) = 10 from rfl, HE.out]
    go_wp2
    go_ret
    exact ⟨ret_int (by rw [HC.out]; simp), rfl⟩
theorem lx_dollar (s : List UInt8) (i : Nat) (w : World) (_hl : s.length ≤ 100000) : Calls Tryz.prog 58 #[.string ⟨s.toArray⟩, .int .i64 i] w fun e w' => e = .returned (.bool (LX.dollar s i)) ∧ w = w' := by
  have HI := Lib.hid (lx_IndexByte [64, 42, 35, 63, 45, 36, 33, 123, 40] (bt s i) w)
  by_cases hi : i < s.length
  · have h1 : ((i : Int) < (s.length : Int)) = True := eq_true (by omega)
    have HR := Lib.hid (show LX.dollar s i = (LX.starts (bt s i) || LX.digit (bt s i) || LX.special (bt s i)) by unfold LX.dollar; rw [decide_eq_true hi, Bool.true_and])
    have HS := Lib.hid (lx_starts (bt s i) w)
    have HD := Lib.hid (lx_digit (bt s i) w)
    go_enter Tryz.func58, Tryz.ntmps58
    go_wp2_with (first | (go_at_call 66; refine HS.out.mono ?_; rintro e w' ⟨rfl, rfl⟩) | (go_at_call 67; refine HD.out.mono ?_; rintro e w' ⟨rfl, rfl⟩) | (go_at_call 59; refine HI.out.mono ?_; rintro e w' ⟨rfl, rfl⟩))
    all_goals go_ret
    all_goals exact ⟨ret_bool (by rw [HR.out]; simp_all [LX.special]), rfl⟩
  · have h1 : ((i : Int) < (s.length : Int)) = False := eq_false (by omega)
    have HR := Lib.hid (show LX.dollar s i = false by unfold LX.dollar; rw [decide_eq_false hi, Bool.false_and])
    go_enter Tryz.func58, Tryz.ntmps58
    go_wp2
    go_ret
    exact ⟨ret_bool HR.out.symm, rfl⟩
theorem lx_begins (s : List UInt8) (i : Nat) (w : World) (hi : i < s.length) (hl : s.length ≤ 100000) : Calls Tryz.prog 28 #[.string ⟨s.toArray⟩, .int .i64 i] w fun e w' => e = .returned (.bool (LX.begins s i)) ∧ w = w' := by
  have h1 : ((i : Int) < (s.length : Int)) = True := eq_true (by omega)
  have HD := Lib.hid (lx_dollar s (i + 1) w hl)
  have HR := Lib.hid (show LX.begins s i = if bt s i = 36 then LX.dollar s (i + 1) else decide (bt s i = 92 ∨ bt s i = 39 ∨ bt s i = 34 ∨ bt s i = 96) from rfl)
  go_enter Tryz.func28, Tryz.ntmps28
  go_wp2_with (go_at_call 58; refine HD.out.mono ?_; rintro e w' ⟨rfl, rfl⟩)
  all_goals go_ret
  all_goals exact ⟨ret_bool (by rw [HR.out]; simp_all), rfl⟩
end W
end Go.Proofs.YtcbdhheelddgeaaGreatDoor
