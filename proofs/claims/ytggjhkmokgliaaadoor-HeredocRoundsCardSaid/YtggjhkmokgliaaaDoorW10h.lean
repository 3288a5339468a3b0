/- Words: bytes, the end of a scope, a parameter's end. -/
import Derived.Test.YtggjhkmokgliaaaDoorW10g
namespace Go.Proofs.YtggjhkmokgliaaaDoor
open Go.RowKit K
namespace P
/-- The bytes with which a name begins; the digits. -/
def stI (c : Int) : Bool := decide (c = 95 ∨ (65 ≤ c ∧ c ≤ 90) ∨ (97 ≤ c ∧ c ≤ 122))
def dgI (c : Int) : Bool := decide (48 ≤ c ∧ c ≤ 57)
end P
namespace W
theorem bdN {B : Nat} {a w : World} (h : Below B a w) (n : Nat) : Below B a (w.drewN n) := ⟨h.os, h.tape, h.output, h.size, h.block⟩
theorem starts_any (c : Int) (w : World) : Calls Tryd.prog 85 #[.int .u8 c] w fun e w' => e = .returned (.bool (P.stI c)) ∧ w = w' := by
  go_enter Tryd.func85, Tryd.ntmps85
  go_wp2
  all_goals go_ret
  all_goals exact ⟨ret_bool (by rw [Bool.eq_iff_iff]; simp [P.stI]; omega), rfl⟩
theorem digit_any (c : Int) (w : World) : Calls Tryd.prog 76 #[.int .u8 c] w fun e w' => e = .returned (.bool (P.dgI c)) ∧ w = w' := by
  go_enter Tryd.func76, Tryd.ntmps76
  go_wp2
  all_goals go_ret
  all_goals exact ⟨ret_bool (by rw [Bool.eq_iff_iff]; simp [P.dgI]; try omega), rfl⟩
theorem IndexByte_any (l : List UInt8) (c : Int) (w : World) : Calls Tryd.prog 25 #[.string ⟨l.toArray⟩, .int .u8 c] w fun e w' => e = .returned (.int .i64 (Lib.indexByte l c.toNat.toUInt8)) ∧ w = w' := (Tryd.strings_IndexByte ⟨l.toArray⟩ c w).mono fun _ _ ⟨x1, x2⟩ => ⟨x1, x2.symm⟩
theorem HasPrefix_any (s t : List UInt8) (w : World) : Calls Tryd.prog 72 #[.string ⟨s.toArray⟩, .string ⟨t.toArray⟩] w fun e w' => e = .returned (.bool (Lib.hasPrefix s t)) ∧ w = w' := (Tryd.strings_HasPrefix ⟨s.toArray⟩ ⟨t.toArray⟩ w).mono fun _ _ ⟨x1, x2⟩ => ⟨x1, x2.symm⟩
section
variable {W : World} {g a : Nat} {s : List UInt8} {lv opn dep : Int} {tx ls : Value}
/-- At the end of the source. -/
theorem ended_end {pl : Int} {op : Bool} (h : SB W g s s.length pl op lv opn dep tx ls) (ho : opn < 0) : Calls Tryd.prog 52 #[.pointer (some ⟨g, 0, none⟩)] W fun e W' => e = .returned (.bool true) ∧ Below W.heap.size W W' := by
  obtain ⟨c0, c1, c2, c3, c4, c5, c6, c7, c8⟩ := h.cells
  clear h
  have o1 : (0 ≤ opn) = False := eq_false (by omega)
  go_enter Tryd.func52, Tryd.ntmps52
  go_wp2_with fail
  go_quiet (fail)
  go_wp2
  go_ret
  exact ⟨rfl, bdN (Below.refl _ _) _⟩
/-- Within the source, in a here-document. -/
theorem ended_here (h : SB W g s a 3 false lv opn dep tx ls) (ha : a < s.length) : Calls Tryd.prog 52 #[.pointer (some ⟨g, 0, none⟩)] W fun e W' => e = .returned (.bool false) ∧ Below W.heap.size W W' := by
  obtain ⟨c0, c1, c2, c3, c4, c5, c6, c7, c8⟩ := h.cells
  clear h
  have a0 : (0 : Int) ≤ (a : Int) := by omega
  have a1 : ((a : Int) < (s.length : Int)) = True := eq_true (by omega)
  have a2 : ¬ (a : Int) = (s.length : Int) := by omega
  have a3 : ¬ a = s.length := by omega
  go_enter Tryd.func52, Tryd.ntmps52
  go_wp2_with fail
  go_quiet (fail)
  go_wp2_with fail
  go_quiet (fail)
  go_wp2
  go_ret
  exact ⟨rfl, bdN (Below.refl _ _) _⟩
set_option maxRecDepth 100000 in
set_option maxHeartbeats 1000000 in
/-- The end of the name that begins at a. -/
theorem parameter_name {pl : Int} {op : Bool} (h : SB W g s a pl op lv opn dep tx ls) (b k : Nat) (hbk : b < k) (hk : k ≤ s.length) (h1 : P.stI (bt s b) = true) (h3 : Lib.indexByte [64, 42, 35, 63, 45, 36, 33, 48] (bt s b).toNat.toUInt8 = -1)
    (hin : ∀ j, b ≤ j → j < k → (P.stI (bt s j) || P.dgI (bt s j)) = true) (hend : k < s.length → P.stI (bt s k) = false ∧ P.dgI (bt s k) = false) (hl : s.length ≤ 100000) :
    Calls Tryd.prog 77 #[.pointer (some ⟨g, 0, none⟩), .int .i64 b] W fun e W' => e = .returned (.int .i64 k) ∧ W = W' := by
  obtain ⟨c0, c1, c2, c3, c4, c5, c6, c7, c8⟩ := h.cells
  clear h
  have b0 : (0 : Int) ≤ (b : Int) := by omega
  have b1 : ((b : Int) < (s.length : Int)) = True := eq_true (by omega)
  have b2 : ¬ (b : Int) = (s.length : Int) := by omega
  have b3 : ¬ b = s.length := by omega
  have h2 : P.dgI (bt s b) = false := by
    simp only [P.stI, P.dgI, decide_eq_true_eq, decide_eq_false_iff_not] at h1 ⊢
    omega
  have HIN := Lib.hid hin
  have HEND := Lib.hid hend
  have HI := Lib.hid (IndexByte_any [64, 42, 35, 63, 45, 36, 33, 48] (bt s b))
  rw [h3] at HI
  clear hin hend h3
  go_enter Tryd.func77, Tryd.ntmps77
  go_wp2_with (first | (go_at_call 25; refine (HI.out _).mono ?_; rintro e w' ⟨rfl, rfl⟩) | (go_at_call 76; refine (digit_any _ _).mono ?_; rintro e w' ⟨rfl, rfl⟩) | (go_at_call 85; refine (starts_any _ _).mono ?_; rintro e w' ⟨rfl, rfl⟩))
  go_loop [1] (fun i => ∃ m : Nat, b ≤ m ∧ m ≤ k ∧ i = .int .i64 m) (fun i => k - (intOf i).toNat)
  case atStart => exact ⟨b, Nat.le_refl _, by omega, rfl⟩
  case round =>
    obtain ⟨m, hm1, hm2, rfl⟩ := hrel
    by_cases hlt : m < s.length
    · have m0 : (0 : Int) ≤ (m : Int) := by omega
      have m1 : ((m : Int) < (s.length : Int)) = True := eq_true (by omega)
      rcases Nat.lt_or_ge m k with hmk | hmk
      · have hor := HIN.out m hm1 hmk
        go_wp2_with (first | (go_at_call 76; refine (digit_any _ _).mono ?_; rintro e w' ⟨rfl, rfl⟩) | (go_at_call 85; refine (starts_any _ _).mono ?_; rintro e w' ⟨rfl, rfl⟩))
        · go_round
          case rel => exact ⟨m + 1, by omega, by omega, by go_num⟩
          case measure => simp [intOf]; omega
        · go_round
          case rel => exact ⟨m + 1, by omega, by omega, by go_num⟩
          case measure => simp [intOf]; omega
        · rename_i hA hB
          simp only [Bool.not_eq_true] at hA
          rw [hA, hB] at hor
          cases hor
      · obtain rfl : m = k := by omega
        obtain ⟨x1, x2⟩ := HEND.out hlt
        go_wp2_with (first | (go_at_call 76; refine (digit_any _ _).mono ?_; rintro e w' ⟨rfl, rfl⟩) | (go_at_call 85; refine (starts_any _ _).mono ?_; rintro e w' ⟨rfl, rfl⟩))
        go_ret
        exact ⟨rfl, rfl⟩
    · obtain rfl : m = k := by omega
      have m1 : ((m : Int) < (s.length : Int)) = False := eq_false (by omega)
      go_wp2_with (first | (go_at_call 76; refine (digit_any _ _).mono ?_; rintro e w' ⟨rfl, rfl⟩) | (go_at_call 85; refine (starts_any _ _).mono ?_; rintro e w' ⟨rfl, rfl⟩))
      go_ret
      exact ⟨rfl, rfl⟩
/-- A name that is not too long. -/
theorem name_ok {pl : Int} {op : Bool} (h : SB W g s a pl op lv opn dep tx ls) (b k : Nat) (m : Int) (hbk : b < k) (hk : k ≤ s.length) (hn : k ≤ b + 32) :
    Calls Tryd.prog 78 #[.pointer (some ⟨g, 0, none⟩), .int .i64 b, .int .i64 k, .int .i64 m] W fun e W' => e = .returned (.tuple #[]) ∧ W = W' := by
  obtain ⟨c0, -, -, -, -, -, -, -, -⟩ := h.cells
  clear h
  have b0 : (0 : Int) ≤ (b : Int) := by omega
  have b1 : ((b : Int) < (s.length : Int)) = True := eq_true (by omega)
  obtain ⟨d, rfl⟩ : ∃ d : Nat, k = b + d := ⟨k - b, by omega⟩
  have hd : ((32 : Int) < (d : Int)) = False := eq_false (by omega)
  have hd2 : (32 < d) = False := eq_false (by omega)
  have hs : ((b + d : Nat) : Int) - (b : Int) = (d : Int) := by omega
  go_enter Tryd.func78, Tryd.ntmps78
  go_wp2_with ((go_at_call 85; refine (starts_any _ _).mono ?_; rintro e w' ⟨rfl, rfl⟩))
  all_goals go_end0
  all_goals exact ⟨rfl, rfl⟩
end
end W
end Go.Proofs.YtggjhkmokgliaaaDoor
