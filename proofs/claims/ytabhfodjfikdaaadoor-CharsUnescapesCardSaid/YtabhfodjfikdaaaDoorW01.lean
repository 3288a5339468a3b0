/- Chapter 1: what the functions of chars and of its reference compute: bytes, names, numbers. -/
import Derived.Test.YtabhfodjfikdaaaDoorChecked
import Derived.Test.YtabhfodjfikdaaaDoorP01
import Derived.Test.YtabhfodjfikdaaaDoorBld
import Derived.Test.YtabhfodjfikdaaaDoorShelf
namespace Go.Proofs.YtabhfodjfikdaaaDoor
open Go.RowKit K
namespace W

theorem letter_any (c : Int) (w : World) :
    Calls Tryd.prog 27 #[.int .i32 c] w fun e w' => e = .returned (.bool (P.lt c)) ∧ w = w' := by
  go_enter Tryd.func27, Tryd.ntmps27
  go_wp2
  all_goals go_ret
  all_goals exact ⟨ret_bool (by rw [Bool.eq_iff_iff]; simp [P.lt]; omega), rfl⟩
theorem digit_any (c : Int) (w : World) :
    Calls Tryd.prog 25 #[.int .i32 c] w fun e w' => e = .returned (.bool (P.dg c)) ∧ w = w' := by
  go_enter Tryd.func25, Tryd.ntmps25
  go_wp2
  all_goals go_ret
  all_goals exact ⟨ret_bool (by rw [Bool.eq_iff_iff]; simp [P.dg]; try omega), rfl⟩
theorem Letter_any (c : Int) (w : World) :
    Calls Tryd.prog 41 #[.int .u8 c] w fun e w' => e = .returned (.bool (P.lt c)) ∧ w = w' := by
  go_enter Tryd.func41, Tryd.ntmps41
  go_wp2
  all_goals go_ret
  all_goals exact ⟨ret_bool (by rw [Bool.eq_iff_iff]; simp [P.lt]; omega), rfl⟩
theorem Digit_any (c : Int) (w : World) :
    Calls Tryd.prog 26 #[.int .u8 c] w fun e w' => e = .returned (.bool (P.dg c)) ∧ w = w' := by
  go_enter Tryd.func26, Tryd.ntmps26
  go_wp2
  all_goals go_ret
  all_goals exact ⟨ret_bool (by rw [Bool.eq_iff_iff]; simp [P.dg]; try omega), rfl⟩
theorem Word_any (c : Int) (w : World) :
    Calls Tryd.prog 28 #[.int .u8 c] w fun e w' => e = .returned (.bool (P.wd c)) ∧ w = w' := by
  go_enter Tryd.func28, Tryd.ntmps28
  go_wp2_with (first | (go_at_call 41; refine (Letter_any _ _).mono ?_; rintro e w' ⟨rfl, rfl⟩) | (go_at_call 26; refine (Digit_any _ _).mono ?_; rintro e w' ⟨rfl, rfl⟩))
  all_goals go_ret
  all_goals exact ⟨ret_bool (by simp [P.wd, *]), rfl⟩
theorem Blank_any (c : Int) (w : World) :
    Calls Tryd.prog 48 #[.int .u8 c] w fun e w' => e = .returned (.bool (P.bl c)) ∧ w = w' := by
  go_enter Tryd.func48, Tryd.ntmps48
  go_wp2
  all_goals go_ret
  all_goals exact ⟨ret_bool (by simp [P.bl, *]), rfl⟩
theorem OpByte_any (c : Int) (w : World) :
    Calls Tryd.prog 49 #[.int .u8 c] w fun e w' => e = .returned (.bool (P.ob c)) ∧ w = w' := by
  go_enter Tryd.func49, Tryd.ntmps49
  go_wp2
  all_goals go_ret
  all_goals exact ⟨ret_bool (by simp [P.ob, *]), rfl⟩
theorem Has_any (l : List UInt8) (c : Int) (w : World) (hl : l.length ≤ 1000000000) :
    Calls Tryd.prog 30 #[.string ⟨l.toArray⟩, .int .u8 c] w fun e w' => e = .returned (.bool (P.has l c)) ∧ w = w' := by
  go_enter Tryd.func30, Tryd.ntmps30
  go_wp2
  go_loop [5] (fun i => ∃ k : Nat, k ≤ l.length ∧ i = .int .i64 k ∧ P.has (l.drop k) c = P.has l c) (fun i => l.length - (intOf i).toNat)
  case atStart => exact ⟨0, Nat.zero_le _, rfl, by simp⟩
  case round =>
    obtain ⟨k, hk, rfl, hno⟩ := hrel
    have HN := Lib.hid hno
    clear hno
    by_cases hlt : k < l.length
    · obtain ⟨x, hx, hb, _⟩ := drop_cons l k hlt
      have HX := Lib.hid hx
      have HB := Lib.hid hb
      clear hx hb
      go_wp2
      · rename_i h _
        go_ret
        exact ⟨ret_bool (by rw [← HN.out, HX.out]; rw [HB.out] at h; simp [P.has, P.iv, h]), rfl⟩
      · rename_i h
        go_round
        case rel => exact ⟨k + 1, by omega, by go_num, by rw [← HN.out, HX.out]; rw [HB.out] at h; simp [P.has, P.iv, h]⟩
        case measure => simp [intOf]; omega
    · go_wp2
      go_ret
      exact ⟨ret_bool (by rw [← HN.out, List.drop_eq_nil_of_le (by omega)]; rfl), rfl⟩

/-! ### Name -/
theorem Name_ref (l : List UInt8) (w : World) (hl : l.length ≤ 1000000000) :
    Calls Tryd.prog 14 #[.string ⟨l.toArray⟩] w fun e w' => e = .returned (.bool (P.nameB l)) ∧ w = w' := by
  go_enter Tryd.func14, Tryd.ntmps14
  by_cases h0 : l = []
  · subst h0
    go_wp2
    go_ret
    exact ⟨rfl, rfl⟩
  have hpos : 0 < l.length := by cases l; simp at h0; simp
  have hne : l.isEmpty = false := by cases l; simp at h0; simp
  rcases Nat.lt_or_ge 32 l.length with h32 | h32
  · go_wp2
    go_ret
    exact ⟨ret_bool (by simp [P.nameB]; omega), rfl⟩
  by_cases hd : P.dg (bt l 0) = true
  · go_wp2_with (go_at_call 26; refine (Digit_any _ _).mono ?_; rintro e w' ⟨rfl, rfl⟩)
    go_ret
    exact ⟨ret_bool (by simp [P.nameB, hd]), rfl⟩
  have hd' : P.dg (bt l 0) = false := by simpa using hd
  clear hd
  have HG : Hid (P.nameB l = l.all (fun x => P.wd (P.iv x))) := by show P.nameB l = _; simp [P.nameB, hne, h32, hd']
  go_wp2_with (go_at_call 26; refine (Digit_any _ _).mono ?_; rintro e w' ⟨rfl, rfl⟩)
  go_loop [3] (fun i => ∃ k : Nat, k ≤ l.length ∧ i = .int .i64 k ∧ (l.drop k).all (fun x => P.wd (P.iv x)) = l.all (fun x => P.wd (P.iv x))) (fun i => l.length - (intOf i).toNat)
  case atStart => exact ⟨0, Nat.zero_le _, rfl, by simp⟩
  case round =>
    obtain ⟨k, hk, rfl, hno⟩ := hrel
    have HN := Lib.hid hno
    clear hno
    by_cases hlt : k < l.length
    · obtain ⟨x, hx, hb, _⟩ := drop_cons l k hlt
      have HX := Lib.hid hx
      have HB := Lib.hid hb
      clear hx hb
      go_wp2_with (go_at_call 28; refine (Word_any _ _).mono ?_; rintro e w' ⟨rfl, rfl⟩)
      · rename_i h
        go_ret
        exact ⟨ret_bool (by rw [HG.out, ← HN.out, HX.out]; rw [HB.out] at h; simp at h; simp [P.iv, h]), rfl⟩
      · rename_i h
        go_round
        case rel => exact ⟨k + 1, by omega, by go_num, by rw [← HN.out, HX.out]; rw [HB.out] at h; simp at h; simp [P.iv, h]⟩
        case measure => simp [intOf]; omega
    · go_wp2
      go_ret
      exact ⟨ret_bool (by rw [HG.out, ← HN.out, List.drop_eq_nil_of_le (by omega)]; rfl), rfl⟩

theorem Name_any (l : List UInt8) (w : World) (hl : l.length ≤ 1000000000) :
    Calls Tryd.prog 13 #[.string ⟨l.toArray⟩] w fun e w' => e = .returned (.bool (P.nameB l)) ∧ Below w.heap.size w w' := by
  go_enter Tryd.func13, Tryd.ntmps13
  by_cases h0 : l.length < 1
  · go_wp2
    go_ret
    exact ⟨ret_bool (by have : l = [] := List.eq_nil_of_length_eq_zero (by omega)
                        subst this; rfl), Below.refl _ _⟩
  rcases Nat.lt_or_ge 32 l.length with h32 | h32
  · go_wp2
    go_ret
    exact ⟨ret_bool (by simp [P.nameB]; omega), Below.refl _ _⟩
  have hpos : 0 < l.length := by omega
  rw [P.nameFrom_zero l hpos h32]
  go_wp2
  go_loopw [] (fun wr => ∃ pos : Nat, pos ≤ l.length ∧ wr.heap[w.heap.size]? = some (.stringIter ⟨l.toArray⟩ pos) ∧ Below w.heap.size w wr ∧ P.nameFrom l 0 = P.nameFrom l pos) (fun wr => l.length - wr.iterPos w.heap.size)
  case atStart =>
    refine ⟨0, by omega, ?_, (Below.refl _ w).alloc (Nat.le_refl _) _, rfl⟩
    have := World.iter_heap w ⟨l.toArray⟩ 0
    simpa using this
  case round =>
    obtain ⟨pos, hk, hit, hbw, hno⟩ := hrel
    have HN := Lib.hid hno
    clear hno
    by_cases hlt : pos < l.length
    · obtain ⟨c, hc⟩ : ∃ c, bt l pos = c := ⟨_, rfl⟩
      have HC := Lib.hid hc
      by_cases ha : c < 128
      · have hnx := next_low (P := Tryd.prog) wr w.heap.size l pos hit hlt c hc ha
        clear hc
        have hit2 := Lib.hid (Lib.iterAt_heap wr w.heap.size ⟨l.toArray⟩ pos (pos + 1) hit)
        have hbw2 := Lib.hid (Lib.below_iterAt hbw (k := w.heap.size) (by omega) ⟨l.toArray⟩ (pos + 1))
        go_wp2_with (first | (go_at_call 27; refine (letter_any _ _).mono ?_; rintro e w' ⟨rfl, rfl⟩) | (go_at_call 25; refine (digit_any _ _).mono ?_; rintro e w' ⟨rfl, rfl⟩))
        all_goals first
          | (go_ret
             exact ⟨ret_bool (by go_light; rw [HN.out, P.nameFrom_stop hlt HC.out (by simp_all)]), hbw2.out⟩)
          | (go_roundw
             case rel => exact ⟨pos + 1, by omega, hit2.out, hbw2.out, by go_light; rw [HN.out, P.nameFrom_step hlt HC.out (by simp_all)]⟩
             case measure => simp only [World.iterPos, hit2.out, hit]; omega)
      · obtain ⟨r, d, hr, hr2, hd, hnx⟩ := next_high (P := Tryd.prog) wr w.heap.size l pos hit hlt (by omega)
        clear hc
        have hbw2 := Lib.hid (Lib.below_iterAt hbw (k := w.heap.size) (by omega) ⟨l.toArray⟩ (pos + d))
        have h1 := P.lt_high r (by omega)
        have h2 := P.dg_high r (by omega)
        have h3 : ((r : Int) == 95) = false := by simp; omega
        go_wp2_with (first | (go_at_call 27; refine (letter_any _ _).mono ?_; rintro e w' ⟨rfl, rfl⟩) | (go_at_call 25; refine (digit_any _ _).mono ?_; rintro e w' ⟨rfl, rfl⟩))
        go_ret
        exact ⟨ret_bool (by go_light; rw [HN.out, P.nameFrom_stop hlt HC.out (by rw [P.lt_high c (by omega), P.dg_high c (by omega)]; simp; omega)]), hbw2.out⟩
    · have hnx := next_end (P := Tryd.prog) wr w.heap.size l pos hit hlt
      go_wp2
      go_ret
      exact ⟨ret_bool (by rw [HN.out, P.nameFrom_end hpos hlt]), hbw⟩
end W
end Go.Proofs.YtabhfodjfikdaaaDoor
