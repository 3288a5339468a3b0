/- Plain of chars and of its reference (out of my texts on chapter 1). -/
import Derived.Test.YtcbdhheelddgeaaGreatDoorB
import Derived.Test.YtcbdhheelddgeaaGreatDoorZA
import Derived.Test.YtcbdhheelddgeaaGreatDoorShelf
import Derived.Test.YtcbdhheelddgeaaGreatDoorQ09r
namespace Go.Proofs.YtcbdhheelddgeaaGreatDoor
open Go.RowKit K
namespace W

theorem letter_any (c : Int) (w : World) :
    Calls Tryz.prog 85 #[.int .i32 c] w fun e w' => e = .returned (.bool (P.lt c)) ∧ w = w' := by
  go_enter Tryz.func85, Tryz.ntmps85
  go_wp2
  all_goals go_ret
  all_goals exact ⟨ret_bool (by rw [Bool.eq_iff_iff]; simp [P.lt]; omega), rfl⟩
theorem digit_any (c : Int) (w : World) :
    Calls Tryz.prog 86 #[.int .i32 c] w fun e w' => e = .returned (.bool (P.dg c)) ∧ w = w' := by
  go_enter Tryz.func86, Tryz.ntmps86
  go_wp2
  all_goals go_ret
  all_goals exact ⟨ret_bool (by rw [Bool.eq_iff_iff]; simp [P.dg]; try omega), rfl⟩
theorem Plain_ref (l : List UInt8) (w : World) (hl : l.length ≤ 1000000000) :
    Calls Tryz.prog 75 #[.string ⟨l.toArray⟩] w fun e w' => e = .returned (.bool (P.plainB l)) ∧ w = w' := by
  go_enter Tryz.func75, Tryz.ntmps75
  go_wp2
  go_loop [3] (fun i => ∃ k : Nat, k ≤ l.length ∧ i = .int .i64 k ∧ (l.drop k).all (fun x => P.pl (P.iv x)) = l.all (fun x => P.pl (P.iv x))) (fun i => l.length - (intOf i).toNat)
  case atStart => exact ⟨0, Nat.zero_le _, rfl, by simp⟩
  case round =>
    obtain ⟨k, hk, rfl, hno⟩ := hrel
    have HN := Lib.hid hno
    clear hno
    by_cases hlt : k < l.length
    · obtain ⟨x, hx, hb, _⟩ := drop_cons l k hlt
      have HX := Lib.hid hx
      have HB : Hid (P.iv x = bt l k) := hb.symm
      clear hx hb
      by_cases h1 : P.pl (bt l k) = true
      · have HP := Lib.hid h1
        clear h1
        go_wp2_with (first | (go_at_call 101; refine (Word_any _ _).mono ?_; rintro e w' ⟨rfl, rfl⟩) | (go_at_call 102; refine (Has_any _ _ _ (by simp)).mono ?_; rintro e w' ⟨rfl, rfl⟩))
        all_goals first
          | (go_round
             case rel => exact ⟨k + 1, by omega, by go_num, by rw [← HN.out, HX.out, List.all_cons, HB.out, HP.out, Bool.true_and]⟩
             case measure => simp [intOf]; omega)
          | (exfalso; have := HP.out; go_light; simp_all [P.pl, P.pun]; done)
      · have HP := Lib.hid (show P.pl (bt l k) = false by simpa using h1)
        clear h1
        go_wp2_with (first | (go_at_call 101; refine (Word_any _ _).mono ?_; rintro e w' ⟨rfl, rfl⟩) | (go_at_call 102; refine (Has_any _ _ _ (by simp)).mono ?_; rintro e w' ⟨rfl, rfl⟩))
        all_goals first
          | (go_ret; exact ⟨ret_bool (by unfold P.plainB; rw [← HN.out, HX.out, List.all_cons, HB.out, HP.out]; rfl), rfl⟩)
          | (exfalso; have := HP.out; go_light; simp_all [P.pl, P.pun]; done)
    · go_wp2
      go_ret
      exact ⟨ret_bool (by unfold P.plainB; rw [← HN.out, List.drop_eq_nil_of_le (by omega)]; cases l <;> simp), rfl⟩

theorem Plain_any (l : List UInt8) (w : World) (hl : l.length ≤ 1000000000) :
    Calls Tryz.prog 48 #[.string ⟨l.toArray⟩] w fun e w' => e = .returned (.bool (P.plainB l)) ∧ Below w.heap.size w w' := by
  go_enter Tryz.func48, Tryz.ntmps48
  go_wp2
  go_loopw [] (fun wr => ∃ pos : Nat, pos ≤ l.length ∧ wr.heap[w.heap.size]? = some (.stringIter ⟨l.toArray⟩ pos) ∧ Below w.heap.size w wr ∧ (l.drop pos).all (fun x => P.pl (P.iv x)) = l.all (fun x => P.pl (P.iv x))) (fun wr => l.length - wr.iterPos w.heap.size)
  case atStart =>
    refine ⟨0, by omega, ?_, (Below.refl _ w).alloc (Nat.le_refl _) _, rfl⟩
    have := World.iter_heap w ⟨l.toArray⟩ 0
    simpa using this
  case round =>
    obtain ⟨pos, hk, hit, hbw, hno⟩ := hrel
    have HN := Lib.hid hno
    clear hno
    by_cases hlt : pos < l.length
    · obtain ⟨x, hx, hb, _⟩ := drop_cons l pos hlt
      have HX := Lib.hid hx
      clear hx
      obtain ⟨c, hc⟩ : ∃ c, bt l pos = c := ⟨_, rfl⟩
      have HB : Hid (P.iv x = c) := by rw [← hc, hb]; rfl
      have hc0 : 0 ≤ c := by rw [← hc]; exact bt_nonneg _ _
      clear hb
      have HI := Lib.hid (P.plI_eq c hc0)
      by_cases ha : c < 128
      · have hnx := next_low (P := Tryz.prog) wr w.heap.size l pos hit hlt c hc ha
        clear hc
        have hit2 := Lib.hid (Lib.iterAt_heap wr w.heap.size ⟨l.toArray⟩ pos (pos + 1) hit)
        have hbw2 := Lib.hid (Lib.below_iterAt hbw (k := w.heap.size) (by omega) ⟨l.toArray⟩ (pos + 1))
        by_cases h1 : P.pl c = true
        · have HP := Lib.hid h1
          clear h1
          go_wp2_with (first | (go_at_call 85; refine (letter_any _ _).mono ?_; rintro e w' ⟨rfl, rfl⟩) | (go_at_call 86; refine (digit_any _ _).mono ?_; rintro e w' ⟨rfl, rfl⟩) | (go_at_call 87; refine (Tryz.strings_ContainsRune_ascii _ _ _ hc0 ha).mono ?_; rintro e w' ⟨rfl, rfl⟩))
          all_goals first
            | (go_roundw
               case rel => exact ⟨pos + 1, by omega, hit2.out, hbw2.out, by rw [← HN.out, HX.out, List.all_cons, HB.out, HP.out, Bool.true_and]⟩
               case measure => simp only [World.iterPos, hit2.out, hit]; omega)
            | (exfalso; have := HP.out; rw [← HI.out] at this; go_light; simp_all [P.plI]; done)
            | (exfalso; have := HP.out; rw [← HI.out] at this; go_light; simp_all [P.plI]; omega)
        · have HP := Lib.hid (show P.pl c = false by simpa using h1)
          clear h1
          go_wp2_with (first | (go_at_call 85; refine (letter_any _ _).mono ?_; rintro e w' ⟨rfl, rfl⟩) | (go_at_call 86; refine (digit_any _ _).mono ?_; rintro e w' ⟨rfl, rfl⟩) | (go_at_call 87; refine (Tryz.strings_ContainsRune_ascii _ _ _ hc0 ha).mono ?_; rintro e w' ⟨rfl, rfl⟩))
          all_goals first
            | (go_ret; exact ⟨ret_bool (by unfold P.plainB; rw [← HN.out, HX.out, List.all_cons, HB.out, HP.out]; rfl), hbw2.out⟩)
            | (exfalso; have := HP.out; rw [← HI.out] at this; go_light; simp_all [P.plI]; done)
            | (exfalso; have := HP.out; rw [← HI.out] at this; go_light; simp_all [P.plI]; omega)
      · obtain ⟨r, d, hr, hr2, hd, hnx⟩ := next_high (P := Tryz.prog) wr w.heap.size l pos hit hlt (by omega)
        clear hc
        have hbw2 := Lib.hid (Lib.below_iterAt hbw (k := w.heap.size) (by omega) ⟨l.toArray⟩ (pos + d))
        have h1 := P.lt_high r (by omega)
        have h2 := P.dg_high r (by omega)
        go_wp2_with (first | (go_at_call 85; refine (letter_any _ _).mono ?_; rintro e w' ⟨rfl, rfl⟩) | (go_at_call 86; refine (digit_any _ _).mono ?_; rintro e w' ⟨rfl, rfl⟩))
        go_ret
        exact ⟨ret_bool (by unfold P.plainB; rw [← HN.out, HX.out, List.all_cons, HB.out, P.pl_high c (by omega)]; rfl), hbw2.out⟩
    · have hnx := next_end (P := Tryz.prog) wr w.heap.size l pos hit hlt
      go_wp2
      go_ret
      exact ⟨ret_bool (by unfold P.plainB; rw [← HN.out, List.drop_eq_nil_of_le (by omega)]; cases l <;> simp), hbw⟩
end W
end Go.Proofs.YtcbdhheelddgeaaGreatDoor
