/- Quote and Plain of the reference (out of my texts on chapter 1). -/
import Derived.Test.YtijibooneochjaaP01b
import Derived.Test.YtijibooneochjaaV08
import Derived.Lib.ReplaceLaws
import Derived.Lib.CountLaws
namespace Go.Proofs.Ytijibooneochjaa
open Go.RowKit K
namespace W

theorem Letter_any (c : Int) (w : World) :
    Calls Try.prog 53 #[.int .u8 c] w fun e w' => e = .returned (.bool (P.lt c)) ∧ w = w' := by
  go_enter Try.func53, Try.ntmps53
  go_wp2
  all_goals go_ret
  all_goals exact ⟨ret_bool (by rw [Bool.eq_iff_iff]; simp [P.lt]; omega), rfl⟩
theorem Digit_any (c : Int) (w : World) :
    Calls Try.prog 54 #[.int .u8 c] w fun e w' => e = .returned (.bool (P.dg c)) ∧ w = w' := by
  go_enter Try.func54, Try.ntmps54
  go_wp2
  all_goals go_ret
  all_goals exact ⟨ret_bool (by rw [Bool.eq_iff_iff]; simp [P.dg]; try omega), rfl⟩
theorem Word_any (c : Int) (w : World) :
    Calls Try.prog 33 #[.int .u8 c] w fun e w' => e = .returned (.bool (P.wd c)) ∧ w = w' := by
  go_enter Try.func33, Try.ntmps33
  go_wp2_with (first | (go_at_call 53; refine (Letter_any _ _).mono ?_; rintro e w' ⟨rfl, rfl⟩) | (go_at_call 54; refine (Digit_any _ _).mono ?_; rintro e w' ⟨rfl, rfl⟩))
  all_goals go_ret
  all_goals exact ⟨ret_bool (by simp [P.wd, *]), rfl⟩
theorem Has_any (l : List UInt8) (c : Int) (w : World) (hl : l.length ≤ 1000000000) :
    Calls Try.prog 34 #[.string ⟨l.toArray⟩, .int .u8 c] w fun e w' => e = .returned (.bool (P.has l c)) ∧ w = w' := by
  go_enter Try.func34, Try.ntmps34
  go_wp2
  go_loop [5] (fun i => ∃ k : Nat, k ≤ l.length ∧ i = .int .i64 k ∧ P.has (l.drop k) c = P.has l c) (fun i => l.length - (intOf i).toNat)
  case atStart => exact ⟨0, Nat.zero_le _, rfl, by simp⟩
  case round =>
    obtain ⟨k, hk, rfl, hno⟩ := hrel
    have HN := Lib.hid hno
    clear hno
    by_cases hlt : k < l.length
    · obtain ⟨x, hx, hb, _⟩ := drop_cons l k hlt
      have HX := Lib.hid hx
      have HB := Lib.hid hb
      clear hx hb
      go_wp2
      · rename_i h _
        go_ret
        exact ⟨ret_bool (by rw [← HN.out, HX.out]; rw [HB.out] at h; simp [P.has, P.iv, h]), rfl⟩
      · rename_i h
        go_round
        case rel => exact ⟨k + 1, by omega, by go_num, by rw [← HN.out, HX.out]; rw [HB.out] at h; simp [P.has, P.iv, h]⟩
        case measure => simp [intOf]; omega
    · go_wp2
      go_ret
      exact ⟨ret_bool (by rw [← HN.out, List.drop_eq_nil_of_le (by omega)]; rfl), rfl⟩

theorem Plain_ref (l : List UInt8) (w : World) (hl : l.length ≤ 1000000000) :
    Calls Try.prog 13 #[.string ⟨l.toArray⟩] w fun e w' => e = .returned (.bool (P.plainB l)) ∧ w = w' := by
  go_enter Try.func13, Try.ntmps13
  go_wp2
  go_loop [3] (fun i => ∃ k : Nat, k ≤ l.length ∧ i = .int .i64 k ∧ (l.drop k).all (fun x => P.pl (P.iv x)) = l.all (fun x => P.pl (P.iv x))) (fun i => l.length - (intOf i).toNat)
  case atStart => exact ⟨0, Nat.zero_le _, rfl, by simp⟩
  case round =>
    obtain ⟨k, hk, rfl, hno⟩ := hrel
    have HN := Lib.hid hno
    clear hno
    by_cases hlt : k < l.length
    · obtain ⟨x, hx, hb, _⟩ := drop_cons l k hlt
      have HX := Lib.hid hx
      have HB : Hid (P.iv x = bt l k) := hb.symm
      clear hx hb
      by_cases h1 : P.pl (bt l k) = true
      · have HP := Lib.hid h1
        clear h1
        go_wp2_with (first | (go_at_call 33; refine (Word_any _ _).mono ?_; rintro e w' ⟨rfl, rfl⟩) | (go_at_call 34; refine (Has_any _ _ _ (by simp)).mono ?_; rintro e w' ⟨rfl, rfl⟩))
        all_goals first
          | (go_round
             case rel => exact ⟨k + 1, by omega, by go_num, by rw [← HN.out, HX.out, List.all_cons, HB.out, HP.out, Bool.true_and]⟩
             case measure => simp [intOf]; omega)
          | (exfalso; have := HP.out; go_light; simp_all [P.pl, P.pun]; done)
      · have HP := Lib.hid (show P.pl (bt l k) = false by simpa using h1)
        clear h1
        go_wp2_with (first | (go_at_call 33; refine (Word_any _ _).mono ?_; rintro e w' ⟨rfl, rfl⟩) | (go_at_call 34; refine (Has_any _ _ _ (by simp)).mono ?_; rintro e w' ⟨rfl, rfl⟩))
        all_goals first
          | (go_ret; exact ⟨ret_bool (by unfold P.plainB; rw [← HN.out, HX.out, List.all_cons, HB.out, HP.out]; rfl), rfl⟩)
          | (exfalso; have := HP.out; go_light; simp_all [P.pl, P.pun]; done)
    · go_wp2
      go_ret
      exact ⟨ret_bool (by unfold P.plainB; rw [← HN.out, List.drop_eq_nil_of_le (by omega)]; cases l <;> simp), rfl⟩

theorem Quote_ref (l : List UInt8) (w : World) (hl : l.length ≤ 100000000) :
    Calls Try.prog 10 #[.string ⟨l.toArray⟩] w fun e w' => e = .returned (.string ⟨(P.quote l).toArray⟩) ∧ w = w' := by
  by_cases hp : P.plainB l = true
  · have HG := Lib.hid (show P.quote l = l by simp [P.quote, hp])
    go_enter Try.func10, Try.ntmps10
    go_wp2_with (go_at_call 13; refine (Plain_ref _ _ (by omega)).mono ?_; rintro e w' ⟨rfl, rfl⟩)
    go_ret
    exact ⟨ret_str HG.out.symm, rfl⟩
  · have hp' : P.plainB l = false := by simpa using hp
    clear hp
    have HG := Lib.hid (show P.quote l = 39 :: (P.quoteBody l ++ [39]) by simp [P.quote, hp'])
    go_enter Try.func10, Try.ntmps10
    go_wp2_with (go_at_call 13; refine (Plain_ref _ _ (by omega)).mono ?_; rintro e w' ⟨rfl, rfl⟩)
    go_loop [3, 4] (fun o i => ∃ (k : Nat) (q : List UInt8), k ≤ l.length ∧ i = .int .i64 k ∧ o = .string ⟨q.toArray⟩ ∧ q.length ≤ 4 * k + 1 ∧ q ++ P.quoteBody (l.drop k) = 39 :: P.quoteBody l) (fun _ i => l.length - (intOf i).toNat)
    case atStart => exact ⟨0, [39], by omega, rfl, rfl, by simp, by simp⟩
    case round =>
      obtain ⟨k, q, hk, rfl, rfl, hq, hno⟩ := hrel
      have HN := Lib.hid hno
      clear hno
      by_cases hlt : k < l.length
      · obtain ⟨x, hx, hb, _⟩ := drop_cons l k hlt
        have HX := Lib.hid hx
        have HB := Lib.hid hb
        clear hx hb
        have HC := Lib.hid (cut_one l k hlt)
        go_wp2
        · rename_i h
          go_round
          case rel =>
            refine ⟨k + 1, q ++ [39, 92, 39, 39], by omega, by go_num, rfl, by simp; omega, ?_⟩
            rw [← HN.out, HX.out, P.quoteBody, show P.iv x = bt l k from HB.out.symm, h]; simp
          case measure => simp [intOf]; omega
        · rename_i h
          go_round
          case rel =>
            refine ⟨k + 1, q ++ cut l k (k + 1), by omega, by go_num, rfl, by simp; omega, ?_⟩
            rw [← HN.out, HX.out, P.quoteBody, show P.iv x = bt l k from HB.out.symm, h, HC.out, by8_bt HB.out]; simp
          case measure => simp [intOf]; omega
      · have HE := Lib.hid (drop_end l k hlt)
        go_wp2
        go_ret
        exact ⟨ret_str (by rw [HG.out, ← List.cons_append, ← HN.out, HE.out]; simp [P.quoteBody]), rfl⟩

end W
end Go.Proofs.Ytijibooneochjaa
