/- Chapter 29: the reference's paths. -/
import Derived.Test.YtmccfdmnidbalaaGreatDoorW29t
import Derived.Test.YtmccfdmnidbalaaGreatDoorW29f
import Derived.Test.YtmccfdmnidbalaaGreatDoorW29h
namespace Go.Proofs.YtmccfdmnidbalaaGreatDoor
open Go.RowKit K
namespace P
theorem qb {l : List UInt8} {k : Nat} {x : UInt8} (hb : bt l k = (x.toNat : Int)) : qq x = (bt l k == 47 || bt l k == 0) := by unfold qq; rw [hb]
theorem slash_app (a b : List UInt8) : slash (a ++ b) = (slash a || slash b) := by unfold slash; rw [List.any_append]
theorem drop_cut (l : List UInt8) (f k : Nat) (h : f ≤ k) : l.drop f = cut l f k ++ l.drop k := by
  unfold cut
  have h1 : (l.take k ++ l.drop k).drop f = l.drop f := by rw [List.take_append_drop]
  rw [← h1, List.drop_append]
  by_cases hk : k ≤ l.length
  · have : f - (l.take k).length = 0 := by rw [List.length_take]; omega
    rw [this, List.drop_zero]
  · rw [List.drop_eq_nil_of_le (show l.length ≤ k by omega)]
    simp
theorem slash_one {c : UInt8} (h : (c.toNat : Int) ≠ 47) : slash [c] = false := by
  unfold slash
  simp only [List.any_cons, List.any_nil, Bool.or_false, beq_eq_false_iff_ne]
  exact h
theorem u47 {c : UInt8} (h : (c.toNat : Int) = 47) : c = 47 := UInt8.toNat_inj.1 (by have : (47 : UInt8).toNat = 47 := rfl; omega)
end P
namespace W
theorem path_all (s : List UInt8) : PathOK s := fun x _ => isName_of x fun h32 => any_all x (by omega)
theorem name_ref (s : List UInt8) (w : World) (hl : s.length ≤ 1000000) :
    Calls Tryz.prog 24 #[.string ⟨s.toArray⟩] w fun e w' => e = .returned (.bool (P.nameB s)) ∧ w = w' := by
  have HR := Lib.hid (show P.nameB s = (decide (1 ≤ s.length) && decide (s.length ≤ 32) && s != [46] && s != [46, 46] && !(s.any P.qq)) from rfl)
  generalize P.nameB s = R at HR
  by_cases h1 : 1 ≤ s.length
  case neg =>
    have e1 : ((s.length : Int) < (1 : Int)) = True := eq_true (by omega)
    have HF := Lib.hid (show R = false by rw [HR.out, decide_eq_false h1]; rfl)
    clear h1
    go_enter Tryz.func24, Tryz.ntmps24
    go_wp2
    go_ret
    exact ⟨ret_bool HF.out.symm, rfl⟩
  have e1 : ((s.length : Int) < (1 : Int)) = False := eq_false (by omega)
  by_cases h2 : s.length ≤ 32
  case neg =>
    have e2 : ((32 : Int) < (s.length : Int)) = True := eq_true (by omega)
    have HF := Lib.hid (show R = false by rw [HR.out, decide_eq_false h2]; simp)
    clear h1 h2
    go_enter Tryz.func24, Tryz.ntmps24
    go_wp2
    go_ret
    exact ⟨ret_bool HF.out.symm, rfl⟩
  have e2 : ((32 : Int) < (s.length : Int)) = False := eq_false (by omega)
  by_cases h3 : s = [46]
  · subst h3
    have HF := Lib.hid (show R = false by rw [HR.out]; rfl)
    go_enter Tryz.func24, Tryz.ntmps24
    go_wp2
    go_ret
    exact ⟨ret_bool HF.out.symm, rfl⟩
  have e3 : (s != [46]) = true := by simpa using h3
  have d3 : (s == [46]) = false := by simpa using h3
  by_cases h4 : s = [46, 46]
  · subst h4
    have HF := Lib.hid (show R = false by rw [HR.out]; rfl)
    go_enter Tryz.func24, Tryz.ntmps24
    go_wp2
    go_ret
    exact ⟨ret_bool HF.out.symm, rfl⟩
  have e4 : (s != [46, 46]) = true := by simpa using h4
  have d4 : (s == [46, 46]) = false := by simpa using h4
  have HF := Lib.hid (show R = !(s.any P.qq) by rw [HR.out, decide_eq_true h1, decide_eq_true h2, e3, e4]; simp)
  clear h1 h3 h4 HR e3 e4
  go_enter Tryz.func24, Tryz.ntmps24
  go_wp2
  go_loop [3] (fun i => ∃ k : Nat, k ≤ s.length ∧ i = .int .i64 k ∧ Hid ((s.drop k).any P.qq = s.any P.qq)) (fun i => s.length - (intOf i).toNat)
  case atStart => exact ⟨0, by omega, rfl, rfl⟩
  case round =>
    obtain ⟨k, hk, rfl, HN⟩ := hrel
    by_cases hlt : k < s.length
    · obtain ⟨x, hx, hb, -⟩ := drop_cons s k hlt
      have HX := Lib.hid hx
      have HQ := Lib.hid (P.qb hb)
      clear hx hb
      by_cases t1 : bt s k = 47
      · have u1 : (bt s k == 47) = true := by simpa using t1
        have HT := Lib.hid (show R = false by rw [HF.out, ← HN.out, HX.out, List.any_cons, HQ.out, u1]; rfl)
        clear t1
        go_wp2
        go_ret
        exact ⟨ret_bool HT.out.symm, rfl⟩
      have u1 : (bt s k == 47) = false := by simpa using t1
      by_cases t2 : bt s k = 0
      · have u2 : (bt s k == 0) = true := by simpa using t2
        have HT := Lib.hid (show R = false by rw [HF.out, ← HN.out, HX.out, List.any_cons, HQ.out, u1, u2]; rfl)
        clear t1 t2
        go_wp2
        go_ret
        exact ⟨ret_bool HT.out.symm, rfl⟩
      have u2 : (bt s k == 0) = false := by simpa using t2
      have HT := Lib.hid (show P.qq x = false by rw [HQ.out, u1, u2]; rfl)
      clear t1 t2
      go_wp2
      go_round
      case rel => exact ⟨k + 1, by omega, by go_num, by rw [← HN.out, HX.out, List.any_cons, HT.out, Bool.false_or]; exact rfl⟩
      case measure => simp [intOf]; omega
    · have HT := Lib.hid (show R = true by rw [HF.out, ← HN.out, List.drop_eq_nil_of_le (by omega)]; rfl)
      go_wp2
      go_ret
      exact ⟨ret_bool HT.out.symm, rfl⟩
theorem cut_ref (s : List UInt8) (w : World) (hl : s.length ≤ 1000000) :
    Calls Tryz.prog 39 #[.string ⟨s.toArray⟩] w fun e w' => e = .returned (.int .i64 (P.cutL s)) ∧ w = w' := by
  have HR := Lib.hid (show P.cutF 0 0 s = P.cutL s from rfl)
  generalize P.cutL s = R at HR
  go_enter Tryz.func39, Tryz.ntmps39
  go_wp2
  go_loop [3, 4] (fun a i => ∃ (k m : Nat), k ≤ s.length ∧ a = .int .i64 m ∧ i = .int .i64 k ∧ Hid (P.cutF m k (s.drop k) = R)) (fun _ i => s.length - (intOf i).toNat)
  case atStart => exact ⟨0, 0, by omega, rfl, rfl, HR.out⟩
  case round =>
    obtain ⟨k, m, hk, rfl, rfl, HN⟩ := hrel
    by_cases hlt : k < s.length
    · obtain ⟨x, hx, hb, -⟩ := drop_cons s k hlt
      have HX := Lib.hid hx
      have HB := Lib.hid hb
      clear hx hb
      by_cases t1 : bt s k = 47
      · have u1 : (bt s k == 47) = true := by simpa using t1
        have HT := Lib.hid (show P.cutF k (k + 1) (s.drop (k + 1)) = R by
          have := HN.out
          rw [HX.out, P.cutF, if_pos (by rw [← HB.out]; exact t1)] at this
          exact this)
        clear t1
        go_wp2
        go_round
        case rel => exact ⟨k + 1, k, by omega, rfl, by go_num, HT.out⟩
        case measure => simp [intOf]; omega
      · have u1 : (bt s k == 47) = false := by simpa using t1
        have HT := Lib.hid (show P.cutF m (k + 1) (s.drop (k + 1)) = R by
          have := HN.out
          rw [HX.out, P.cutF, if_neg (by rw [← HB.out]; exact t1)] at this
          exact this)
        clear t1
        go_wp2
        go_round
        case rel => exact ⟨k + 1, m, by omega, rfl, by go_num, HT.out⟩
        case measure => simp [intOf]; omega
    · have HT := Lib.hid (show m = R by
        have := HN.out
        rw [List.drop_eq_nil_of_le (by omega), P.cutF] at this
        exact this)
      go_wp2
      go_ret
      exact ⟨ret_int (by rw [HT.out]), rfl⟩
end W
end Go.Proofs.YtmccfdmnidbalaaGreatDoor
