/- Chapter 10: the reference's line, has, number. -/
import Derived.Test.YtggjhkmokgliaaaDoorW10p
namespace Go.Proofs.YtggjhkmokgliaaaDoor
open Go.RowKit K
namespace P
theorem cut_snoc (s : Str) (k m : Nat) (x : UInt8) (hk : k ≤ m) (hx : s[m]? = some x) : cut s k (m + 1) = cut s k m ++ [x] := by
  unfold cut
  obtain ⟨hm, he⟩ := List.getElem?_eq_some_iff.1 hx
  rw [List.take_add_one, hx]
  simp only [Option.toList_some]
  rw [List.drop_append_of_le_length (by simp; omega)]
theorem drop_parts (s : Str) (k m : Nat) (hk : k ≤ m) (hm : m ≤ s.length) : s.drop k = cut s k m ++ s.drop m := by
  unfold cut
  conv => lhs; rw [← List.take_append_drop m s]
  rw [List.drop_append_of_le_length (by simp; omega)]
end P
namespace W
set_option maxRecDepth 100000 in
theorem line_any (s : List UInt8) (k : Nat) (w : World) (hl : s.length ≤ 10000) (hk : k ≤ s.length) : Calls Tryd.prog 33 #[.string ⟨s.toArray⟩, .int .i64 k] w fun e w' => (∃ m : Nat, e = .returned (.int .i64 m) ∧ k ≤ m ∧ m ≤ s.length ∧ (10 : UInt8) ∉ cut s k m ∧ (m = s.length ∨ s[m]? = some 10)) ∧ w = w' := by
  go_enter Tryd.func33, Tryd.ntmps33
  go_wp2
  go_loop [1] (fun i => ∃ m : Nat, i = .int .i64 m ∧ k ≤ m ∧ m ≤ s.length ∧ Hid ((10 : UInt8) ∉ cut s k m)) (fun i => s.length - (intOf i).toNat)
  case atStart => exact ⟨k, rfl, Nat.le_refl _, hk, by show (10 : UInt8) ∉ cut s k k; unfold cut; rw [List.drop_eq_nil_of_le (by simp; omega)]; simp⟩
  case round =>
    obtain ⟨m, rfl, h1, h2, HN⟩ := hrel
    by_cases hlt : m < s.length
    · obtain ⟨x, -, hb, hx⟩ := drop_cons s m hlt
      have HB := Lib.hid hb
      have HX := Lib.hid hx
      clear hb hx
      by_cases h10 : bt s m = 10
      · go_wp2
        go_ret
        exact ⟨⟨m, rfl, h1, h2, HN.out, .inr (by rw [HX.out, (bt_is HB.out 10).1 h10])⟩, rfl⟩
      · go_wp2
        go_round
        case rel => exact ⟨m + 1, by go_num, by omega, by omega, by show (10 : UInt8) ∉ cut s k (m + 1); rw [P.cut_snoc s k m x h1 HX.out]; have := mt (bt_is HB.out 10).2 h10; simp only [List.mem_append, List.mem_singleton, not_or]; exact ⟨HN.out, fun e => this e.symm⟩⟩
        case measure => simp [intOf]; omega
    · obtain rfl : m = s.length := by omega
      go_wp2
      go_ret
      exact ⟨⟨s.length, rfl, h1, h2, HN.out, .inl rfl⟩, rfl⟩
set_option maxRecDepth 100000 in
theorem number_small (n : Nat) (h : n < 10) (w : World) : Calls Tryd.prog 21 #[.int .i64 n] w fun e w' => e = .returned (.string ⟨(Lib.decDigits n).toArray⟩) ∧ w = w' := by
  have hc : cut [48, 49, 50, 51, 52, 53, 54, 55, 56, 57] n (n + 1) = Lib.decDigits n := by
    rw [Lib.decDigits, dif_pos h]
    match n, h with
    | 0, _ => rfl
    | 1, _ => rfl
    | 2, _ => rfl
    | 3, _ => rfl
    | 4, _ => rfl
    | 5, _ => rfl
    | 6, _ => rfl
    | 7, _ => rfl
    | 8, _ => rfl
    | 9, _ => rfl
  have h1 : ((n : Int) < 10) = True := eq_true (by omega)
  have h2 : (0 : Int) ≤ (n : Int) := by omega
  have h3 : ((n : Int) + 1 ≤ 10) = True := eq_true (by omega)
  go_enter Tryd.func21, Tryd.ntmps21
  go_wp2
  go_ret
  exact ⟨rfl, rfl⟩
theorem number_any : ∀ (d n : Nat), n ≤ d → n ≤ 100000 → ∀ (w : World), Calls Tryd.prog 21 #[.int .i64 n] w fun e w' => e = .returned (.string ⟨(Lib.decDigits n).toArray⟩) ∧ w = w'
  | 0, n, h, _ => number_small n (by omega)
  | d + 1, n, h, hn => by
    intro w
    rcases Nat.lt_or_ge n 10 with h10 | h10
    · exact number_small n h10 w
    · have HA := Lib.hid (number_any d (n / 10) (by omega) (by omega))
      have HB := Lib.hid (number_small (n % 10) (by omega))
      have HE := Lib.hid (show Lib.decDigits n = Lib.decDigits (n / 10) ++ Lib.decDigits (n % 10) by
        conv => lhs; rw [Lib.decDigits]
        rw [dif_neg (by omega)]
        congr 1
        rw [Lib.decDigits, dif_pos (by omega)])
      have hlen : (Lib.decDigits (n / 10)).length ≤ 100002 := by have := P.nDig_le (n / 10) (n / 10) (Nat.le_refl _); rw [Lib.decDigits_length]; omega
      have hlen2 : (Lib.decDigits (n % 10)).length ≤ 100002 := by have := P.nDig_le (n % 10) (n % 10) (Nat.le_refl _); rw [Lib.decDigits_length]; omega
      have h1 : ((n : Int) < 10) = False := eq_false (by omega)
      have HA2 := Lib.hid (show ∀ (w : World), Calls Tryd.prog 21 #[.int .i64 ((n : Int) / 10)] w fun e w' => e = .returned (.string ⟨(Lib.decDigits (n / 10)).toArray⟩) ∧ w = w' from by rw [show ((n : Int) / 10) = ((n / 10 : Nat) : Int) by omega]; exact HA.out)
      have HB2 := Lib.hid (show ∀ (w : World), Calls Tryd.prog 21 #[.int .i64 ((n : Int) % 10)] w fun e w' => e = .returned (.string ⟨(Lib.decDigits (n % 10)).toArray⟩) ∧ w = w' from by rw [show ((n : Int) % 10) = ((n % 10 : Nat) : Int) by omega]; exact HB.out)
      go_enter Tryd.func21, Tryd.ntmps21
      go_wp2_with fail
      refine (HA2.out w).mono ?_
      rintro e w1 ⟨rfl, rfl⟩
      go_wp2_with fail
      refine (HB2.out _).mono ?_
      rintro e w2 ⟨rfl, rfl⟩
      go_wp2
      go_ret
      exact ⟨ret_str HE.out.symm, rfl⟩
end W
end Go.Proofs.YtggjhkmokgliaaaDoor
