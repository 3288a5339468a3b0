/- Chapter 10: the reference's has and Delimiter. -/
import Derived.Test.YtggjhkmokgliaaaDoorW10q
namespace Go.Proofs.YtggjhkmokgliaaaDoor
open Go.RowKit K
namespace P
theorem bare_step (s : Str) (i m : Nat) (hi : i < s.length) (h1 : i ≤ m) (h2 : m ≤ s.length) (h3 : (10 : UInt8) ∉ cut s i m) (h4 : m = s.length ∨ s[m]? = some 10) : bare (s.drop i) = cut s i m :: bare (s.drop (m + 1)) := by
  rcases h4 with h4 | h4
  · subst h4
    have e1 : s.drop i = cut s i s.length := by unfold cut; rw [List.take_length]
    have e2 : s.drop (s.length + 1) = [] := List.drop_eq_nil_of_le (by omega)
    rw [e2]
    unfold bare
    rw [e1, lns_last h3 (by rw [← e1]; intro e; have := congrArg List.length e; simp at this; omega)]
    simp [chomp_no h3, lns]
  · obtain ⟨hm, he⟩ := List.getElem?_eq_some_iff.1 h4
    have e1 : s.drop i = cut s i m ++ 10 :: s.drop (m + 1) := by
      rw [drop_parts s i m h1 h2, List.drop_eq_getElem_cons hm, he]
    unfold bare
    rw [e1, lns_at h3]
    simp [chomp_nl]
end P
namespace W
set_option maxRecDepth 100000 in
theorem has_any (s t : List UInt8) (w : World) (hl : s.length ≤ 10000) : Calls Tryd.prog 20 #[.string ⟨s.toArray⟩, .string ⟨t.toArray⟩] w fun e w' => e = .returned (.bool (decide (t ∈ P.bare s))) ∧ w = w' := by
  go_enter Tryd.func20, Tryd.ntmps20
  go_wp2
  go_loop [5] (fun v => ∃ i : Nat, v = .int .i64 i ∧ i ≤ s.length + 1 ∧ Hid (t ∈ P.bare (s.drop i) ↔ t ∈ P.bare s)) (fun v => s.length + 1 - (intOf v).toNat)
  case atStart => exact ⟨0, rfl, Nat.zero_le _, by show _ ↔ _; simp⟩
  case round =>
    obtain ⟨i, rfl, hi, HN⟩ := hrel
    by_cases hlt : i < s.length
    · have HL := Lib.hid (line_any s i w hl (by omega))
      have i0 : (0 : Int) ≤ (i : Int) := by omega
      go_wp2_with fail
      refine HL.out.mono ?_
      rintro e w1 ⟨⟨m, rfl, h1, h2, h3, h4⟩, rfl⟩
      have HST := Lib.hid (P.bare_step s i m hlt h1 h2 h3 h4)
      have m1 : ((i : Int) ≤ (m : Int)) = True := eq_true (by omega)
      have m2 : ((m : Int) ≤ (s.length : Int)) = True := eq_true (by omega)
      clear h3 h4
      go_wp2
      · rename_i h
        have heq : cut s i m = t := by simpa using h
        go_ret
        exact ⟨ret_bool (by rw [eq_comm, decide_eq_true_eq, ← HN.out, HST.out, heq]; simp), rfl⟩
      · rename_i h
        have heq : ¬ cut s i m = t := by simpa using h
        refine ⟨⟨m + 1, by go_num, by omega, ?_⟩, ?_⟩
        · show _ ↔ _
          rw [← HN.out, HST.out]
          simp [Ne.symm heq]
        · simp [intOf]
          omega
    · go_wp2
      go_ret
      exact ⟨ret_bool (by rw [eq_comm, decide_eq_false_iff_not, ← HN.out, List.drop_eq_nil_of_le (by omega)]; simp [P.bare, P.lns]), rfl⟩
end W
end Go.Proofs.YtggjhkmokgliaaaDoor
