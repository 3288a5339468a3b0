/- Quote of chars' reference (out of my texts on chapter 1). -/
import Derived.Test.YtelhobphphkidaaGreatDoorQ09
import Derived.Test.YtelhobphphkidaaGreatDoorP01b
namespace Go.Proofs.YtelhobphphkidaaGreatDoor
open Go.RowKit K
namespace W

theorem Quote_ref (l : List UInt8) (w : World) (hl : l.length ≤ 100000000) :
    Calls Tryz.prog 23 #[.string ⟨l.toArray⟩] w fun e w' => e = .returned (.string ⟨(P.quote l).toArray⟩) ∧ w = w' := by
  by_cases hp : P.plainB l = true
  · have HG := Lib.hid (show P.quote l = l by simp [P.quote, hp])
    go_enter Tryz.func23, Tryz.ntmps23
    go_wp2_with (go_at_call 38; refine (Plain_ref _ _ (by omega)).mono ?_; rintro e w' ⟨rfl, rfl⟩)
    go_ret
    exact ⟨ret_str HG.out.symm, rfl⟩
  · have hp' : P.plainB l = false := by simpa using hp
    clear hp
    have HG := Lib.hid (show P.quote l = 39 :: (P.quoteBody l ++ [39]) by simp [P.quote, hp'])
    go_enter Tryz.func23, Tryz.ntmps23
    go_wp2_with (go_at_call 38; refine (Plain_ref _ _ (by omega)).mono ?_; rintro e w' ⟨rfl, rfl⟩)
    go_loop [3, 4] (fun o i => ∃ (k : Nat) (q : List UInt8), k ≤ l.length ∧ i = .int .i64 k ∧ o = .string ⟨q.toArray⟩ ∧ q.length ≤ 4 * k + 1 ∧ q ++ P.quoteBody (l.drop k) = 39 :: P.quoteBody l) (fun _ i => l.length - (intOf i).toNat)
    case atStart => exact ⟨0, [39], by omega, rfl, rfl, by simp, by simp⟩
    case round =>
      obtain ⟨k, q, hk, rfl, rfl, hq, hno⟩ := hrel
      have HN := Lib.hid hno
      clear hno
      by_cases hlt : k < l.length
      · obtain ⟨x, hx, hb, _⟩ := drop_cons l k hlt
        have HX := Lib.hid hx
        have HB := Lib.hid hb
        clear hx hb
        have HC := Lib.hid (cut_one l k hlt)
        go_wp2
        · rename_i h
          go_round
          case rel =>
            refine ⟨k + 1, q ++ [39, 92, 39, 39], by omega, by go_num, rfl, by simp; omega, ?_⟩
            rw [← HN.out, HX.out, P.quoteBody, show P.iv x = bt l k from HB.out.symm, h]; simp
          case measure => simp [intOf]; omega
        · rename_i h
          go_round
          case rel =>
            refine ⟨k + 1, q ++ cut l k (k + 1), by omega, by go_num, rfl, by simp; omega, ?_⟩
            rw [← HN.out, HX.out, P.quoteBody, show P.iv x = bt l k from HB.out.symm, h, HC.out, by8_bt HB.out]; simp
          case measure => simp [intOf]; omega
      · have HE := Lib.hid (drop_end l k hlt)
        go_wp2
        go_ret
        exact ⟨ret_str (by rw [HG.out, ← List.cons_append, ← HN.out, HE.out]; simp [P.quoteBody]), rfl⟩

end W
end Go.Proofs.YtelhobphphkidaaGreatDoor
