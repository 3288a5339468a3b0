/- Chapter 43: Valid of history and of its reference. -/
import Derived.Test.YtbiilbdflmiehaaDoorW43
namespace Go.Proofs.YtbiilbdflmiehaaDoor
open Go.RowKit K
namespace W

theorem Valid_ref (first : Int) (A : Option Addr) (c : Nat) (ls : List (List UInt8)) (M : Nat) (w : World) (hn : ls.length ≤ 8796093022208) (hS : SL w A ls) (hs : ∀ s ∈ ls, s.length ≤ M) (hM : M ≤ 1000000000) :
    Calls Tryd.prog 12 #[hv first A ls.length c] w fun e w' => e = .returned (.int .i64 (P.valid first ls)) ∧ Below w.heap.size w w' := by
  unfold hv
  obtain ⟨w0, h0, c0, c1, hb0, hsz0⟩ := box2 w (.int .i64 first) (.slice A ls.length c) 24
  have hS0 := hS.below hb0
  have H0 := Lib.hid h0
  clear h0
  have HS := Lib.hid hs
  clear hs
  by_cases h128 : 128 < ls.length
  · have HG := Lib.hid (show P.valid first ls = 4 by unfold P.valid; rw [if_pos h128])
    have f1 : ((128 : Int) < (ls.length : Int)) = True := eq_true (by omega)
    clear h128
    go_enter Tryd.func12, Tryd.ntmps12
    go_wp2
    rw [← H0.out]
    go_ret
    exact ⟨ret_int HG.out.symm, hb0⟩
  have f1 : ((128 : Int) < (ls.length : Int)) = False := eq_false (by omega)
  by_cases hr : first < 1 ∨ 2147483519 < first
  · have HG := Lib.hid (show P.valid first ls = 2 by unfold P.valid; rw [if_neg h128, if_pos hr])
    clear h128
    rcases hr with hr | hr
    all_goals
      go_enter Tryd.func12, Tryd.ntmps12
      go_wp2
      rw [← H0.out]
      go_ret
      exact ⟨ret_int HG.out.symm, hb0⟩
  have HG := Lib.hid (show P.valid first ls = P.lerrAt ls 0 by unfold P.valid; rw [if_neg h128, if_neg hr]; rfl)
  have g1 : 1 ≤ first := by omega
  have g2 : first ≤ 2147483519 := by omega
  have h128' := Lib.hid h128
  clear h128 hr
  rw [HG.out]
  go_enter Tryd.func12, Tryd.ntmps12
  go_wp2
  rw [← H0.out]
  go_loop [3] (fun i => ∃ k : Nat, k ≤ ls.length ∧ i = .int .i64 k ∧ P.lerrAt ls 0 = P.lerrAt ls k) (fun i => ls.length - (intOf i).toNat)
  case atStart => exact ⟨0, by omega, rfl, rfl⟩
  case round =>
    obtain ⟨k, hk, rfl, hno⟩ := hrel
    have HN := Lib.hid hno
    clear hno
    by_cases hlt : k < ls.length
    · obtain ⟨b, off, rfl, hb, hcell⟩ := hS0.get hlt
      have hsz := HS.out (ls.getD k []) (P.getD_mem hlt)
      obtain ⟨s, hs⟩ : ∃ s, ls.getD k [] = s := ⟨_, rfl⟩
      have HSS := Lib.hid hs
      rw [hs] at hcell hsz
      clear hs
      rcases Nat.eq_zero_or_pos k with hk0 | hk0
      · subst hk0
        simp only [Nat.add_zero] at hcell
        go_wp2_with (go_at_call 29; refine (feeds_ref s _ (by omega)).mono ?_; rintro e w' ⟨rfl, rfl⟩)
        all_goals first
          | (go_ret
             refine ⟨ret_int ?_, hb0⟩
             have q1 := HSS.out
             go_light
             first
               | exact (P.lerrAt_1 hlt (by rw [q1]; simp_all)).symm
               | exact (P.lerrAt_3 hlt (by rw [q1]; simp_all) (by rw [q1]; omega)).symm)
          | (go_round
             case rel =>
               refine ⟨0 + 1, by omega, by go_num, ?_⟩
               have q1 := HSS.out
               go_light
               exact P.lerrAt_next hlt (by rw [q1]; simp_all) (by rw [q1]; omega) (fun j hj => by omega)
             case measure => simp [intOf]; omega)
      · obtain ⟨j, rfl⟩ : ∃ j, k = j + 1 := ⟨k - 1, by omega⟩
        obtain ⟨b', off', hbo, _, hcj⟩ := hS0.get (k := j) (by omega)
        simp at hbo
        obtain ⟨rfl, rfl⟩ := hbo
        have hsj := HS.out (ls.getD j []) (P.getD_mem (by omega))
        obtain ⟨t, ht⟩ : ∃ t, ls.getD j [] = t := ⟨_, rfl⟩
        have HTT := Lib.hid ht
        rw [ht] at hcj hsj
        clear ht
        go_wp2_with (go_at_call 29; refine (feeds_ref s _ (by omega)).mono ?_; rintro e w' ⟨rfl, rfl⟩)
        all_goals first
          | (go_ret
             refine ⟨ret_int ?_, hb0⟩
             have q1 := HSS.out
             have q2 := HN.out
             have q3 := HTT.out
             go_light
             rw [q2]
             first
               | exact (P.lerrAt_1 hlt (by rw [q1]; simp_all)).symm
               | exact (P.lerrAt_3 hlt (by rw [q1]; simp_all) (by rw [q1]; omega)).symm
               | exact (P.lerrAt_9 hlt (by rw [q1]; simp_all) (by rw [q1]; omega) (by rw [q1, q3]; simp_all)).symm)
          | (go_round
             case rel =>
               refine ⟨j + 1 + 1, by omega, by go_num, ?_⟩
               have q1 := HSS.out
               have q2 := HN.out
               have q3 := HTT.out
               go_light
               rw [q2]
               exact P.lerrAt_next hlt (by rw [q1]; simp_all) (by rw [q1]; omega) (fun j' hj => by
                 obtain rfl : j = j' := by omega
                 rw [q1, q3]; simp_all)
             case measure => simp [intOf]; omega)
    · go_wp2
      go_ret
      exact ⟨ret_int (by rw [HN.out, P.lerrAt_end hlt]), hb0⟩
theorem Contains_nl (s : List UInt8) (w : World) :
    Calls Tryd.prog 28 #[.string ⟨s.toArray⟩, .string ⟨#[10]⟩] w fun e w' => e = .returned (.bool (P.feeds s)) ∧ w = w' :=
  (Tryd.strings_Contains_one ⟨s.toArray⟩ 10 w).mono fun _ _ ⟨h1, h2⟩ => ⟨h1.trans (ret_bool (P.feeds_index s)), h2.symm⟩

theorem Valid_any (first : Int) (A : Option Addr) (c : Nat) (ls : List (List UInt8)) (M : Nat) (w : World) (hn : ls.length ≤ 8796093022208) (hS : SL w A ls) (hs : ∀ s ∈ ls, s.length ≤ M) (_hM : M ≤ 1000000000) :
    Calls Tryd.prog 11 #[hv first A ls.length c] w fun e w' => e = .returned (.int .i64 (P.valid first ls)) ∧ Below w.heap.size w w' := by
  unfold hv
  obtain ⟨w0, h0, c0, c1, hb0, hsz0⟩ := box2 w (.int .i64 first) (.slice A ls.length c) 24
  have hS0 := hS.below hb0
  have H0 := Lib.hid h0
  clear h0
  have HS := Lib.hid hs
  clear hs
  by_cases h128 : 128 < ls.length
  · have HG := Lib.hid (show P.valid first ls = 4 by unfold P.valid; rw [if_pos h128])
    have f1 : ((128 : Int) < (ls.length : Int)) = True := eq_true (by omega)
    clear h128
    go_enter Tryd.func11, Tryd.ntmps11
    go_wp2
    rw [← H0.out]
    go_ret
    exact ⟨ret_int HG.out.symm, hb0⟩
  have f1 : ((128 : Int) < (ls.length : Int)) = False := eq_false (by omega)
  by_cases hr : first < 1 ∨ 2147483519 < first
  · have HG := Lib.hid (show P.valid first ls = 2 by unfold P.valid; rw [if_neg h128, if_pos hr])
    clear h128
    rcases hr with hr | hr
    all_goals
      go_enter Tryd.func11, Tryd.ntmps11
      go_wp2
      rw [← H0.out]
      go_ret
      exact ⟨ret_int HG.out.symm, hb0⟩
  have HG := Lib.hid (show P.valid first ls = P.lerrAt ls 0 by unfold P.valid; rw [if_neg h128, if_neg hr]; rfl)
  have g1 : 1 ≤ first := by omega
  have g2 : first ≤ 2147483519 := by omega
  have h128' := Lib.hid h128
  clear h128 hr
  rw [HG.out]
  go_enter Tryd.func11, Tryd.ntmps11
  go_wp2
  rw [← H0.out]
  go_loop [20] (fun i => ∃ k : Nat, k ≤ ls.length ∧ i = .int .i64 k ∧ P.lerrAt ls 0 = P.lerrAt ls k) (fun i => ls.length - (intOf i).toNat)
  case atStart => exact ⟨0, by omega, rfl, rfl⟩
  case round =>
    obtain ⟨k, hk, rfl, hno⟩ := hrel
    have HN := Lib.hid hno
    clear hno
    by_cases hlt : k < ls.length
    · obtain ⟨b, off, rfl, hb, hcell⟩ := hS0.get hlt
      have hsz := HS.out (ls.getD k []) (P.getD_mem hlt)
      obtain ⟨s, hs⟩ : ∃ s, ls.getD k [] = s := ⟨_, rfl⟩
      have HSS := Lib.hid hs
      rw [hs] at hcell hsz
      clear hs
      rcases Nat.eq_zero_or_pos k with hk0 | hk0
      · subst hk0
        simp only [Nat.add_zero] at hcell
        go_wp2_with (go_at_call 28; refine (Contains_nl s _).mono ?_; rintro e w' ⟨rfl, rfl⟩)
        all_goals first
          | (go_ret
             refine ⟨ret_int ?_, hb0⟩
             have q1 := HSS.out
             go_light
             first
               | exact (P.lerrAt_1 hlt (by rw [q1]; simp_all)).symm
               | exact (P.lerrAt_3 hlt (by rw [q1]; simp_all) (by rw [q1]; omega)).symm)
          | (go_round
             case rel =>
               refine ⟨0 + 1, by omega, by go_num, ?_⟩
               have q1 := HSS.out
               go_light
               exact P.lerrAt_next hlt (by rw [q1]; simp_all) (by rw [q1]; omega) (fun j hj => by omega)
             case measure => simp [intOf]; omega)
      · obtain ⟨j, rfl⟩ : ∃ j, k = j + 1 := ⟨k - 1, by omega⟩
        obtain ⟨b', off', hbo, _, hcj⟩ := hS0.get (k := j) (by omega)
        simp at hbo
        obtain ⟨rfl, rfl⟩ := hbo
        have hsj := HS.out (ls.getD j []) (P.getD_mem (by omega))
        obtain ⟨t, ht⟩ : ∃ t, ls.getD j [] = t := ⟨_, rfl⟩
        have HTT := Lib.hid ht
        rw [ht] at hcj hsj
        clear ht
        go_wp2_with (go_at_call 28; refine (Contains_nl s _).mono ?_; rintro e w' ⟨rfl, rfl⟩)
        all_goals first
          | (go_ret
             refine ⟨ret_int ?_, hb0⟩
             have q1 := HSS.out
             have q2 := HN.out
             have q3 := HTT.out
             go_light
             rw [q2]
             first
               | exact (P.lerrAt_1 hlt (by rw [q1]; simp_all)).symm
               | exact (P.lerrAt_3 hlt (by rw [q1]; simp_all) (by rw [q1]; omega)).symm
               | exact (P.lerrAt_9 hlt (by rw [q1]; simp_all) (by rw [q1]; omega) (by rw [q1, q3]; simp_all)).symm)
          | (go_round
             case rel =>
               refine ⟨j + 1 + 1, by omega, by go_num, ?_⟩
               have q1 := HSS.out
               have q2 := HN.out
               have q3 := HTT.out
               go_light
               rw [q2]
               exact P.lerrAt_next hlt (by rw [q1]; simp_all) (by rw [q1]; omega) (fun j' hj => by
                 obtain rfl : j = j' := by omega
                 rw [q1, q3]; simp_all)
             case measure => simp [intOf]; omega)
    · go_wp2
      go_ret
      exact ⟨ret_int (by rw [HN.out, P.lerrAt_end hlt]), hb0⟩
end W
end Go.Proofs.YtbiilbdflmiehaaDoor
