/- Chapter 10: the law HeredocTabs. -/
import Derived.Test.YtggjhkmokgliaaaDoorV10b
import Derived.Deep.RegionHeld3
import Derived.IntWalk
namespace Go.Proofs.YtggjhkmokgliaaaDoor
open Go.RowKit K
namespace W
theorem wf_u8 {n : Int} (h : (Lit.int .u8 n).wf = true) : 0 ≤ n ∧ n ≤ 255 := by
  simp [Lit.wf, IntKind.min, IntKind.max, IntKind.bits, IntKind.signed] at h
  omega
set_option maxRecDepth 100000 in
set_option maxHeartbeats 4000000 in
/-- The part behind the conditions. -/
theorem Tabs_ok (s : List UInt8) (t : Nat) (w : World) (hw : Env w) (hs : s.length ≤ 500) (ht : t ≤ 9) (c3 : s = [] ∨ (s ≠ [] ∧ bt s (s.length - 1) = 10)) :
    Calls Tryd.prog 6 #[.string ⟨s.toArray⟩, .int .u8 t] w fun e w' => e = .returned (.bool true) ∧ Below w.heap.size w w' := by
  have HP := Lib.hid (P.doc_tabs s t (by rcases c3 with rfl | ⟨h, hb⟩; exact .inl rfl; exact last_bt h hb))
  have HSL := P.stripP_len s
  obtain ⟨q, hq⟩ : ∃ q, q = P.stripP s := ⟨_, rfl⟩
  have h1 := Lib.hid (show ∀ v, Calls Tryd.prog 9 #[.string ⟨s.toArray⟩] v fun e w' => e = .returned (.string ⟨q.toArray⟩) ∧ v = w' from fun v => by rw [hq, ← P.stripR_eq]; exact StripR_any s v (by omega))
  rw [← hq] at HP HSL
  clear hq
  have hdl := P.delP_len q
  have h2 := Lib.hid (fun v => DelimiterR_any q v (by omega))
  generalize P.delP q = d at h2 HP hdl
  obtain ⟨E, hE⟩ : ∃ E, E = P.tabs t d := ⟨_, rfl⟩
  have HEE := Lib.hid hE
  have hEl : E.length = t + d.length := by rw [hE]; exact P.tabs_len t d
  rw [← hE] at HP
  clear hE
  obtain ⟨n, hn⟩ : ∃ n : Nat, n = s.length + E.length := ⟨_, rfl⟩
  rw [← hn] at HP
  have HRD := Lib.hid (fun (x : List UInt8) (hx : x = s ++ E) (b : Nat) (v : World) h0 h1 h2 => Read_one x b 0 1 d q n true false v (by rw [hx]; simp; omega) h0 h1 h2 (by rw [hx]; exact HP.out))
  clear HP
  have HW := Lib.hid hw
  have HN := Lib.hid hn
  have hEu : E.length ≤ 1000 := by omega
  have HEl := Lib.hid hEl
  have c1 : ((500 : Int) < (s.length : Int)) = False := eq_false (by omega)
  have c2 : ((9 : Int) < (t : Int)) = False := eq_false (by omega)
  have t0 : (0 : Int) ≤ (t : Int) := by omega
  have t9 : (t : Int) ≤ 9 := by omega
  clear hw hn hEl
  go_enter Tryd.func6, Tryd.ntmps6
  rcases c3 with rfl | ⟨c3, c3b⟩
  all_goals (try have c3c := nz_len c3)
  all_goals (try have c3f := nz_emp c3)
  all_goals (try have c3d : (1 : Int) ≤ s.length := by omega)
  all_goals (try have c3e : ((s.length : Int) - 1 < s.length) := by omega)
  all_goals
    go_wp2_with fail
    refine (h1.out _).mono ?_
    rintro e w1 ⟨rfl, rfl⟩
    go_wp2_with fail
    refine (h2.out _).mono ?_
    rintro e w1 ⟨rfl, rfl⟩
    go_wp2
    go_loop [6, 7] (fun x i => ∃ k : Nat, i = .int .i64 k ∧ k ≤ t ∧ x = .string ⟨(P.tabs k d).toArray⟩) (fun _ i => t - (intOf i).toNat)
    case atStart => exact ⟨0, rfl, Nat.zero_le _, rfl⟩
    case round =>
      obtain ⟨k, rfl, hk, rfl⟩ := hrel
      have hkl := P.tabs_len k d
      have HKL := Lib.hid hkl
      have hkl2 : (P.tabs k d).length ≤ 1000 := by omega
      clear hkl
      by_cases hlt : k < t
      · go_wp2
        go_round
        case rel => exact ⟨k + 1, by go_num, by omega, rfl⟩
        case measure => simp [intOf]; omega
      · obtain rfl : k = t := by omega
        rw [← HEE.out]
        go_wp2_with fail
        refine (HRD.out _ (by simp) _ _ (by simp) (by simp) (by simp)).mono ?_
        rintro e w2 ⟨r, c, rfl, hq, hb2⟩
        have HB2 := Lib.hid (btr (balloc _ _) hb2)
        clear hb2
        have HAW := Lib.hid (fun v (hb : Below w.heap.size w v) => awake_any v (HW.out.below hb))
        rw [HN.out]
        go_wp2
        have HQ := Lib.hid hq
        (try have wr1 : IntKind.i64.wrap ((s.length : Int) + (E.length : Int)) = (s.length : Int) + (E.length : Int) := IntWalk.i64_in _ (by omega))
        have wr2 : IntKind.i64.wrap (E.length : Int) = (E.length : Int) := IntWalk.i64_in _ (by omega)
        go_region_held3 (fun w' => w'.cell? ⟨r, 0, none⟩ = some (.string ⟨q.toArray⟩) ∧ Below w2.heap.size w2 w')
          (first | exact ⟨by simpa using hq, (Below.refl _ _).drew⟩ | (go_split_ands; exact ⟨cell_below (btr ‹Below w2.heap.size w2 _› ‹_›) HQ.out, btr ‹Below w2.heap.size w2 _› ‹_›⟩) | go_keep)
          (first
            | (go_at_call 9; refine (h1.out _).mono ?_; rintro e w5 ⟨rfl, rfl⟩)
            | (go_at_call 7; go_split_ands; refine (HAW.out _ (btr HB2.out ‹Below w2.heap.size w2 _›)).mono ?_; rintro e w5 ⟨rfl, hb5⟩))
        all_goals go_wp2
        all_goals go_split_ands
        all_goals go_ret
        all_goals exact ⟨rfl, btr HB2.out ‹Below w2.heap.size w2 _›⟩
set_option maxRecDepth 100000 in
set_option maxHeartbeats 4000000 in
theorem HeredocTabs_any (s : List UInt8) (t : Int) (htw : (Lit.int .u8 t).wf = true) (w : World) (hw : Env w) : Calls Tryd.prog 6 #[.string ⟨s.toArray⟩, .int .u8 t] w fun e w' => e = .returned (.bool true) ∧ Below w.heap.size w w' := by
  obtain ⟨ht0, ht1⟩ := wf_u8 htw
  clear htw
  by_cases hs : s.length ≤ 500
  case neg =>
    have c1 : ((500 : Int) < (s.length : Int)) = True := eq_true (by omega)
    go_enter Tryd.func6, Tryd.ntmps6
    go_wp2_with fail
    refine (awake_any _ hw).mono ?_
    rintro e w3 ⟨rfl, hb3⟩
    go_wp2
    go_ret
    exact ⟨rfl, hb3⟩
  by_cases ht : t ≤ 9
  case neg =>
    have c1 : ((500 : Int) < (s.length : Int)) = False := eq_false (by omega)
    have c2 : ((9 : Int) < t) = True := eq_true (by omega)
    go_enter Tryd.func6, Tryd.ntmps6
    go_wp2_with fail
    refine (awake_any _ hw).mono ?_
    rintro e w3 ⟨rfl, hb3⟩
    go_wp2
    go_ret
    exact ⟨rfl, hb3⟩
  by_cases c3 : s = [] ∨ (s ≠ [] ∧ bt s (s.length - 1) = 10)
  case neg =>
    have c1 : ((500 : Int) < (s.length : Int)) = False := eq_false (by omega)
    have c2 : ((9 : Int) < t) = False := eq_false (by omega)
    have h0 : s ≠ [] := fun e => c3 (.inl e)
    have h1 : ¬ bt s (s.length - 1) = 10 := fun e => c3 (.inr ⟨h0, e⟩)
    have c3c := nz_len h0
    have h0e := nz_emp h0
    have h1e := bne_of h1
    have c3d : (1 : Int) ≤ s.length := by omega
    have c3e : ((s.length : Int) - 1 < s.length) := by omega
    clear c3
    go_enter Tryd.func6, Tryd.ntmps6
    go_wp2_with fail
    refine (awake_any _ hw).mono ?_
    rintro e w3 ⟨rfl, hb3⟩
    go_wp2
    go_ret
    exact ⟨rfl, hb3⟩
  obtain ⟨n, rfl⟩ := Int.eq_ofNat_of_zero_le ht0
  exact Tabs_ok s n w hw hs (by omega) c3
end W
end Go.Proofs.YtggjhkmokgliaaaDoor
