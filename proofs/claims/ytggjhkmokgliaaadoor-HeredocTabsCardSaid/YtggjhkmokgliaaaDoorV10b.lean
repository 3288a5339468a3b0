/- Chapter 10: the law HeredocRounds. -/
import Derived.Test.YtggjhkmokgliaaaDoorW10s
import Derived.Test.YtggjhkmokgliaaaDoorP10d
namespace Go.Proofs.YtggjhkmokgliaaaDoor
open Go.RowKit K
namespace W
theorem last_bt {s : List UInt8} (h : s ≠ []) (hb : bt s (s.length - 1) = 10) : P.ended s := by
  right
  rw [List.getLast?_eq_getElem?]
  have hl := List.length_pos_iff.2 h
  obtain ⟨x, -, h1, h2⟩ := drop_cons s (s.length - 1) (by omega)
  rw [h2, (bt_is h1 10).1 hb]
theorem head_bt {s : List UInt8} (h : s ≠ []) (hb : bt s 0 = 10) : ∃ r, s = 10 :: r := by
  cases s with
  | nil => exact absurd rfl h
  | cons c r =>
    refine ⟨r, ?_⟩
    have := (bt_is (s := c :: r) (k := 0) (x := c) rfl 10).1 hb
    rw [this]
/-- What the law does with a string that ends as it should: the parts of the test. -/
theorem nz_len {s : List UInt8} (h : s ≠ []) : 0 < s.length := List.length_pos_iff.2 h
theorem nz_emp {s : List UInt8} (h : s ≠ []) : s.isEmpty = false := by cases s with | nil => exact absurd rfl h | cons a b => rfl
theorem bne_of {a b : Int} (h : ¬ a = b) : (a != b) = true := by simpa using h
set_option maxRecDepth 100000 in
set_option maxHeartbeats 4000000 in
/-- The part behind the conditions. -/
theorem Rounds_ok (s t : List UInt8) (w : World) (hw : Env w) (hs : s.length ≤ 1000) (ht : t.length ≤ 1000)
    (c3 : s = [] ∨ (s ≠ [] ∧ bt s (s.length - 1) = 10)) (c4 : t = [] ∨ (t ≠ [] ∧ bt t 0 = 10)) : Calls Tryd.prog 5 #[.string ⟨s.toArray⟩, .string ⟨t.toArray⟩] w fun e w' => e = .returned (.bool true) ∧ Below w.heap.size w w' := by
  have h1 := Lib.hid (Delimiter_any s w (by omega) hw)
  have HP := Lib.hid (P.doc_round s t (by rcases c3 with rfl | ⟨h, hb⟩; exact .inl rfl; exact last_bt h hb) (by rcases c4 with rfl | ⟨h, hb⟩; exact .inl rfl; exact .inr (head_bt h hb)))
  have hdl := P.delP_len s
  generalize P.delP s = d at h1 HP hdl
  obtain ⟨n, hn⟩ : ∃ n : Nat, n = s.length + d.length + (if t = [] then 0 else 1) := ⟨_, rfl⟩
  rw [← hn] at HP
  have HRD := Lib.hid (fun (x : List UInt8) (hx : x = s ++ (d ++ t)) (b : Nat) (v : World) h0 h1 h2 => Read_one x b 0 1 d s n false false v (by rw [hx]; simp; omega) h0 h1 h2 (by rw [hx]; exact HP.out))
  clear HP
  have HW := Lib.hid hw
  have c1 : ((1000 : Int) < (s.length : Int)) = False := eq_false (by omega)
  have c2 : ((1000 : Int) < (t.length : Int)) = False := eq_false (by omega)
  clear hw
  go_enter Tryd.func5, Tryd.ntmps5
  rcases c3 with rfl | ⟨c3, c3b⟩ <;> rcases c4 with rfl | ⟨c4, c4b⟩
  all_goals (try have c3c := nz_len c3); (try have c4c := nz_len c4)
  all_goals (try have c3f := nz_emp c3); (try have c4f := nz_emp c4)
  all_goals (try have c3d : (1 : Int) ≤ s.length := by omega); (try have c4d : (0 < t.length) = True := eq_true c4c)
  all_goals (try have c3e : ((s.length : Int) - 1 < s.length) := by omega)
  all_goals (try rw [if_pos rfl] at hn); (try rw [if_neg c4] at hn)
  all_goals
    go_wp2_with fail
    refine h1.out.mono ?_
    rintro e w1 ⟨rfl, hb1⟩
    have HB1 := Lib.hid hb1
    clear hb1
    go_wp2_with fail
    refine (HRD.out _ (by simp) _ _ (by simp) (by simp) (by simp)).mono ?_
    rintro e w2 ⟨q, c, rfl, hq, hb2⟩
    have HB2 := Lib.hid (btr (btr HB1.out (balloc _ _)) hb2)
    clear hb2
    subst hn
    go_wp2_with fail
    refine (awake_any _ (HW.out.below HB2.out)).mono ?_
    rintro e w3 ⟨rfl, hb3⟩
    have HB3 := Lib.hid (btr HB2.out hb3)
    clear hb3
    go_wp2
    go_ret
    exact ⟨rfl, HB3.out⟩
set_option maxRecDepth 100000 in
set_option maxHeartbeats 4000000 in
theorem HeredocRounds_any (s t : List UInt8) (w : World) (hw : Env w) : Calls Tryd.prog 5 #[.string ⟨s.toArray⟩, .string ⟨t.toArray⟩] w fun e w' => e = .returned (.bool true) ∧ Below w.heap.size w w' := by
  by_cases hs : s.length ≤ 1000
  case neg =>
    have c1 : ((1000 : Int) < (s.length : Int)) = True := eq_true (by omega)
    go_enter Tryd.func5, Tryd.ntmps5
    go_wp2_with fail
    refine (awake_any _ hw).mono ?_
    rintro e w3 ⟨rfl, hb3⟩
    go_wp2
    go_ret
    exact ⟨rfl, hb3⟩
  by_cases ht : t.length ≤ 1000
  case neg =>
    have c1 : ((1000 : Int) < (s.length : Int)) = False := eq_false (by omega)
    have c2 : ((1000 : Int) < (t.length : Int)) = True := eq_true (by omega)
    go_enter Tryd.func5, Tryd.ntmps5
    go_wp2_with fail
    refine (awake_any _ hw).mono ?_
    rintro e w3 ⟨rfl, hb3⟩
    go_wp2
    go_ret
    exact ⟨rfl, hb3⟩
  by_cases c3 : s = [] ∨ (s ≠ [] ∧ bt s (s.length - 1) = 10)
  case neg =>
    have c1 : ((1000 : Int) < (s.length : Int)) = False := eq_false (by omega)
    have c2 : ((1000 : Int) < (t.length : Int)) = False := eq_false (by omega)
    have h0 : s ≠ [] := fun e => c3 (.inl e)
    have h1 : ¬ bt s (s.length - 1) = 10 := fun e => c3 (.inr ⟨h0, e⟩)
    have c3c := nz_len h0
    have h0e := nz_emp h0
    have h1e := bne_of h1
    have c3d : (1 : Int) ≤ s.length := by omega
    have c3e : ((s.length : Int) - 1 < s.length) := by omega
    clear c3
    go_enter Tryd.func5, Tryd.ntmps5
    go_wp2_with fail
    refine (awake_any _ hw).mono ?_
    rintro e w3 ⟨rfl, hb3⟩
    go_wp2
    go_ret
    exact ⟨rfl, hb3⟩
  by_cases c4 : t = [] ∨ (t ≠ [] ∧ bt t 0 = 10)
  case pos => exact Rounds_ok s t w hw hs ht c3 c4
  have c1 : ((1000 : Int) < (s.length : Int)) = False := eq_false (by omega)
  have c2 : ((1000 : Int) < (t.length : Int)) = False := eq_false (by omega)
  have h0 : t ≠ [] := fun e => c4 (.inl e)
  have h1 : ¬ bt t 0 = 10 := fun e => c4 (.inr ⟨h0, e⟩)
  have c4c := nz_len h0
  have h0e := nz_emp h0
  have h1e := bne_of h1
  have c4d : (0 < t.length) = True := eq_true c4c
  clear c4
  rcases c3 with rfl | ⟨c3, c3b⟩
  all_goals (try have c3c := nz_len c3)
  all_goals (try have c3f := nz_emp c3)
  all_goals (try have c3d : (1 : Int) ≤ s.length := by omega)
  all_goals (try have c3e : ((s.length : Int) - 1 < s.length) := by omega)
  all_goals
    go_enter Tryd.func5, Tryd.ntmps5
    go_wp2_with fail
    refine (awake_any _ hw).mono ?_
    rintro e w3 ⟨rfl, hb3⟩
    go_wp2
    go_ret
    exact ⟨rfl, hb3⟩
end W
end Go.Proofs.YtggjhkmokgliaaaDoor
