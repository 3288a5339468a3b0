/- Several texts in one: R07f R07g R07h R09a R09b R09c R09d. -/
import Derived.Test.YtcbdhheelddgeaaGreatDoorYA
import Derived.Test.YtcbdhheelddgeaaGreatDoorZL
import Derived.Laws.Tables
import Derived.Test.YtcbdhheelddgeaaGreatDoorZB
import Derived.Test.YtcbdhheelddgeaaGreatDoorPB
import Derived.Test.YtcbdhheelddgeaaGreatDoorG15
import Derived.Test.YtcbdhheelddgeaaGreatDoorZH
import Derived.Test.YtcbdhheelddgeaaGreatDoorZI
import Derived.Deep.RegionLaw
namespace Go.Proofs.YtcbdhheelddgeaaGreatDoor
open Go.RowKit K
namespace LX
theorem bl_all : ∀ n : Nat, n < 256 → P.bl (n : Int) = blank (n : Int) ∧ P.dg (n : Int) = digit (n : Int) := by decide +kernel
theorem bl_bt (s : Str) (i : Nat) : P.bl (bt s i) = blank (bt s i) := by
 obtain ⟨n, h1, h2⟩ := bt_nat s i
 rw [h2]; exact (bl_all n h1).1
theorem dg_bt (s : Str) (i : Nat) : P.dg (bt s i) = digit (bt s i) := by
 obtain ⟨n, h1, h2⟩ := bt_nat s i
 rw [h2]; exact (bl_all n h1).2
theorem comment_stop {s : Str} {i : Nat} (h : comment s i < s.length) : bt s (comment s i) = 10 := by
 unfold comment at h ⊢
 cases hf : find s i 10 with
 | none => rw [hf] at h; dsimp only at h; omega
 | some n =>
  obtain ⟨-, h2, -⟩ := find_some hf
  exact bt_some h2
theorem hash_no (s : Str) (i : Nat) (h : bt s i = 35) : blank (bt s i) = false ∧ joins s i = false := by
 refine ⟨by rw [h]; decide, ?_⟩
 cases hj : joins s i with
 | false => rfl
 | true =>
  have := (joins_iff.1 hj).1
  omega
theorem joins_no35 {s : Str} {i : Nat} (h : joins s i = true) : ¬ bt s i = 35 ∧ blank (bt s i) = false := by
 have := (joins_iff.1 h).1
 exact ⟨by omega, by rw [this]; decide⟩
end LX
namespace W
set_option maxRecDepth 100000
theorem rx_limited (z : Int) (n : Nat) (w : World) : Calls Tryz.prog 103 #[.int .i64 z, .int .i64 n] w fun e w' => e = .returned (.int .i64 (max 0 (min z n))) ∧ w = w' := by
 go_enter Tryz.func103, Tryz.ntmps103
 go_wp2
 go_ret
 exact ⟨rfl, rfl⟩
set_option maxHeartbeats 1000000 in
theorem rx_skip (s : List UInt8) (x : Int) (w : World) (hl : s.length ≤ 100000) : Calls Tryz.prog 77 #[.string ⟨s.toArray⟩, .int .i64 x] w fun e w' => e = .returned (.int .i64 (LX.skipTo s (LX.clamp s x))) ∧ w = w' := by
 have HLM := Lib.hid (rx_limited x s.length w)
 have HCL := Lib.hid (LX.clamp_eq s x)
 rw [HCL.out] at HLM
 have hcl := LX.clamp_le s x
 generalize LX.clamp s x = a at HCL HLM hcl
 obtain ⟨R, hR⟩ : ∃ R, R = LX.skipTo s a := ⟨_, rfl⟩
 have HR := Lib.hid (show LX.skip (s.length + 1) s a = R from hR.symm)
 rw [← hR]
 clear hR HCL
 go_enter Tryz.func77, Tryz.ntmps77
 go_wp2_with fail
 refine HLM.out.mono ?_
 rintro e w1 ⟨rfl, rfl⟩
 go_wp2
 go_loop [1] (fun v => ∃ i g : Nat, v = .int .i64 i ∧ i ≤ s.length ∧ Hid (s.length - i + 1 ≤ g ∧ LX.skip g s i = R)) (fun v => s.length - (intOf v).toNat)
 case atStart => exact ⟨a, s.length + 1, rfl, hcl, by omega, HR.out⟩
 case round =>
  obtain ⟨i, g, rfl, hi, HG⟩ := hrel
  obtain ⟨g, rfl⟩ : ∃ g', g = g' + 1 := ⟨g - 1, by have := HG.out; omega⟩
  have HE := HG.out.2
  rw [LX.skip] at HE
  by_cases hlt : i < s.length
  ·rw [if_pos hlt] at HE
   have HBL := Lib.hid (rx_blank (bt s i) w)
   have HJ := Lib.hid (rx_joined s i w hl hi)
   by_cases h35 : bt s i = 35
   ·obtain ⟨n1, n2⟩ := LX.hash_no s i h35
    rw [if_neg (by rw [n1]; simp), if_neg (by rw [n2]; simp), if_pos h35] at HE
    have HCM := Lib.hid (rx_comment s i w hi hl)
    have hstop : LX.skip g s (LX.comment s i) = LX.comment s i := by
     have hc1 := LX.comment_lt hlt (by rw [h35]; decide)
     have hc2 := LX.comment_le s i
     obtain ⟨g, rfl⟩ : ∃ g', g = g' + 1 := ⟨g - 1, by have := HG.out; omega⟩
     rw [LX.skip]
     by_cases hc3 : LX.comment s i < s.length
     ·rw [if_pos hc3]
      have hc4 := LX.comment_stop hc3
      have hj : LX.joins s (LX.comment s i) = false := by
       cases hj : LX.joins s (LX.comment s i) with
       | false => rfl
       | true => have := (LX.joins_iff.1 hj).1; omega
      rw [if_neg (by rw [hc4]; decide), if_neg (by rw [hj]; simp), if_neg (by rw [hc4]; decide)]
     ·rw [if_neg hc3]
    rw [hstop] at HE
    replace HE := Lib.hid HE
    go_wp2_with (go_at_call 104; refine HCM.out.mono ?_; rintro e w' ⟨rfl, rfl⟩)
    go_ret
    exact ⟨ret_int (by rw [HE.out]), rfl⟩
   ·cases hj : LX.joins s i with
    | true =>
     obtain ⟨-, n2⟩ := LX.joins_no35 hj
     rw [if_neg (by rw [n2]; simp), if_pos hj] at HE
     have hj2 := (LX.joins_iff.1 hj).2.2
     rw [hj] at HJ
     replace HE := Lib.hid HE
     clear hj
     go_wp2_with (go_at_call 105; refine HJ.out.mono ?_; rintro e w' ⟨rfl, rfl⟩)
     go_round
     case rel => exact ⟨i + 2, g, by go_num, by omega, by have := HG.out; omega, HE.out⟩
     case measure => simp [intOf]; omega
    | false =>
     rw [hj] at HJ
     cases hb : LX.blank (bt s i) with
     | true =>
      rw [if_pos hb] at HE
      rw [LX.bl_bt, hb] at HBL
      replace HE := Lib.hid HE
      clear hb hj
      go_wp2_with (first | (go_at_call 105; refine HJ.out.mono ?_; rintro e w' ⟨rfl, rfl⟩) | (go_at_call 43; refine HBL.out.mono ?_; rintro e w' ⟨rfl, rfl⟩))
      go_round
      case rel => exact ⟨i + 1, g, by go_num, by omega, by have := HG.out; omega, HE.out⟩
      case measure => simp [intOf]; omega
     | false =>
      rw [if_neg (by rw [hb]; simp), if_neg (by rw [hj]; simp), if_neg h35] at HE
      rw [LX.bl_bt, hb] at HBL
      replace HE := Lib.hid HE
      clear hb hj
      go_wp2_with (first | (go_at_call 105; refine HJ.out.mono ?_; rintro e w' ⟨rfl, rfl⟩) | (go_at_call 43; refine HBL.out.mono ?_; rintro e w' ⟨rfl, rfl⟩))
      go_ret
      exact ⟨ret_int (by rw [HE.out]), rfl⟩
  ·rw [if_neg hlt] at HE
   replace HE := Lib.hid HE
   go_wp2
   go_ret
   exact ⟨ret_int (by rw [HE.out]), rfl⟩
set_option maxHeartbeats 1000000 in
theorem rx_Operator (t : List UInt8) (w : World) : Calls Tryz.prog 106 #[.string ⟨t.toArray⟩] w fun e w' => e = .returned (.bool (LX.isOp t)) ∧ w = w' := by
 by_cases h : t ∈ LX.ops
 ·have HR := Lib.hid (show LX.isOp t = true from decide_eq_true h)
  simp only [LX.ops, List.mem_cons, List.not_mem_nil, or_false] at h
  rcases h with rfl | rfl | rfl | rfl | rfl | rfl | rfl | rfl | rfl | rfl | rfl | rfl | rfl | rfl | rfl | rfl | rfl | rfl
  all_goals
   go_enter Tryz.func106, Tryz.ntmps106
   go_wp2
   go_ret
   exact ⟨ret_bool HR.out.symm, rfl⟩
 ·have HR := Lib.hid (show LX.isOp t = false from decide_eq_false h)
  have hn : ∀ x ∈ LX.ops, (t == x) = false := fun x hx => by rw [beq_eq_false_iff_ne]; rintro rfl; exact h hx
  have n0 := hn [38, 38] (by decide)
  have n1 := hn [124, 124] (by decide)
  have n2 := hn [59] (by decide)
  have n3 := hn [59, 59] (by decide)
  have n4 := hn [38] (by decide)
  have n5 := hn [124] (by decide)
  have n6 := hn [40] (by decide)
  have n7 := hn [41] (by decide)
  have n8 := hn [60] (by decide)
  have n9 := hn [62] (by decide)
  have n10 := hn [60, 60] (by decide)
  have n11 := hn [60, 60, 45] (by decide)
  have n12 := hn [62, 62] (by decide)
  have n13 := hn [60, 38] (by decide)
  have n14 := hn [62, 38] (by decide)
  have n15 := hn [60, 62] (by decide)
  have n16 := hn [62, 124] (by decide)
  have n17 := hn [10] (by decide)
  clear hn h
  go_enter Tryz.func106, Tryz.ntmps106
  go_wp2
  go_ret
  exact ⟨ret_bool HR.out.symm, rfl⟩
theorem rx_operator (s : List UInt8) (a : Nat) (w : World) (hl : s.length ≤ 100000) (ha : a ≤ s.length) : Calls Tryz.prog 78 #[.string ⟨s.toArray⟩, .int .i64 a] w fun e w' => e = .returned (.int .i64 (LX.opLen s a)) ∧ w = w' := by
 obtain ⟨R, hR⟩ : ∃ R, R = LX.opLen s a := ⟨_, rfl⟩
 rw [← hR]
 have HR := Lib.hid (show LX.opFrom s a (min 3 (s.length - a)) = R from hR.symm)
 clear hR
 go_enter Tryz.func78, Tryz.ntmps78
 go_wp2
 go_loop [5] (fun v => ∃ k : Nat, v = .int .i64 k ∧ k ≤ 3 ∧ Hid (LX.opFrom s a (min k (s.length - a)) = R)) (fun v => (intOf v).toNat)
 case atStart => exact ⟨3, rfl, by omega, HR.out⟩
 case round =>
  obtain ⟨k, rfl, hk, HK⟩ := hrel
  by_cases h0 : 0 < k
  ·have h0' : (0 : Int) < (k : Int) := by omega
   by_cases hfit : a + k ≤ s.length
   ·have q1 : ((a : Int) + (k : Int) ≤ (s.length : Int)) = True := eq_true (by omega)
    have q2 : decide ((a : Int) + (k : Int) ≤ (s.length : Int)) = true := decide_eq_true (by omega)
    have q3 : (a : Int) ≤ (a : Int) + (k : Int) := by omega
    have HO := Lib.hid (fun v => rx_Operator (cut s a (a + k)) v)
    have hmin : min k (s.length - a) = k := by omega
    have HK2 := HK.out
    rw [hmin, LX.opFrom_pos h0] at HK2
    have q4 : ((a : Int) + (k : Int)).toNat = a + k := by omega
    cases hop : LX.isOp (cut s a (a + k)) with
    | true =>
     rw [hop] at HO HK2
     rw [if_pos rfl] at HK2
     have HK3 := Lib.hid HK2
     clear hop HK2
     go_wp2_with (go_at_call 106; refine (HO.out _).mono ?_; rintro e w' ⟨rfl, rfl⟩)
     go_ret
     exact ⟨ret_int (by rw [HK3.out]), rfl⟩
    | false =>
     rw [hop] at HO HK2
     rw [if_neg (by simp)] at HK2
     have HK3 := Lib.hid HK2
     clear hop HK2
     go_wp2_with (go_at_call 106; refine (HO.out _).mono ?_; rintro e w' ⟨rfl, rfl⟩)
     go_round
     case rel => exact ⟨k - 1, by go_num, by omega, by rw [show min (k - 1) (s.length - a) = k - 1 by omega]; exact HK3.out⟩
     case measure => simp [intOf]; omega
   ·have q1 : ((a : Int) + (k : Int) ≤ (s.length : Int)) = False := eq_false (by omega)
    have q2 : decide ((a : Int) + (k : Int) ≤ (s.length : Int)) = false := decide_eq_false (by omega)
    go_wp2
    go_round
    case rel => exact ⟨k - 1, by go_num, by omega, by rw [show min (k - 1) (s.length - a) = min k (s.length - a) by omega]; exact HK.out⟩
    case measure => simp [intOf]; omega
  ·obtain rfl : k = 0 := by omega
   have HK2 := Lib.hid (show (0 : Nat) = R by have := HK.out; rw [show min 0 (s.length - a) = 0 by omega] at this; exact this)
   go_wp2
   go_ret
   exact ⟨ret_int (by rw [← HK2.out]; rfl), rfl⟩
theorem rx_digits (t : List UInt8) (w : World) (hl : t.length ≤ 100000) (hne : t ≠ []) : Calls Tryz.prog 80 #[.string ⟨t.toArray⟩] w fun e w' => e = .returned (.bool (LX.number t)) ∧ w = w' := by
 have q0 : t.isEmpty = false := by cases t; exact absurd rfl hne; rfl
 have q1 : (t == []) = false := by simpa using hne
 clear hne
 go_enter Tryz.func80, Tryz.ntmps80
 go_wp2
 go_loop [3] (fun v => ∃ i : Nat, v = .int .i64 i ∧ i ≤ t.length ∧ Hid (LX.number t = LX.number (t.drop i))) (fun v => t.length - (intOf v).toNat)
 case atStart => exact ⟨0, rfl, Nat.zero_le _, by show _ = _; rw [List.drop_zero]⟩
 case round =>
  obtain ⟨i, rfl, hi, HN⟩ := hrel
  by_cases hlt : i < t.length
  ·obtain ⟨x, hx, hb, _⟩ := drop_cons t i hlt
   have HD := Lib.hid (fun v => Digit_any (bt t i) v)
   have hdg := LX.dg_bt t i
   have HX := Lib.hid (show LX.number (t.drop i) = (LX.digit (bt t i) && LX.number (t.drop (i + 1))) by rw [hx, hb]; rfl)
   clear hx hb
   cases hd : LX.digit (bt t i) with
   | true =>
    rw [hdg, hd] at HD
    rw [hd] at HX
    clear hd hdg
    go_wp2_with (go_at_call 109; refine (HD.out _).mono ?_; rintro e w' ⟨rfl, rfl⟩)
    go_round
    case rel => exact ⟨i + 1, by go_num, by omega, by show _ = _; rw [HN.out, HX.out, Bool.true_and]⟩
    case measure => simp [intOf]; omega
   | false =>
    rw [hdg, hd] at HD
    rw [hd] at HX
    clear hd hdg
    go_wp2_with (go_at_call 109; refine (HD.out _).mono ?_; rintro e w' ⟨rfl, rfl⟩)
    go_ret
    exact ⟨ret_bool (by rw [HN.out, HX.out]; rfl), rfl⟩
  ·have HE := Lib.hid (show LX.number t = true by rw [HN.out, List.drop_eq_nil_of_le (by omega)]; rfl)
   go_wp2
   go_ret
   exact ⟨ret_bool (by rw [HE.out]), rfl⟩
end W
end Go.Proofs.YtcbdhheelddgeaaGreatDoor
namespace Go.Proofs.YtcbdhheelddgeaaGreatDoor
open Go.RowKit K
namespace W
set_option maxRecDepth 100000
set_option maxHeartbeats 2000000 in
theorem rx_word (s : List UInt8) (a k : Nat) (x : Int) (w : World) (hl : s.length ≤ 100000) (ha : a ≤ s.length) (hr : LX.wordEnd s a = (k, x)) : Calls Tryz.prog 79 #[.string ⟨s.toArray⟩, .int .i64 a] w (PairR w k x) := by
 have HR := Lib.hid (show LX.word (s.length + 1) s a = (k, x) from hr)
 clear hr
 have HBL := Lib.hid (fun i v => rx_blank (bt s i) v)
 have HOB := Lib.hid (fun i v => rx_op (bt s i) v)
 go_enter Tryz.func79, Tryz.ntmps79
 go_wp2
 go_loop [1] (fun v => ∃ i f : Nat, v = .int .i64 i ∧ i ≤ s.length ∧ Hid (s.length - i + 1 ≤ f ∧ LX.word f s i = (k, x))) (fun v => s.length - (intOf v).toNat)
 case atStart => exact ⟨a, s.length + 1, rfl, ha, by omega, HR.out⟩
 case round =>
  obtain ⟨i, f, rfl, hi, HF⟩ := hrel
  obtain ⟨f, rfl⟩ : ∃ f', f = f' + 1 := ⟨f - 1, by have := HF.out; omega⟩
  have HE := HF.out.2
  rw [LX.word] at HE
  by_cases hlt : i < s.length
  ·have q1 : ((i : Int) < (s.length : Int)) = True := eq_true (by omega)
   have q2 : decide ((i : Int) < (s.length : Int)) = true := decide_eq_true (by omega)
   have hdv := LX.div_bt s i
   have HB := Lib.hid (HBL.out i)
   have HO := Lib.hid (HOB.out i)
   cases hd : LX.divides (bt s i) with
   | true =>
    rw [if_neg (by rw [hd]; simp)] at HE
    obtain ⟨rfl, rfl⟩ : i = k ∧ (0 : Int) = x := by injection HE with h1 h2; exact ⟨h1, h2⟩
    rw [hd] at hdv
    obtain ⟨b1, hb1⟩ : ∃ b1, P.bl (bt s i) = b1 := ⟨_, rfl⟩
    obtain ⟨b2, hb2⟩ : ∃ b2, P.ob (bt s i) = b2 := ⟨_, rfl⟩
    rw [hb1] at HB hdv
    rw [hb2] at HO hdv
    clear hb1 hb2 hd HE
    cases b1 with
    | true =>
     clear hdv
     go_wp2_with (go_at_call 43; refine (HB.out _).mono ?_; rintro e w' ⟨rfl, rfl⟩)
     go_ret2
     exact ⟨rfl, rfl⟩
    | false =>
     by_cases h10 : bt s i = 10
     ·have q3 : (bt s i == 10) = true := by simpa using h10
      have q4 : (bt s i != 10) = false := by simp [bne, q3]
      clear hdv h10
      go_wp2_with (go_at_call 43; refine (HB.out _).mono ?_; rintro e w' ⟨rfl, rfl⟩)
      go_ret2
      exact ⟨rfl, rfl⟩
     ·have q3 : (bt s i == 10) = false := by simpa using h10
      have q4 : (bt s i != 10) = true := by simp [bne, q3]
      obtain rfl : b2 = true := by rw [q3] at hdv; simpa using hdv.symm
      clear hdv
      go_wp2_with (first | (go_at_call 43; refine (HB.out _).mono ?_; rintro e w' ⟨rfl, rfl⟩) | (go_at_call 107; refine (HO.out _).mono ?_; rintro e w' ⟨rfl, rfl⟩))
      go_ret2
      exact ⟨rfl, rfl⟩
   | false =>
    rw [if_pos ⟨hlt, hd⟩] at HE
    rw [hd] at hdv
    have hb1 : P.bl (bt s i) = false := by
     cases h : P.bl (bt s i) with
     | false => rfl
     | true => rw [h] at hdv; simp at hdv
    have hb2 : P.ob (bt s i) = false := by
     cases h : P.ob (bt s i) with
     | false => rfl
     | true => rw [h] at hdv; simp at hdv
    have h10 : ¬ bt s i = 10 := fun h => by rw [h] at hdv; simp at hdv
    have q3 : (bt s i == 10) = false := by simpa using h10
    have q4 : (bt s i != 10) = true := by simp [bne, q3]
    rw [hb1] at HB
    rw [hb2] at HO
    obtain ⟨⟨k2, x2⟩, hp⟩ : ∃ r, LX.pas (3 * s.length + 4) s i false false = r := ⟨_, rfl⟩
    have HP := Lib.hid (fun v => Pass_any s i 0 false false v k2 x2 (.inl ⟨rfl, rfl, rfl⟩) hl hlt hp)
    rw [LX.pas_big] at hp
    have hstep : (x2 = 0 → k2 ≤ s.length ∧ i < k2 ∧ LX.word f s k2 = (k, x)) ∧ (¬ x2 = 0 → k2 = k ∧ x2 = x) := by
     by_cases hb : LX.begins s i = true
     ·rw [if_neg (by simp [hb])] at hp
      rw [if_pos hb, hp] at HE
      have hg := LX.construct_good (q := false) (d := false) hlt hb
      rw [hp] at hg
      unfold LX.thn at HE
      dsimp only at HE hg
      refine ⟨fun h => ?_, fun h => ?_⟩
      ·rw [if_pos h] at HE; exact ⟨hg.1, hg.2.1 h, HE⟩
      ·rw [if_neg h] at HE; injection HE with h1 h2; exact ⟨h1, h2⟩
     ·have hbf : LX.begins s i = false := by simpa using hb
      rw [if_pos (.inr hbf)] at hp
      rw [if_neg hb] at HE
      injection hp with h1 h2
      refine ⟨fun _ => ⟨by omega, by omega, by rw [← h1]; exact HE⟩, fun h => absurd h2.symm h⟩
    have HST := Lib.hid hstep
    clear hdv hd hb1 hb2 h10 hp HE hstep
    by_cases hx : x2 = 0
    ·subst hx
     have HS2 := Lib.hid (HST.out.1 rfl)
     go_wp2_with (first | (go_at_call 43; refine (HB.out _).mono ?_; rintro e w' ⟨rfl, rfl⟩) | (go_at_call 107; refine (HO.out _).mono ?_; rintro e w' ⟨rfl, rfl⟩) | (go_at_call 108; refine (HP.out _).mono ?_; rintro e w' ⟨rfl, rfl⟩))
     go_round
     case rel => exact ⟨k2, f, rfl, HS2.out.1, by have := HF.out; have := HS2.out; omega, HS2.out.2.2⟩
     case measure => have := HS2.out; simp [intOf]; omega
    ·obtain ⟨rfl, rfl⟩ := HST.out.2 hx
     have q5 : (x2 == 0) = false := by simpa using hx
     have q6 : (x2 != 0) = true := by simp [bne, q5]
     clear hx
     go_wp2_with (first | (go_at_call 43; refine (HB.out _).mono ?_; rintro e w' ⟨rfl, rfl⟩) | (go_at_call 107; refine (HO.out _).mono ?_; rintro e w' ⟨rfl, rfl⟩) | (go_at_call 108; refine (HP.out _).mono ?_; rintro e w' ⟨rfl, rfl⟩))
     go_ret2
     exact ⟨rfl, rfl⟩
  ·have q1 : ((i : Int) < (s.length : Int)) = False := eq_false (by omega)
   have q2 : decide ((i : Int) < (s.length : Int)) = false := decide_eq_false (by omega)
   rw [if_neg (fun h => hlt h.1)] at HE
   obtain ⟨rfl, rfl⟩ : i = k ∧ (0 : Int) = x := by injection HE with h1 h2; exact ⟨h1, h2⟩
   clear HE
   go_wp2
   go_ret2
   exact ⟨rfl, rfl⟩
end W
end Go.Proofs.YtcbdhheelddgeaaGreatDoor
namespace Go.Proofs.YtcbdhheelddgeaaGreatDoor
open Go.RowKit K
namespace W
set_option maxRecDepth 100000
set_option maxHeartbeats 4000000 in
theorem Next_ref (s : List UInt8) (a : Nat) (w : World) (kd ps st : Nat) (tx : List UInt8) (x : Int) (hl : s.length ≤ 100000) (ha : a ≤ s.length) (hr : LX.next s a = (⟨kd, ps, st, tx⟩, x)) :
  Calls Tryz.prog 39 #[.string ⟨s.toArray⟩, .int .i64 a] w fun e w' => e = .returned (.tuple #[.agg #[.int .i64 kd, .int .i64 ps, .int .i64 st, .string ⟨tx.toArray⟩], .int .i64 x]) ∧ Below w.heap.size w w' := by
 unfold LX.next at hr
 by_cases h1 : 16384 < s.length
 ·rw [if_pos h1] at hr
  have h1' : ((16384 : Int) < (s.length : Int)) = True := eq_true (by omega)
  have HR := Lib.hid hr
  clear hr h1
  go_enter Tryz.func39, Tryz.ntmps39
  go_wp2
  exact bodyPost_ret (v := .tuple #[.agg #[.int .i64 (0 : Nat), .int .i64 (0 : Nat), .int .i64 (0 : Nat), .string ⟨([] : List UInt8).toArray⟩], .int .i64 3]) (by simp [results, Tryz.results39, go_sem]) rfl ⟨tok_ret HR.out, balloc _ _⟩
 rw [if_neg h1] at hr
 have h1' : ((16384 : Int) < (s.length : Int)) = False := eq_false (by omega)
 have hsk := fun v => rx_skip s a v hl
 rw [LX.clamp_nat ha] at hsk
 have HS := Lib.hid hsk
 have hp := LX.skipTo_le ha
 have hat := LX.skipTo_at ha
 clear hsk
 generalize LX.skipTo s a = p at hr HS hp hat
 unfold LX.nextAt at hr
 by_cases h2 : p = s.length
 ·rw [if_pos h2] at hr
  have HR := Lib.hid hr
  have h2' : ((p : Int) == (s.length : Int)) = true := by rw [beq_iff_eq]; omega
  clear hr h2
  go_enter Tryz.func39, Tryz.ntmps39
  go_wp2_with (go_at_call 77; refine (HS.out _).mono ?_; rintro e w' ⟨rfl, rfl⟩)
  exact bodyPost_ret (v := .tuple #[.agg #[.int .i64 (5 : Nat), .int .i64 p, .int .i64 p, .string ⟨([] : List UInt8).toArray⟩], .int .i64 0]) (by simp [results, Tryz.results39, go_sem]) rfl ⟨tok_ret HR.out, balloc _ _⟩
 rw [if_neg h2] at hr
 have h2' : ((p : Int) == (s.length : Int)) = false := by rw [beq_eq_false_iff_ne]; omega
 have h3 : p < s.length := by omega
 clear h2
 by_cases h10 : bt s p = 10
 ·rw [if_pos h10] at hr
  have htx : cut s p (p + 1) = [10] := by rw [K.cut_one s p h3, h10]; rfl
  have HR := Lib.hid (show ((⟨3, p, p + 1, [10]⟩ : LX.Tok), (0 : Int)) = (⟨kd, ps, st, tx⟩, x) by rw [← htx]; exact hr)
  clear hr htx
  go_enter Tryz.func39, Tryz.ntmps39
  go_wp2_with (go_at_call 77; refine (HS.out _).mono ?_; rintro e w' ⟨rfl, rfl⟩)
  exact bodyPost_ret (v := .tuple #[.agg #[.int .i64 (3 : Nat), .int .i64 p, .int .i64 ((p + 1 : Nat) : Int), .string ⟨([10] : List UInt8).toArray⟩], .int .i64 0]) (by simp [results, Tryz.results39, go_sem]) rfl ⟨tok_ret HR.out, balloc _ _⟩
 rw [if_neg h10] at hr
 have HO := Lib.hid (fun v => rx_operator s p v hl hp)
 have hdv : ¬ 0 < LX.opLen s p → LX.divides (bt s p) = false := fun h => by
  cases hd : LX.divides (bt s p) with
  | false => rfl
  | true => exact absurd (LX.opLen_pos h3 hd (hat h3).1) h
 clear hat
 have hop := LX.opFrom_le s p (min 3 (s.length - p))
 rw [show LX.opFrom s p (min 3 (s.length - p)) = LX.opLen s p from rfl] at hop
 generalize LX.opLen s p = n at hr HO hop hdv
 by_cases h0 : 0 < n
 ·rw [if_pos h0] at hr
  have HR := Lib.hid (show ((⟨2, p, p + n, cut s p (p + n)⟩ : LX.Tok), (0 : Int)) = (⟨kd, ps, st, tx⟩, x) from hr)
  have q1 : ((p : Int) + (n : Int) ≤ (s.length : Int)) = True := eq_true (by omega)
  have q2 : (p : Int) ≤ (p : Int) + (n : Int) := by omega
  have q3 : ((p : Int) + (n : Int)).toNat = p + n := by omega
  have q4 : (0 : Int) < (n : Int) := by omega
  clear hr h0 hdv
  go_enter Tryz.func39, Tryz.ntmps39
  go_wp2_with (first | (go_at_call 77; refine (HS.out _).mono ?_; rintro e w' ⟨rfl, rfl⟩) | (go_at_call 78; refine (HO.out _).mono ?_; rintro e w' ⟨rfl, rfl⟩))
  exact bodyPost_ret (v := .tuple #[.agg #[.int .i64 (2 : Nat), .int .i64 p, .int .i64 ((p + n : Nat) : Int), .string ⟨(cut s p (p + n)).toArray⟩], .int .i64 0]) (by simp [results, Tryz.results39, go_sem]) rfl ⟨tok_ret HR.out, balloc _ _⟩
 obtain rfl : n = 0 := by omega
 rw [if_neg (by omega)] at hr
 have hd := hdv h0
 clear hop h0 hdv
 obtain ⟨⟨k, y⟩, hw⟩ : ∃ r, LX.wordEnd s p = r := ⟨_, rfl⟩
 have HW := Lib.hid (fun v => rx_word s p k y v hl hp hw)
 have hg := LX.word_good (s.length + 1) s p hp
 rw [show LX.word (s.length + 1) s p = (k, y) from hw] at hg
 dsimp only at hg
 unfold LX.nextW at hr
 rw [hw] at hr
 dsimp only at hr
 by_cases hy : y = 0
 ·subst hy
  rw [if_pos rfl] at hr
  have hpk : p < k := by
   have := LX.word_lt h3 hd (by rw [hw])
   rw [hw] at this
   exact this
  have hk := hg.1
  have hlen : (cut s p k).length = k - p := by rw [cut_length]; omega
  have HD := Lib.hid (fun v => rx_digits (cut s p k) v (by omega) (by intro h; rw [h] at hlen; simp at hlen; omega))
  have q1 : ((k : Int) ≤ (s.length : Int)) = True := eq_true (by omega)
  have q2 : (p : Int) ≤ (k : Int) := by omega
  unfold LX.tok at hr
  obtain ⟨nb, hnb⟩ : ∃ nb, LX.number (cut s p k) = nb := ⟨_, rfl⟩
  rw [hnb] at HD hr
  clear hnb hg hw hlen hd
  by_cases hlt : k < s.length
  ·have q3 : ((k : Int) < (s.length : Int)) = True := eq_true (by omega)
   have q4 : decide ((k : Int) < (s.length : Int)) = true := decide_eq_true (by omega)
   cases nb with
   | false =>
    rw [if_neg (by simp)] at hr
    have HR := Lib.hid hr
    clear hr hpk
    go_enter Tryz.func39, Tryz.ntmps39
    go_wp2_with (first | (go_at_call 77; refine (HS.out _).mono ?_; rintro e w' ⟨rfl, rfl⟩) | (go_at_call 78; refine (HO.out _).mono ?_; rintro e w' ⟨rfl, rfl⟩) | (go_at_call 79; refine (HW.out _).mono ?_; rintro e w' ⟨rfl, rfl⟩) | (go_at_call 80; refine (HD.out _).mono ?_; rintro e w' ⟨rfl, rfl⟩))
    exact bodyPost_ret (v := .tuple #[.agg #[.int .i64 (1 : Nat), .int .i64 p, .int .i64 k, .string ⟨(cut s p k).toArray⟩], .int .i64 0]) (by simp [results, Tryz.results39, go_sem]) rfl ⟨tok_ret HR.out, btr (balloc _ _) (balloc _ _)⟩
   | true =>
    by_cases h60 : bt s k = 60
    ·rw [if_pos ⟨hlt, .inl h60, rfl⟩] at hr
     have HR := Lib.hid hr
     have q5 : (bt s k == 60) = true := by simpa using h60
     clear hr hpk h60
     go_enter Tryz.func39, Tryz.ntmps39
     go_wp2_with (first | (go_at_call 77; refine (HS.out _).mono ?_; rintro e w' ⟨rfl, rfl⟩) | (go_at_call 78; refine (HO.out _).mono ?_; rintro e w' ⟨rfl, rfl⟩) | (go_at_call 79; refine (HW.out _).mono ?_; rintro e w' ⟨rfl, rfl⟩) | (go_at_call 80; refine (HD.out _).mono ?_; rintro e w' ⟨rfl, rfl⟩))
     exact bodyPost_ret (v := .tuple #[.agg #[.int .i64 (4 : Nat), .int .i64 p, .int .i64 k, .string ⟨(cut s p k).toArray⟩], .int .i64 0]) (by simp [results, Tryz.results39, go_sem]) rfl ⟨tok_ret HR.out, btr (balloc _ _) (balloc _ _)⟩
    ·have q5 : (bt s k == 60) = false := by simpa using h60
     by_cases h62 : bt s k = 62
     ·rw [if_pos ⟨hlt, .inr h62, rfl⟩] at hr
      have HR := Lib.hid hr
      have q6 : (bt s k == 62) = true := by simpa using h62
      clear hr hpk h60 h62
      go_enter Tryz.func39, Tryz.ntmps39
      go_wp2_with (first | (go_at_call 77; refine (HS.out _).mono ?_; rintro e w' ⟨rfl, rfl⟩) | (go_at_call 78; refine (HO.out _).mono ?_; rintro e w' ⟨rfl, rfl⟩) | (go_at_call 79; refine (HW.out _).mono ?_; rintro e w' ⟨rfl, rfl⟩) | (go_at_call 80; refine (HD.out _).mono ?_; rintro e w' ⟨rfl, rfl⟩))
      exact bodyPost_ret (v := .tuple #[.agg #[.int .i64 (4 : Nat), .int .i64 p, .int .i64 k, .string ⟨(cut s p k).toArray⟩], .int .i64 0]) (by simp [results, Tryz.results39, go_sem]) rfl ⟨tok_ret HR.out, btr (balloc _ _) (balloc _ _)⟩
     ·rw [if_neg (by rintro ⟨-, h | h, -⟩; exact h60 h; exact h62 h)] at hr
      have HR := Lib.hid hr
      have q6 : (bt s k == 62) = false := by simpa using h62
      clear hr hpk h60 h62
      go_enter Tryz.func39, Tryz.ntmps39
      go_wp2_with (first | (go_at_call 77; refine (HS.out _).mono ?_; rintro e w' ⟨rfl, rfl⟩) | (go_at_call 78; refine (HO.out _).mono ?_; rintro e w' ⟨rfl, rfl⟩) | (go_at_call 79; refine (HW.out _).mono ?_; rintro e w' ⟨rfl, rfl⟩) | (go_at_call 80; refine (HD.out _).mono ?_; rintro e w' ⟨rfl, rfl⟩))
      exact bodyPost_ret (v := .tuple #[.agg #[.int .i64 (1 : Nat), .int .i64 p, .int .i64 k, .string ⟨(cut s p k).toArray⟩], .int .i64 0]) (by simp [results, Tryz.results39, go_sem]) rfl ⟨tok_ret HR.out, btr (balloc _ _) (balloc _ _)⟩
  ·have q3 : ((k : Int) < (s.length : Int)) = False := eq_false (by omega)
   have q4 : decide ((k : Int) < (s.length : Int)) = false := decide_eq_false (by omega)
   rw [if_neg (fun h => hlt h.1)] at hr
   have HR := Lib.hid hr
   clear hr hpk
   cases nb with
   | false =>
    go_enter Tryz.func39, Tryz.ntmps39
    go_wp2_with (first | (go_at_call 77; refine (HS.out _).mono ?_; rintro e w' ⟨rfl, rfl⟩) | (go_at_call 78; refine (HO.out _).mono ?_; rintro e w' ⟨rfl, rfl⟩) | (go_at_call 79; refine (HW.out _).mono ?_; rintro e w' ⟨rfl, rfl⟩) | (go_at_call 80; refine (HD.out _).mono ?_; rintro e w' ⟨rfl, rfl⟩))
    exact bodyPost_ret (v := .tuple #[.agg #[.int .i64 (1 : Nat), .int .i64 p, .int .i64 k, .string ⟨(cut s p k).toArray⟩], .int .i64 0]) (by simp [results, Tryz.results39, go_sem]) rfl ⟨tok_ret HR.out, btr (balloc _ _) (balloc _ _)⟩
   | true =>
    go_enter Tryz.func39, Tryz.ntmps39
    go_wp2_with (first | (go_at_call 77; refine (HS.out _).mono ?_; rintro e w' ⟨rfl, rfl⟩) | (go_at_call 78; refine (HO.out _).mono ?_; rintro e w' ⟨rfl, rfl⟩) | (go_at_call 79; refine (HW.out _).mono ?_; rintro e w' ⟨rfl, rfl⟩) | (go_at_call 80; refine (HD.out _).mono ?_; rintro e w' ⟨rfl, rfl⟩))
    exact bodyPost_ret (v := .tuple #[.agg #[.int .i64 (1 : Nat), .int .i64 p, .int .i64 k, .string ⟨(cut s p k).toArray⟩], .int .i64 0]) (by simp [results, Tryz.results39, go_sem]) rfl ⟨tok_ret HR.out, btr (balloc _ _) (balloc _ _)⟩
 ·rw [if_neg hy] at hr
  have HR := Lib.hid hr
  have q5 : (y == 0) = false := by simpa using hy
  have q6 : (y != 0) = true := by simp [bne, q5]
  clear hr hg hy hw
  go_enter Tryz.func39, Tryz.ntmps39
  go_wp2_with (first | (go_at_call 77; refine (HS.out _).mono ?_; rintro e w' ⟨rfl, rfl⟩) | (go_at_call 78; refine (HO.out _).mono ?_; rintro e w' ⟨rfl, rfl⟩) | (go_at_call 79; refine (HW.out _).mono ?_; rintro e w' ⟨rfl, rfl⟩))
  exact bodyPost_ret (v := .tuple #[.agg #[.int .i64 (0 : Nat), .int .i64 k, .int .i64 (0 : Nat), .string ⟨([] : List UInt8).toArray⟩], .int .i64 y]) (by simp [results, Tryz.results39, go_sem]) rfl ⟨tok_ret HR.out, balloc _ _⟩
end W
end Go.Proofs.YtcbdhheelddgeaaGreatDoor
namespace Go.Proofs.YtcbdhheelddgeaaGreatDoor
open Go.RowKit K
namespace W
set_option maxRecDepth 100000
theorem line_ref (s : List UInt8) (a : Nat) (w : World) (ha : a ≤ s.length) (hl : s.length ≤ 100000) : Calls Tryz.prog 83 #[.string ⟨s.toArray⟩, .int .i64 a] w fun e w' => e = .returned (.tuple #[.string ⟨(cut s a (LX.comment s a)).toArray⟩, .int .i64 ((min (LX.comment s a + 1) s.length : Nat) : Int)]) ∧ w = w' := by
 obtain ⟨R, hR⟩ : ∃ R, R = LX.comment s a := ⟨_, rfl⟩
 rw [← hR]
 have HR := Lib.hid hR
 clear hR
 go_enter Tryz.func83, Tryz.ntmps83
 go_wp2
 go_loop [6] (fun v => ∃ k : Nat, v = .int .i64 k ∧ a ≤ k ∧ k ≤ s.length ∧ Hid (LX.comment s k = R)) (fun v => s.length - (intOf v).toNat)
 case atStart => exact ⟨a, rfl, Nat.le_refl _, ha, Lib.hid HR.out.symm⟩
 case round =>
  obtain ⟨k, rfl, hak, hk, HK⟩ := hrel
  by_cases hlt : k < s.length
  ·by_cases h10 : bt s k = 10
   ·obtain rfl : k = R := by rw [← HK.out, LX.comment_here hlt h10]
    clear h10
    have hm : min (k + 1) s.length = k + 1 := by omega
    have q10 : (bt s k != 10) = false := by
     have := LX.comment_here hlt (by
      have h := LX.comment_stop (s := s) (i := k) (by rw [HK.out]; exact hlt)
      rw [HK.out] at h; exact h)
     have h := LX.comment_stop (s := s) (i := k) (by rw [HK.out]; exact hlt)
     rw [HK.out] at h
     simp [bne, h]
    go_wp2
    go_ret2
    exact ⟨rfl, rfl⟩
   ·have q10 : (bt s k != 10) = true := by simpa using h10
    have HE := Lib.hid (LX.comment_go hlt h10)
    clear h10
    go_wp2
    go_round
    case rel => exact ⟨k + 1, by go_num, by omega, by omega, Lib.hid (by rw [← HE.out]; exact HK.out)⟩
    case measure => simp [intOf]; omega
  ·obtain rfl : k = s.length := by omega
   obtain rfl : s.length = R := by rw [← HK.out, LX.comment_end (Nat.le_refl _)]
   have hm : min (s.length + 1) s.length = s.length := by omega
   go_wp2
   go_ret2
   exact ⟨rfl, rfl⟩
theorem tabs_ref (t : List UInt8) (w : World) (hl : t.length ≤ 100000) : Calls Tryz.prog 84 #[.string ⟨t.toArray⟩] w fun e w' => e = .returned (.string ⟨(AY.tabsL t).toArray⟩) ∧ w = w' := by
 obtain ⟨R, hR⟩ : ∃ R, R = AY.tabsL t := ⟨_, rfl⟩
 rw [← hR]
 have HR := Lib.hid hR
 clear hR
 go_enter Tryz.func84, Tryz.ntmps84
 go_wp2
 go_loopg [0] t.length (fun g v wr => ∃ u : List UInt8, v = .string ⟨u.toArray⟩ ∧ u.length ≤ 100000 ∧ g = u.length ∧ Hid (AY.tabsL u = R) ∧ w = wr)
 case atStart => exact ⟨t, rfl, hl, rfl, Lib.hid HR.out.symm, rfl⟩
 case round =>
  obtain ⟨u, rfl, hu, rfl, HK, rfl⟩ := hrel
  clear HR
  cases u with
  | nil =>
   obtain rfl : [] = R := HK.out
   go_wp2
   go_ret
   exact ⟨rfl, rfl⟩
  | cons c r =>
   have h0 : ((c :: r) != []) = true := rfl
   have hc : bt (c :: r) 0 = (c.toNat : Int) := rfl
   have hct : cut (c :: r) 1 (r.length + 1) = r := by unfold cut; simp
   by_cases h9 : c = 9
   ·subst h9
    have HE := Lib.hid (show AY.tabsL r = R by rw [← HK.out]; rfl)
    go_wp2
    go_roundg r.length
    case rel => exact ⟨r, rfl, by simp at hu; omega, rfl, HE, rfl⟩
    case measure => simp
   ·have h9' : ((c.toNat : Int) == 9) = false := by
     rw [beq_eq_false_iff_ne]
     intro h; apply h9
     exact UInt8.toNat_inj.1 (by show c.toNat = 9; omega)
    obtain rfl : c :: r = R := by
     rw [← HK.out]; unfold AY.tabsL; rw [List.dropWhile_cons_of_neg (by simpa using h9)]
    clear h9
    go_wp2
    go_ret
    exact ⟨rfl, rfl⟩
def encG (g : AY.G) : List Value := [.string ⟨g.nm.toArray⟩, .int .i64 g.e, .bool g.bl]
theorem encG_len (g : AY.G) : (encG g).length = 3 := rfl
set_option maxHeartbeats 2000000 in
theorem active_ref (gs : List AY.G) (nm : List UInt8) (ps : Nat) (v : Value) (w : World) (hA : RV 3 encG w v gs) (hgl : gs.length ≤ 10000000) : Calls Tryz.prog 42 #[v, .string ⟨nm.toArray⟩, .int .i64 ps] w fun e w' => e = .returned (.bool (AY.activeR gs nm ps)) ∧ w = w' := by
 obtain ⟨A, c, rfl, hc, -⟩ := id hA
 have HA := Lib.hid hA
 obtain ⟨m, hm⟩ : ∃ m, m = gs.length := ⟨_, rfl⟩
 have HM := Lib.hid hm
 rw [← hm] at hc hgl ⊢
 obtain ⟨R, hR⟩ : ∃ R, AY.activeR gs nm ps = R := ⟨_, rfl⟩
 rw [hR]
 have HR := Lib.hid hR
 clear hA hm hR
 go_enter Tryz.func42, Tryz.ntmps42
 go_wp2
 go_loop [7] (fun v => ∃ k : Nat, v = .int .i64 k ∧ k ≤ m ∧ Hid (AY.activeR (gs.drop k) nm ps = R)) (fun v => m - (intOf v).toNat)
 case atStart => exact ⟨0, rfl, Nat.zero_le _, HR⟩
 case round =>
  obtain ⟨k, rfl, hk, HK⟩ := hrel
  clear HR
  by_cases hlt : k < m
  ·have hlk : k < gs.length := by have := HM.out; omega
   obtain ⟨g, hg⟩ : ∃ g, gs[k]? = some g := ⟨_, List.getElem?_eq_getElem hlk⟩
   obtain ⟨b, off, rfl, hb, hcell⟩ := HA.out.get hg
   have c0 : w.cell? ⟨b, off + k * 3, none⟩ = some (.string ⟨g.nm.toArray⟩) := hcell 0 _ rfl
   have c1 : w.cell? ⟨b, off + k * 3 + 1, none⟩ = some (.int .i64 g.e) := hcell 1 _ rfl
   have hd : gs.drop k = g :: gs.drop (k + 1) := by
    obtain ⟨h1, h2⟩ := List.getElem?_eq_some_iff.1 hg
    rw [← h2]; exact List.drop_eq_getElem_cons h1
   have hK := HK.out
   rw [hd] at hK
   have HK2 := Lib.hid (show ((g.nm == nm && decide ((ps : Int) < g.e)) || AY.activeR (gs.drop (k + 1)) nm ps) = R from hK)
   clear hg hcell hd hK hlk
   obtain ⟨b1, hb1⟩ : ∃ b1, (g.nm == nm) = b1 := ⟨_, rfl⟩
   obtain ⟨b2, hb2⟩ : ∃ b2, decide ((ps : Int) < g.e) = b2 := ⟨_, rfl⟩
   have HB1 := Lib.hid hb1
   have HB2 := Lib.hid hb2
   cases b1 with
   | true =>
    cases b2 with
    | true =>
     have HE := Lib.hid (show true = R by rw [← HK2.out, HB1.out, HB2.out]; rfl)
     go_wp2
     go_ret
     exact ⟨ret_bool HE.out, rfl⟩
    | false =>
     have HE := Lib.hid (show AY.activeR (gs.drop (k + 1)) nm ps = R by rw [← HK2.out, HB1.out, HB2.out]; rfl)
     go_wp2
     go_round
     case rel => exact ⟨k + 1, by go_num, by omega, HE⟩
     case measure => simp [intOf]; omega
   | false =>
    have HE := Lib.hid (show AY.activeR (gs.drop (k + 1)) nm ps = R by rw [← HK2.out, HB1.out]; rfl)
    go_wp2
    go_round
    case rel => exact ⟨k + 1, by go_num, by omega, HE⟩
    case measure => simp [intOf]; omega
  ·have HE := Lib.hid (show false = R by rw [← HK.out, List.drop_eq_nil_of_le (by have := HM.out; omega)]; rfl)
   go_wp2
   go_ret
   exact ⟨ret_bool HE.out, rfl⟩
end W
end Go.Proofs.YtcbdhheelddgeaaGreatDoor
namespace Go.Proofs.YtcbdhheelddgeaaGreatDoor
open Go.RowKit K
namespace AY
def opens7 : List (List UInt8) := [[10], [59], [38], [38, 38], [124, 124], [124], [40]]
theorem opens7_eq (t : List UInt8) : opens7.contains t = decide (t = [10] ∨ AX.opensB t = true) := by
 unfold opens7 AX.opensB
 by_cases h : t = [10]
 ·subst h; rfl
 ·rw [List.contains_cons, beq_eq_false_iff_ne.2 h, Bool.false_or]
  simp [h]
theorem opensR_eq (kd : Nat) (tx : List UInt8) (pl : Bool) : opensR kd tx pl = if opens7.contains tx = true then kd == 2 || kd == 3 else if AX.intros.contains tx = true then pl && kd == 1 else false := by
 unfold opensR
 rw [opens7_eq, AX.introB_eq]
 simp only [decide_eq_true_eq]
end AY
namespace W
set_option maxRecDepth 100000 in
set_option maxHeartbeats 4000000 in
theorem opens_ref (kd ps st : Nat) (tx : List UInt8) (pl : Bool) (w : World) : Calls Tryz.prog 46 #[.agg #[.int .i64 kd, .int .i64 ps, .int .i64 st, .string ⟨tx.toArray⟩], .bool pl] w fun e w' => e = .returned (.bool (AY.opensR kd tx pl)) ∧ Below w.heap.size w w' := by
 rw [AY.opensR_eq]
 obtain ⟨k1, hk1⟩ : ∃ b, ((kd : Int) == 1) = b := ⟨_, rfl⟩
 obtain ⟨k2, hk2⟩ : ∃ b, ((kd : Int) == 2) = b := ⟨_, rfl⟩
 obtain ⟨k3, hk3⟩ : ∃ b, ((kd : Int) == 3) = b := ⟨_, rfl⟩
 have e1 : (kd == 1) = k1 := by rw [← hk1]; rw [Bool.eq_iff_iff]; simp; omega
 have e2 : (kd == 2) = k2 := by rw [← hk2]; rw [Bool.eq_iff_iff]; simp; omega
 have e3 : (kd == 3) = k3 := by rw [← hk3]; rw [Bool.eq_iff_iff]; simp; omega
 rw [e1, e2, e3]
 clear e1 e2 e3
 by_cases h : tx ∈ AY.opens7
 ·have HR := Lib.hid (show AY.opens7.contains tx = true from List.contains_iff_mem.2 h)
  rw [if_pos HR.out]
  clear HR
  simp only [AY.opens7, List.mem_cons, List.not_mem_nil, or_false] at h
  rcases h with rfl | rfl | rfl | rfl | rfl | rfl | rfl
  all_goals
   cases k2 with
   | true =>
    go_enter Tryz.func46, Tryz.ntmps46
    go_wp2
    go_ret
    exact ⟨rfl, balloc _ _⟩
   | false =>
    go_enter Tryz.func46, Tryz.ntmps46
    go_wp2
    go_ret
    exact ⟨ret_bool (by simp), balloc _ _⟩
 ·have HR := Lib.hid (show AY.opens7.contains tx = false by rw [← Bool.not_eq_true, List.contains_iff_mem]; exact h)
  rw [if_neg (by rw [HR.out]; simp)]
  clear HR
  by_cases h2 : tx ∈ AX.intros
  ·have HR := Lib.hid (show AX.intros.contains tx = true from List.contains_iff_mem.2 h2)
   rw [if_pos HR.out]
   clear HR h
   simp only [AX.intros, List.mem_cons, List.not_mem_nil, or_false] at h2
   rcases h2 with rfl | rfl | rfl | rfl | rfl | rfl | rfl | rfl | rfl
   all_goals
    cases pl with
    | true =>
     go_enter Tryz.func46, Tryz.ntmps46
     go_wp2
     go_ret
     exact ⟨ret_bool (by simp), balloc _ _⟩
    | false =>
     go_enter Tryz.func46, Tryz.ntmps46
     go_wp2
     go_ret
     exact ⟨rfl, balloc _ _⟩
  ·have HR := Lib.hid (show AX.intros.contains tx = false by rw [← Bool.not_eq_true, List.contains_iff_mem]; exact h2)
   rw [if_neg (by rw [HR.out]; simp)]
   clear HR
   have hn : ∀ x ∈ AY.opens7 ++ AX.intros, (tx == x) = false := fun x hx => by rw [beq_eq_false_iff_ne]; rintro rfl; rcases List.mem_append.1 hx with hx | hx; exact h hx; exact h2 hx
   have m0 := hn [10] (by decide)
   have m1 := hn [59] (by decide)
   have m2 := hn [38] (by decide)
   have m3 := hn [38, 38] (by decide)
   have m4 := hn [124, 124] (by decide)
   have m5 := hn [124] (by decide)
   have m6 := hn [40] (by decide)
   have n0 := hn [33] (by decide)
   have n1 := hn [123] (by decide)
   have n2 := hn [100, 111] (by decide)
   have n3 := hn [101, 108, 105, 102] (by decide)
   have n4 := hn [101, 108, 115, 101] (by decide)
   have n5 := hn [105, 102] (by decide)
   have n6 := hn [116, 104, 101, 110] (by decide)
   have n7 := hn [117, 110, 116, 105, 108] (by decide)
   have n8 := hn [119, 104, 105, 108, 101] (by decide)
   clear hn h h2
   go_enter Tryz.func46, Tryz.ntmps46
   go_wp2
   go_ret
   exact ⟨rfl, balloc _ _⟩
end W
end Go.Proofs.YtcbdhheelddgeaaGreatDoor
namespace Go.Proofs.YtcbdhheelddgeaaGreatDoor
open Go.RowKit K
namespace AY
theorem F_line2 {s : List UInt8} {d : D} {a : Nat} (h : a < s.length) : F s d a = if (if d.2 = true then tabsL (cut s a (LX.comment s a)) else cut s a (LX.comment s a)) = d.1 then min (LX.comment s a + 1) s.length else F s d (min (LX.comment s a + 1) s.length) := by
 have h1 := comment_ge h
 unfold F
 rw [find1, if_pos h, find1_more s.length (s.length + 1) s d _ (by omega) (by omega)]
end AY
namespace W
set_option maxRecDepth 100000
def encD (d : AY.D) : List Value := [.string ⟨d.1.toArray⟩, .bool d.2, .bool false]
theorem encD_len (d : AY.D) : (encD d).length = 3 := rfl
def left0 (b : Bool) (n : Nat) : Nat := if b = true then 0 else n + 1
set_option maxHeartbeats 4000000 in
theorem contents_ref (s : List UInt8) (at_ : Nat) (ls : List AY.D) (v : Value) (w : World) (hA : RV 3 encD w v ls) (ha : at_ ≤ s.length) (hl : s.length ≤ 100000) (hgl : ls.length ≤ 10000000) : Calls Tryz.prog 47 #[.string ⟨s.toArray⟩, .int .i64 at_, v] w fun e w' => e = .returned (.int .i64 (AY.skipL s ls at_)) ∧ w = w' := by
 obtain ⟨A, c, rfl, hc, -⟩ := id hA
 have HA := Lib.hid hA
 obtain ⟨m, hm⟩ : ∃ m, m = ls.length := ⟨_, rfl⟩
 have HM := Lib.hid hm
 rw [← hm] at hc hgl ⊢
 obtain ⟨R, hR⟩ : ∃ R, AY.skipL s ls at_ = R := ⟨_, rfl⟩
 rw [hR]
 have HR := Lib.hid hR
 have HLN := Lib.hid (fun a (h : a ≤ s.length) => line_ref s a w h hl)
 clear hA hm hR
 go_enter Tryz.func47, Tryz.ntmps47
 go_wp2
 go_loop [1, 7] (fun p i => ∃ k a : Nat, p = .int .i64 a ∧ i = .int .i64 k ∧ k ≤ m ∧ a ≤ s.length ∧ Hid (AY.skipL s (ls.drop k) a = R)) (fun _ i => m - (intOf i).toNat)
 case atStart => exact ⟨0, at_, rfl, rfl, Nat.zero_le _, ha, HR⟩
 case round =>
  obtain ⟨k, a, rfl, rfl, hk, hak, HK⟩ := hrel
  clear HR
  by_cases hlt : k < m
  ·have hlk : k < ls.length := by have := HM.out; omega
   obtain ⟨⟨d0, d1⟩, hg⟩ : ∃ g, ls[k]? = some g := ⟨_, List.getElem?_eq_getElem hlk⟩
   obtain ⟨b, off, rfl, hb, hcell⟩ := HA.out.get hg
   have c0 : w.cell? ⟨b, off + k * 3, none⟩ = some (.string ⟨d0.toArray⟩) := hcell 0 _ rfl
   have c1 : w.cell? ⟨b, off + k * 3 + 1, none⟩ = some (.bool d1) := hcell 1 _ rfl
   have HSK := Lib.hid (show AY.skipL s (ls.drop (k + 1)) (AY.F s (d0, d1) a) = R by rw [← AY.skipL_step hg]; exact HK.out)
   clear hg hcell hlk
   go_wp2
   go_loopg [1, 8] (left0 false (s.length - a)) (fun g p f wi => ∃ (fb : Bool) (a2 : Nat), p = .int .i64 a2 ∧ f = .bool fb ∧ a2 ≤ s.length ∧ Hid (g = left0 fb (s.length - a2)) ∧ Hid (AY.F s (d0, d1) a = if fb = true then a2 else AY.F s (d0, d1) a2) ∧ w = wi)
   case atStart => exact ⟨false, a, rfl, rfl, hak, Lib.hid rfl, Lib.hid (by rw [if_neg (by decide)]), rfl⟩
   case round =>
    obtain ⟨fb, a2, rfl, rfl, ha2, HM2, HF, rfl⟩ := hrel
    cases fb with
    | true =>
     have HF2 := Lib.hid (show AY.F s (d0, d1) a = a2 by rw [HF.out, if_pos rfl])
     by_cases hl3 : a2 < s.length
     all_goals
      go_wp2
      go_round
      case rel => exact ⟨k + 1, a2, rfl, by go_num, by omega, ha2, Lib.hid (by rw [← HF2.out]; exact HSK.out)⟩
      case measure => simp [intOf]; omega
    | false =>
     by_cases hl3 : a2 < s.length
     ·have hl5 : decide ((a2 : Int) < (s.length : Int)) = true := decide_eq_true (by omega)
      have HFL := Lib.hid (AY.F_line2 (d := (d0, d1)) hl3)
      have HL1 := Lib.hid (HLN.out a2 ha2)
      have hcg := AY.comment_ge hl3
      have hln : (cut s a2 (LX.comment s a2)).length ≤ 100000 := by rw [cut_length]; omega
      generalize cut s a2 (LX.comment s a2) = ln at HFL HL1 hln
      obtain ⟨a3, ha3⟩ : ∃ a3, a3 = min (LX.comment s a2 + 1) s.length := ⟨_, rfl⟩
      rw [← ha3] at HFL HL1
      have h3 : a3 ≤ s.length ∧ a2 < a3 := by omega
      clear ha3 hcg
      obtain ⟨h3a, h3b⟩ := h3
      have HGG := Lib.hid (show ∀ fb, left0 fb (s.length - a3) < left0 false (s.length - a2) by intro fb; cases fb <;> simp [left0] <;> omega)
      cases d1 with
      | true =>
       have HT := Lib.hid (tabs_ref ln w hln)
       obtain ⟨fb, hfb⟩ : ∃ fb, (AY.tabsL ln == d0) = fb := ⟨_, rfl⟩
       have HFB := Lib.hid (show AY.F s (d0, true) a = if fb = true then a3 else AY.F s (d0, true) a3 by
        rw [HF.out, if_neg (by decide), HFL.out, if_pos (show true = true from rfl), ← hfb]
        simp only [beq_iff_eq])
       generalize AY.tabsL ln = lt at HT hfb
       clear HFL
       go_wp2_with (first | (go_at_call 83; refine HL1.out.mono ?_; rintro e w' ⟨rfl, rfl⟩) | (go_at_call 84; refine HT.out.mono ?_; rintro e w' ⟨rfl, rfl⟩))
       go_roundg (left0 fb (s.length - a3))
       case rel => exact ⟨fb, a3, rfl, rfl, h3a, Lib.hid rfl, HFB, rfl⟩
       case measure => rw [HM2.out]; exact HGG.out fb
      | false =>
       obtain ⟨fb, hfb⟩ : ∃ fb, (ln == d0) = fb := ⟨_, rfl⟩
       have HFB := Lib.hid (show AY.F s (d0, false) a = if fb = true then a3 else AY.F s (d0, false) a3 by
        rw [HF.out, if_neg (by decide), HFL.out, if_neg (show ¬ (false = true) by decide), ← hfb]
        simp only [beq_iff_eq])
       clear HFL
       go_wp2_with (go_at_call 83; refine HL1.out.mono ?_; rintro e w' ⟨rfl, rfl⟩)
       go_roundg (left0 fb (s.length - a3))
       case rel => exact ⟨fb, a3, rfl, rfl, h3a, Lib.hid rfl, HFB, rfl⟩
       case measure => rw [HM2.out]; exact HGG.out fb
     ·have hl5 : decide ((a2 : Int) < (s.length : Int)) = false := decide_eq_false (by omega)
      have HF2 := Lib.hid (show AY.F s (d0, d1) a = a2 by rw [HF.out, if_neg (by decide), AY.F_end hl3])
      go_wp2
      go_round
      case rel => exact ⟨k + 1, a2, rfl, by go_num, by omega, ha2, Lib.hid (by rw [← HF2.out]; exact HSK.out)⟩
      case measure => simp [intOf]; omega
  ·have HE := Lib.hid (show (a : Nat) = R by rw [← HK.out, AY.skipL_end (by have := HM.out; omega)])
   go_wp2
   go_ret
   exact ⟨ret_int (by rw [HE.out]), rfl⟩
end W
end Go.Proofs.YtcbdhheelddgeaaGreatDoor
namespace Go.Proofs.YtcbdhheelddgeaaGreatDoor
open Go.RowKit K
namespace W
set_option maxRecDepth 100000
theorem own_geR {w : World} {B m : Nat} {T : TypeId} {v : Value} {n : Nat} {xs : List Value} (h : w.ownsRow B T m v n xs) : ∀ r, v.ownBlock = some r → B ≤ r := by
 intro r hr
 rcases h.2 with ⟨h1, _⟩ | ⟨g, cap, cur, h1, h2, _⟩
 ·rw [h1] at hr; cases hr
 ·rw [h1] at hr; simp [Value.ownBlock] at hr; omega
/-- An own row of elements grows by one, by way of a row of one. -/
theorem app_rowR {T ST : TypeId} {i0 : TypeInfo} {z : Value} {m bytes : Nat} (ht : Tryz.prog.underlying ST = some (.slice T)) (hi : Tryz.prog.info? T = some i0) (hz0 : i0.zero = some z) (hz1 : i0.size = m) (hz2 : i0.bytes = bytes) (hzs : z.cells.size = m) (hsz : 0 < m) (hby : bytes ≤ 1000)
  (Y : World) (base n : Nat) (v : Value) (xs cells : List Value) (hlen : cells.length = m) (hone : ∀ u ∈ cells, u.oneCell' = true) (hown : Y.ownsRow base T m v n xs) (hn : n ≤ 2000000) (hb : base ≤ Y.heap.size) :
  ∃ A' c' w', (Builtin.append_ #[ST, ST] ST #[v, .slice (some ⟨Y.heap.size, 0, none⟩) 1 1]).run Tryz.prog (Y.alloc (.cells cells.toArray T)).drew = .ok (.slice A' (n + 1) c') w' ∧
   w'.ownsRow base T m (.slice A' (n + 1) c') (n + 1) (xs ++ cells) ∧ (Y.alloc (.cells cells.toArray T)).drew.grownBy w' v.ownBlock ∧ ((Value.slice A' (n + 1) c').ownBlock = v.ownBlock ∨ (Value.slice A' (n + 1) c').ownBlock = some (Y.heap.size + 1)) := by
 obtain ⟨v', w', r1, r2, r3, -, r4⟩ := run_append_own_at (P := Tryz.prog) (Y.alloc (.cells cells.toArray T)).drew base ST ST T i0 z m bytes ht hi hz0 hz1 hz2 hzs hsz v n xs ((hown.alloc _).drew) ⟨Y.heap.size, 0, none⟩ 1 1 cells (by rw [hlen, Nat.one_mul])
  (fun j u hj => by
   show (Y.alloc (.cells cells.toArray T)).cell? _ = _
   rw [show (⟨Y.heap.size, 0, none⟩ : Addr).add j = ⟨Y.heap.size, j, none⟩ by unfold Addr.add; split <;> simp_all]
   have h := Lib.cell_of_heap (al_new Y (.cells cells.toArray T)) j
   rw [h]
   simpa using hj)
  hone (by unfold maxLen; omega) (by
   have : (n + 1) * bytes ≤ 2000001 * 1000 := Nat.mul_le_mul (by omega) hby
   omega) (by simp; omega)
 obtain ⟨A', c', rfl⟩ := row_val r2
 refine ⟨A', c', w', r1, r2, r3, ?_⟩
 rcases r4 with h | h
 ·exact .inl h
 ·exact .inr (by rw [h]; simp)
theorem OR.snocR {α : Type} {m : Nat} {enc : α → List Value} {T : TypeId} {base : Nat} {w : World} {v : Value} {l : List α} {x : α} (h : w.ownsRow base T m v (l.length + 1) (l.flatMap enc ++ enc x)) : OR m enc T base w v (l ++ [x]) := by
 unfold OR
 rw [List.length_append, List.flatMap_append, show [x].flatMap enc = enc x from List.append_nil _]
 exact h
theorem cells3 (w : World) (a b c : Value) (T : TypeId) : ∀ (j : Nat) (u : Value), [a, b, c][j]? = some u → (w.alloc (.cells #[a, b, c] T)).cell? ((⟨w.heap.size, 0, none⟩ : Addr).add j) = some u := by
 intro j u hj
 match j, hj with
 | 0, hj => simp at hj; subst hj; simp [Addr.add]
 | 1, hj => simp at hj; subst hj; simp [Addr.add]
 | 2, hj => simp at hj; subst hj; simp [Addr.add]
 | n + 3, hj => simp at hj
theorem infoG : (Tryz.prog.info? 87).map (fun i => (i.zero, i.size, i.bytes)) = some (some (.agg #[.string ⟨#[]⟩, .int .i64 0, .bool false]), 3, 32) := by kernel_rfl
theorem encG_one (g : AY.G) : ∀ u ∈ encG g, u.oneCell' = true := by
 intro u hu
 simp [encG] at hu
 rcases hu with rfl | rfl | rfl <;> rfl
set_option maxHeartbeats 4000000 in
theorem passed_ref (gs : List AY.G) (ps : Nat) (v : Value) (w : World) (hA : RV 3 encG w v gs) (hgl : gs.length ≤ 1000000) : Calls Tryz.prog 40 #[v, .int .i64 ps] w fun e w' => ∃ v', e = .returned (.tuple #[v', .bool (AY.blankR ps gs)]) ∧ OR 3 encG 87 w.heap.size w' v' (AY.restR ps gs) ∧ Below w.heap.size w w' := by
 obtain ⟨i0, hi, hz0, hz1, hz2⟩ := info_parts infoG
 obtain ⟨A, c, rfl, hc, -⟩ := id hA
 have HA := Lib.hid hA
 obtain ⟨m, hm⟩ : ∃ m, m = gs.length := ⟨_, rfl⟩
 have HM := Lib.hid hm
 rw [← hm] at hc hgl ⊢
 obtain ⟨R1, hR1⟩ : ∃ R, AY.blankR ps gs = R := ⟨_, rfl⟩
 obtain ⟨R2, hR2⟩ : ∃ R, AY.restR ps gs = R := ⟨_, rfl⟩
 rw [hR1, hR2]
 have HR1 := Lib.hid hR1
 have HR2 := Lib.hid hR2
 clear hA hm hR1 hR2
 go_enter Tryz.func40, Tryz.ntmps40
 go_wp2
 go_loopw [6, 7, 8] (fun o bl i wr => ∃ (k : Nat) (acc : List AY.G) (b : Bool), k ≤ m ∧ i = .int .i64 k ∧ bl = .bool b ∧ Hid (acc.length ≤ k) ∧ Hid (acc ++ AY.restR ps (gs.drop k) = R2) ∧ Hid ((b || AY.blankR ps (gs.drop k)) = R1) ∧ Hid (OR 3 encG 87 w.heap.size wr o acc) ∧ Hid (Below w.heap.size w wr)) (fun _ _ i _ => m - (intOf i).toNat)
 case atStart => exact ⟨0, [], false, Nat.zero_le _, rfl, rfl, Lib.hid (Nat.le_refl _), HR2, HR1, Lib.hid (OR.nil _ _ _), Lib.hid (Below.refl _ _)⟩
 case round =>
  obtain ⟨k, acc, bl, hk, rfl, rfl, HAC, HN2, HN1, HO, HB⟩ := hrel
  clear HR1 HR2
  obtain ⟨A1, c1, rfl⟩ := HO.out.val
  by_cases hlt : k < m
  ·have hlk : k < gs.length := by have := HM.out; omega
   obtain ⟨⟨nm, e, b⟩, hg⟩ : ∃ g, gs[k]? = some g := ⟨_, List.getElem?_eq_getElem hlk⟩
   obtain ⟨q, off, rfl, hb, hcell⟩ := (HA.out.below HB.out).get hg
   have c0 : wr.cell? ⟨q, off + k * 3, none⟩ = some (.string ⟨nm.toArray⟩) := hcell 0 _ rfl
   have c1' : wr.cell? ⟨q, off + k * 3 + 1, none⟩ = some (.int .i64 e) := hcell 1 _ rfl
   have c2 : wr.cell? ⟨q, off + k * 3 + 2, none⟩ = some (.bool b) := hcell 2 _ rfl
   have hd : gs.drop k = ⟨nm, e, b⟩ :: gs.drop (k + 1) := by
    obtain ⟨h1, h2⟩ := List.getElem?_eq_some_iff.1 hg
    rw [← h2]; exact List.drop_eq_getElem_cons h1
   have hn1 := HN1.out
   have hn2 := HN2.out
   rw [hd] at hn1 hn2
   unfold AY.blankR at hn1
   unfold AY.restR at hn2
   rw [List.any_cons] at hn1
   dsimp only at hn1
   clear hg hcell hd hlk
   by_cases hp : (ps : Int) < e
   ·rw [List.filter_cons_of_pos (by simpa using hp)] at hn2
    rw [decide_eq_true hp] at hn1
    have HF1 := Lib.hid (show (bl || AY.blankR ps (gs.drop (k + 1))) = R1 from hn1)
    have HF2 := Lib.hid (show (acc ++ [⟨nm, e, b⟩]) ++ AY.restR ps (gs.drop (k + 1)) = R2 by rw [← hn2, List.append_assoc]; rfl)
    have HOX := HO
    clear hn1 hn2
    go_wp2_with (at_builtin; refine wpList_append_own_at _ rfl _ _ 54 rfl w.heap.size 87 i0 _ 3 32 Tryz.underlying54 hi hz0 hz1 hz2 rfl (by decide) _ acc.length _ rfl (row_below HOX.out (balloc _ _)) ⟨wr.heap.size, 0, none⟩ 1 1 [.string ⟨nm.toArray⟩, .int .i64 e, .bool b] rfl rfl (cells3 _ _ _ _ _) (encG_one ⟨nm, e, b⟩) (by have := HAC.out; unfold maxLen; omega) (by have := HAC.out; omega) (by have := HB.out.size; simp; omega) ?_)
    intro v1 W1 ho1 hg1 _ _
    have HB1 := Lib.hid ((btr HB.out (balloc wr (.cells #[.string ⟨nm.toArray⟩, .int .i64 e, .bool b] 87))).grown hg1 (by have := HB.out.size; simp; omega) (fun q hq => own_geR HOX.out q hq))
    have HO1 := Lib.hid (OR.snocR (l := acc) (x := ⟨nm, e, b⟩) ho1)
    clear ho1 hg1
    go_wp2
    go_roundw
    case rel => exact ⟨k + 1, acc ++ [⟨nm, e, b⟩], bl, hlt, by go_num, rfl, Lib.hid (by have := HAC.out; rw [List.length_append, List.length_singleton]; omega), HF2, HF1, HO1, HB1⟩
    case measure => simp [intOf]; omega
   ·rw [List.filter_cons_of_neg (by simpa using hp)] at hn2
    rw [decide_eq_false hp] at hn1
    have HF1 := Lib.hid (show ((bl || b) || AY.blankR ps (gs.drop (k + 1))) = R1 by rw [← hn1, Bool.or_assoc]; rfl)
    have HF2 := Lib.hid (show acc ++ AY.restR ps (gs.drop (k + 1)) = R2 from hn2)
    clear hn1 hn2
    cases bl with
    | true =>
     go_wp2
     go_roundw
     case rel => exact ⟨k + 1, acc, true, hlt, by go_num, rfl, Lib.hid (by have := HAC.out; omega), HF2, HF1, HO, HB⟩
     case measure => simp [intOf]; omega
    | false =>
     go_wp2
     go_roundw
     case rel => exact ⟨k + 1, acc, b, hlt, by go_num, rfl, Lib.hid (by have := HAC.out; omega), HF2, HF1, HO, HB⟩
     case measure => simp [intOf]; omega
  ·have he : gs.drop k = [] := List.drop_eq_nil_of_le (by have := HM.out; omega)
   have HF1 := Lib.hid (show bl = R1 by rw [← HN1.out, he]; exact (Bool.or_false _).symm)
   have HF2 := Lib.hid (show acc = R2 by rw [← HN2.out, he]; exact (List.append_nil _).symm)
   clear he
   go_wp2
   go_ret2
   exact ⟨.slice A1 acc.length c1, by rw [← HF1.out]; rfl, by rw [← HF2.out]; exact HO.out, HB.out⟩
set_option maxHeartbeats 8000000 in
theorem moved_ref (gs : List AY.G) (d : Int) (v : Value) (w : World) (hA : RV 3 encG w v gs) (hgl : gs.length ≤ 1000000) (hd0 : -1000000000000 ≤ d ∧ d ≤ 1000000000000) (hez : ∀ g ∈ gs, -1000000000000 ≤ g.e ∧ g.e ≤ 1000000000000) : Calls Tryz.prog 44 #[v, .int .i64 d] w fun e w' => ∃ v', e = .returned v' ∧ OR 3 encG 87 w.heap.size w' v' (AY.movedR gs d) ∧ Below w.heap.size w w' := by
 obtain ⟨i0, hi, hz0, hz1, hz2⟩ := info_parts infoG
 obtain ⟨A, c, rfl, hc, -⟩ := id hA
 have HA := Lib.hid hA
 have HEZ := Lib.hid hez
 obtain ⟨m, hm⟩ : ∃ m, m = gs.length := ⟨_, rfl⟩
 have HM := Lib.hid hm
 rw [← hm] at hc hgl ⊢
 obtain ⟨R2, hR2⟩ : ∃ R, AY.movedR gs d = R := ⟨_, rfl⟩
 rw [hR2]
 have HR2 := Lib.hid hR2
 obtain ⟨hd1, hd2⟩ := hd0
 clear hA hm hR2 hez
 go_enter Tryz.func44, Tryz.ntmps44
 go_wp2
 go_loopw [5, 6] (fun o i wr => ∃ (k : Nat) (acc : List AY.G), k ≤ m ∧ i = .int .i64 k ∧ Hid (acc.length ≤ k) ∧ Hid (acc ++ AY.movedR (gs.drop k) d = R2) ∧ Hid (OR 3 encG 87 w.heap.size wr o acc) ∧ Hid (Below w.heap.size w wr)) (fun _ i _ => m - (intOf i).toNat)
 case atStart => exact ⟨0, [], Nat.zero_le _, rfl, Lib.hid (Nat.le_refl _), HR2, Lib.hid (OR.nil _ _ _), Lib.hid (Below.refl _ _)⟩
 case round =>
  obtain ⟨k, acc, hk, rfl, HAC, HN2, HO, HB⟩ := hrel
  clear HR2
  obtain ⟨A1, c1, rfl⟩ := HO.out.val
  by_cases hlt : k < m
  ·have hlk : k < gs.length := by have := HM.out; omega
   obtain ⟨⟨nm, e, b⟩, hg⟩ : ∃ g, gs[k]? = some g := ⟨_, List.getElem?_eq_getElem hlk⟩
   obtain ⟨he1, he2⟩ := HEZ.out _ (List.mem_of_getElem? hg)
   dsimp only at he1 he2
   obtain ⟨q, off, rfl, hb, hcell⟩ := (HA.out.below HB.out).get hg
   have c0 : wr.cell? ⟨q, off + k * 3, none⟩ = some (.string ⟨nm.toArray⟩) := hcell 0 _ rfl
   have c1' : wr.cell? ⟨q, off + k * 3 + 1, none⟩ = some (.int .i64 e) := hcell 1 _ rfl
   have c2 : wr.cell? ⟨q, off + k * 3 + 2, none⟩ = some (.bool b) := hcell 2 _ rfl
   have hd : gs.drop k = ⟨nm, e, b⟩ :: gs.drop (k + 1) := by
    obtain ⟨h1, h2⟩ := List.getElem?_eq_some_iff.1 hg
    rw [← h2]; exact List.drop_eq_getElem_cons h1
   have hn2 := HN2.out
   rw [hd] at hn2
   have HF2 := Lib.hid (show (acc ++ [⟨nm, e + d, b⟩]) ++ AY.movedR (gs.drop (k + 1)) d = R2 by rw [← hn2, List.append_assoc]; rfl)
   clear hg hcell hd hlk hn2
   have w1 : IntKind.i64.wrap (e + d) = e + d := IntWalk.i64_in _ (by omega)
   have hlk3 : (k : Int) < (m : Int) := by omega
   have hk0 : (0 : Int) ≤ (k : Int) := by omega
   obtain ⟨A4, c4, W4, hrun, ho4, hg4, -⟩ := app_rowR (T := 87) (ST := 54) Tryz.underlying54 hi hz0 hz1 hz2 rfl (by decide) (by decide) wr w.heap.size acc.length (.slice A1 acc.length c1) _ [.string ⟨nm.toArray⟩, .int .i64 (e + d), .bool b] rfl (encG_one ⟨nm, e + d, b⟩) HO.out (by have := HAC.out; omega) HB.out.size
   have HRUN := Lib.hid hrun
   have HB4 := Lib.hid (((HB.out.trans ((balloc wr (.cells [.string ⟨nm.toArray⟩, .int .i64 (e + d), .bool b].toArray 87)).mono HB.out.size)).drew).grown hg4 (by have := HB.out.size; simp; omega) (fun q hq => own_geR HO.out q hq))
   have HO4 := Lib.hid (OR.snocR (enc := encG) (l := acc) (x := ⟨nm, e + d, b⟩) ho4)
   clear hrun ho4 hg4
   go_wp2_with fail
   go_region_law (refine step_append_eq rfl _ _ 54 rfl 54 rfl _ _ rfl rfl HRUN.out ?_)
   all_goals
    go_wp2
    go_roundw
    case rel => exact ⟨k + 1, acc ++ [⟨nm, e + d, b⟩], hlt, by go_num, Lib.hid (by have := HAC.out; rw [List.length_append, List.length_singleton]; omega), HF2, HO4, HB4⟩
    case measure => simp [intOf]; omega
  ·have he : gs.drop k = [] := List.drop_eq_nil_of_le (by have := HM.out; omega)
   have HF2 := Lib.hid (show acc = R2 by rw [← HN2.out, he]; exact (List.append_nil _).symm)
   clear he
   go_wp2
   go_ret
   exact ⟨_, rfl, by rw [← HF2.out]; exact HO.out, HB.out⟩
end W
end Go.Proofs.YtcbdhheelddgeaaGreatDoor
