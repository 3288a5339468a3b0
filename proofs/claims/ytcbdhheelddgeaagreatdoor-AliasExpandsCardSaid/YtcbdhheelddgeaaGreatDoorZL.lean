/- Several texts in one: W07f W07g. -/
import Derived.Test.YtcbdhheelddgeaaGreatDoorW07e
import Derived.Test.YtcbdhheelddgeaaGreatDoorP07b
namespace Go.Proofs.YtcbdhheelddgeaaGreatDoor
open Go.RowKit K
namespace W
set_option maxRecDepth 100000 in
set_option maxHeartbeats 1000000 in
theorem Skip_any (s : List UInt8) (x : Int) (w : World) (hl : s.length ≤ 100000) : Calls Tryz.prog 24 #[.string ⟨s.toArray⟩, .int .i64 x] w fun e w' => e = .returned (.int .i64 (LX.skipTo s (LX.clamp s x))) ∧ w = w' := by
 have HCL := Lib.hid (LX.clamp_eq s x)
 have hcl := LX.clamp_le s x
 generalize LX.clamp s x = a at HCL hcl
 obtain ⟨R, hR⟩ : ∃ R, R = LX.skipTo s a := ⟨_, rfl⟩
 have HR := Lib.hid (show LX.skip (s.length + 1) s a = R from hR.symm)
 rw [← hR]
 clear hR
 go_enter Tryz.func24, Tryz.ntmps24
 go_wp2
 go_loop [1] (fun v => ∃ i g : Nat, v = .int .i64 i ∧ i ≤ s.length ∧ Hid (s.length - i + 1 ≤ g ∧ LX.skip g s i = R)) (fun v => s.length - (intOf v).toNat)
 case atStart => exact ⟨a, s.length + 1, by rw [HCL.out], hcl, by omega, HR.out⟩
 case round =>
  obtain ⟨i, g, rfl, hi, HG⟩ := hrel
  obtain ⟨g, rfl⟩ : ∃ g', g = g' + 1 := ⟨g - 1, by have := HG.out; omega⟩
  have HE := HG.out.2
  rw [LX.skip] at HE
  by_cases hlt : i < s.length
  ·rw [if_pos hlt] at HE
   have HBL := Lib.hid (lx_blank (bt s i) w)
   have HJ := Lib.hid (lx_joins s i w hi hl)
   cases hb : LX.blank (bt s i) with
   | true =>
    rw [if_pos hb] at HE
    rw [hb] at HBL
    replace HE := Lib.hid HE
    clear hb
    go_wp2_with (go_at_call 55; refine HBL.out.mono ?_; rintro e w' ⟨rfl, rfl⟩)
    go_round
    case rel => exact ⟨i + 1, g, by go_num, by omega, by have := HG.out; omega, HE.out⟩
    case measure => simp [intOf]; omega
   | false =>
    rw [if_neg (by rw [hb]; simp)] at HE
    rw [hb] at HBL
    clear hb
    cases hj : LX.joins s i with
    | true =>
     rw [if_pos hj] at HE
     have hj2 := (LX.joins_iff.1 hj).2.2
     rw [hj] at HJ
     replace HE := Lib.hid HE
     clear hj
     go_wp2_with (first | (go_at_call 55; refine HBL.out.mono ?_; rintro e w' ⟨rfl, rfl⟩) | (go_at_call 56; refine HJ.out.mono ?_; rintro e w' ⟨rfl, rfl⟩))
     go_round
     case rel => exact ⟨i + 2, g, by go_num, by omega, by have := HG.out; omega, HE.out⟩
     case measure => simp [intOf]; omega
    | false =>
     rw [if_neg (by rw [hj]; simp)] at HE
     rw [hj] at HJ
     clear hj
     by_cases h35 : bt s i = 35
     ·rw [if_pos h35] at HE
      have HCM := Lib.hid (lx_comment s i w hi hl)
      have hc1 := LX.comment_lt hlt (by rw [h35]; decide)
      have hc2 := LX.comment_le s i
      generalize LX.comment s i = j at HE HCM hc1 hc2
      replace HE := Lib.hid HE
      rw [h35] at HBL
      go_wp2_with (first | (go_at_call 55; refine HBL.out.mono ?_; rintro e w' ⟨rfl, rfl⟩) | (go_at_call 56; refine HJ.out.mono ?_; rintro e w' ⟨rfl, rfl⟩) | (go_at_call 57; refine HCM.out.mono ?_; rintro e w' ⟨rfl, rfl⟩))
      go_round
      case rel => exact ⟨j, g, rfl, hc2, by have := HG.out; omega, HE.out⟩
      case measure => simp [intOf]; omega
     ·rw [if_neg h35] at HE
      replace HE := Lib.hid HE
      go_wp2_with (first | (go_at_call 55; refine HBL.out.mono ?_; rintro e w' ⟨rfl, rfl⟩) | (go_at_call 56; refine HJ.out.mono ?_; rintro e w' ⟨rfl, rfl⟩))
      go_ret
      exact ⟨ret_int (by rw [HE.out]), rfl⟩
  ·rw [if_neg hlt] at HE
   replace HE := Lib.hid HE
   go_wp2
   go_ret
   exact ⟨ret_int (by rw [HE.out]), rfl⟩
set_option maxRecDepth 100000 in
set_option maxHeartbeats 1000000 in
theorem Operator_any (t : List UInt8) (w : World) : Calls Tryz.prog 26 #[.string ⟨t.toArray⟩] w fun e w' => e = .returned (.bool (LX.isOp t)) ∧ w = w' := by
 by_cases h : t ∈ LX.ops
 ·have HR := Lib.hid (show LX.isOp t = true from decide_eq_true h)
  simp only [LX.ops, List.mem_cons, List.not_mem_nil, or_false] at h
  rcases h with rfl | rfl | rfl | rfl | rfl | rfl | rfl | rfl | rfl | rfl | rfl | rfl | rfl | rfl | rfl | rfl | rfl | rfl
  all_goals
   go_enter Tryz.func26, Tryz.ntmps26
   go_wp2
   go_ret
   exact ⟨ret_bool HR.out.symm, rfl⟩
 ·have HR := Lib.hid (show LX.isOp t = false from decide_eq_false h)
  have hn : ∀ x ∈ LX.ops, (t == x) = false := fun x hx => by rw [beq_eq_false_iff_ne]; rintro rfl; exact h hx
  have n0 := hn [38, 38] (by decide)
  have n1 := hn [124, 124] (by decide)
  have n2 := hn [59] (by decide)
  have n3 := hn [59, 59] (by decide)
  have n4 := hn [38] (by decide)
  have n5 := hn [124] (by decide)
  have n6 := hn [40] (by decide)
  have n7 := hn [41] (by decide)
  have n8 := hn [60] (by decide)
  have n9 := hn [62] (by decide)
  have n10 := hn [60, 60] (by decide)
  have n11 := hn [60, 60, 45] (by decide)
  have n12 := hn [62, 62] (by decide)
  have n13 := hn [60, 38] (by decide)
  have n14 := hn [62, 38] (by decide)
  have n15 := hn [60, 62] (by decide)
  have n16 := hn [62, 124] (by decide)
  have n17 := hn [10] (by decide)
  clear hn h
  go_enter Tryz.func26, Tryz.ntmps26
  go_wp2
  go_ret
  exact ⟨ret_bool HR.out.symm, rfl⟩
theorem number_any (t : List UInt8) (w : World) (hl : t.length ≤ 100000) : Calls Tryz.prog 30 #[.string ⟨t.toArray⟩] w fun e w' => e = .returned (.bool (LX.number t)) ∧ w = w' := by
 go_enter Tryz.func30, Tryz.ntmps30
 go_wp2
 go_loop [3] (fun v => ∃ i : Nat, v = .int .i64 i ∧ i ≤ t.length ∧ Hid (LX.number t = LX.number (t.drop i))) (fun v => t.length - (intOf v).toNat)
 case atStart => exact ⟨0, rfl, Nat.zero_le _, by show _ = _; rw [List.drop_zero]⟩
 case round =>
  obtain ⟨i, rfl, hi, HN⟩ := hrel
  by_cases hlt : i < t.length
  ·obtain ⟨x, hx, hb, _⟩ := drop_cons t i hlt
   have HD := Lib.hid (lx_digit (bt t i) w)
   have HX := Lib.hid (show LX.number (t.drop i) = (LX.digit (bt t i) && LX.number (t.drop (i + 1))) by rw [hx, hb]; rfl)
   clear hx hb
   cases hd : LX.digit (bt t i) with
   | true =>
    rw [hd] at HD HX
    clear hd
    go_wp2_with (go_at_call 67; refine HD.out.mono ?_; rintro e w' ⟨rfl, rfl⟩)
    go_round
    case rel => exact ⟨i + 1, by go_num, by omega, by show _ = _; rw [HN.out, HX.out, Bool.true_and]⟩
    case measure => simp [intOf]; omega
   | false =>
    rw [hd] at HD HX
    clear hd
    go_wp2_with (go_at_call 67; refine HD.out.mono ?_; rintro e w' ⟨rfl, rfl⟩)
    go_ret
    exact ⟨ret_bool (by rw [HN.out, HX.out, Bool.false_and]), rfl⟩
  ·go_wp2
   go_ret
   exact ⟨ret_bool (by rw [HN.out, List.drop_eq_nil_of_le (by omega)]; rfl), rfl⟩
theorem token_any (s : List UInt8) (k p e : Nat) (w : World) (_hl : s.length ≤ 100000) (hp : p ≤ e) (he : e ≤ s.length) : Calls Tryz.prog 25 #[.string ⟨s.toArray⟩, .int .i64 k, .int .i64 p, .int .i64 e] w fun r w' => r = .returned (.agg #[.int .i64 k, .int .i64 p, .int .i64 e, .string ⟨(cut s p e).toArray⟩]) ∧ Below w.heap.size w w' := by
 have h1 : ((p : Int) ≤ (e : Int)) = True := eq_true (by omega)
 have h2 : ((e : Int) ≤ (s.length : Int)) = True := eq_true (by omega)
 go_enter Tryz.func25, Tryz.ntmps25
 go_wp2
 exact bodyPost_ret (v := .agg #[.int .i64 k, .int .i64 p, .int .i64 e, .string ⟨(cut s p e).toArray⟩]) (by simp [results, Tryz.results25, go_sem]) rfl ⟨rfl, balloc _ _⟩
end W
end Go.Proofs.YtcbdhheelddgeaaGreatDoor
namespace Go.Proofs.YtcbdhheelddgeaaGreatDoor
open Go.RowKit K
namespace W
/-- A block of four cells. -/
theorem blk4 {v : World} {b : Nat} {a0 a1 a2 a3 : Value} {t : TypeId} (h : v.heap[b]? = some (.cells #[a0, a1, a2, a3] t (0, 0))) :
  v.cell? ⟨b, 0, none⟩ = some a0 ∧ v.cell? ⟨b, 1, none⟩ = some a1 ∧ v.cell? ⟨b, 2, none⟩ = some a2 ∧ v.cell? ⟨b, 3, none⟩ = some a3 ∧ v.frozen? ⟨b, 0, none⟩ = false ∧ v.frozen? ⟨b, 1, none⟩ = false ∧ v.frozen? ⟨b, 2, none⟩ = false ∧ v.frozen? ⟨b, 3, none⟩ = false :=
 ⟨Lib.cell_of_heap h 0, Lib.cell_of_heap h 1, Lib.cell_of_heap h 2, Lib.cell_of_heap h 3, Lib.frozen_of_heap h 0, Lib.frozen_of_heap h 1, Lib.frozen_of_heap h 2, Lib.frozen_of_heap h 3⟩
theorem tok_ret {a b c kd ps st : Nat} {d tx : List UInt8} {x y : Int} (h : ((⟨a, b, c, d⟩ : LX.Tok), x) = (⟨kd, ps, st, tx⟩, y)) :
  Ending.returned (.tuple #[.agg #[.int .i64 a, .int .i64 b, .int .i64 c, .string ⟨d.toArray⟩], .int .i64 x]) = .returned (.tuple #[.agg #[.int .i64 kd, .int .i64 ps, .int .i64 st, .string ⟨tx.toArray⟩], .int .i64 y]) := by
 cases h; rfl
theorem below4 {B : Nat} {w v : World} (h : Below B w v) (b : Nat) (hb : B ≤ b) (v0 v1 v2 v3 : Value) : Below B w ((((v.setCell ⟨b, 0, none⟩ v0).setCell ⟨b, 1, none⟩ v1).setCell ⟨b, 2, none⟩ v2).setCell ⟨b, 3, none⟩ v3) :=
 (((h.setCell hb _).setCell hb _).setCell hb _).setCell hb _
set_option maxRecDepth 100000 in
set_option maxHeartbeats 4000000 in
theorem Next_any (s : List UInt8) (z : Int) (w : World) (kd ps st : Nat) (tx : List UInt8) (x : Int) (hl : s.length ≤ 100000) (hr : LX.next s (LX.clamp s z) = (⟨kd, ps, st, tx⟩, x)) :
  Calls Tryz.prog 12 #[.string ⟨s.toArray⟩, .int .i64 z] w fun e w' => e = .returned (.tuple #[.agg #[.int .i64 kd, .int .i64 ps, .int .i64 st, .string ⟨tx.toArray⟩], .int .i64 x]) ∧ Below w.heap.size w w' := by
 unfold LX.next at hr
 by_cases h1 : 16384 < s.length
 ·rw [if_pos h1] at hr
  have h1' : ((16384 : Int) < (s.length : Int)) = True := eq_true (by omega)
  have HR := Lib.hid hr
  clear hr h1
  go_enter Tryz.func12, Tryz.ntmps12
  go_wp2
  exact bodyPost_ret (v := .tuple #[.agg #[.int .i64 (0 : Nat), .int .i64 (0 : Nat), .int .i64 (0 : Nat), .string ⟨([] : List UInt8).toArray⟩], .int .i64 3]) (by simp [results, Tryz.results12, go_sem]) rfl ⟨tok_ret HR.out, balloc _ _⟩
 rw [if_neg h1] at hr
 have h1' : ((16384 : Int) < (s.length : Int)) = False := eq_false (by omega)
 have HS := Lib.hid (fun v => Skip_any s z v hl)
 have hp := LX.skipTo_le (LX.clamp_le s z)
 generalize LX.skipTo s (LX.clamp s z) = p at hr HS hp
 unfold LX.nextAt at hr
 by_cases h2 : p = s.length
 ·rw [if_pos h2] at hr
  have HR := Lib.hid hr
  have h2' : ((p : Int) == (s.length : Int)) = true := by rw [beq_iff_eq]; omega
  clear hr h2
  go_enter Tryz.func12, Tryz.ntmps12
  go_wp2_with (go_at_call 24; refine (HS.out _).mono ?_; rintro e w' ⟨rfl, rfl⟩)
  exact bodyPost_ret (v := .tuple #[.agg #[.int .i64 (5 : Nat), .int .i64 p, .int .i64 p, .string ⟨([] : List UInt8).toArray⟩], .int .i64 0]) (by simp [results, Tryz.results12, go_sem]) rfl ⟨tok_ret HR.out, balloc _ _⟩
 rw [if_neg h2] at hr
 have h2' : ((p : Int) == (s.length : Int)) = false := by rw [beq_eq_false_iff_ne]; omega
 have h3 : p < s.length := by omega
 clear h2
 obtain ⟨wb, hwb⟩ : ∃ wb, wb = w.alloc (.cells #[.int .i64 0, .int .i64 0, .int .i64 0, .string ⟨#[]⟩] 46) := ⟨_, rfl⟩
 have HBW := Lib.hid (show Below w.heap.size w wb by rw [hwb]; exact balloc _ _)
 have HC0 := Lib.hid (show wb.heap[w.heap.size]? = some (.cells #[.int .i64 0, .int .i64 0, .int .i64 0, .string ⟨#[]⟩] 46 (0, 0)) by rw [hwb]; exact al_new w _)
 have HWB := Lib.hid hwb
 clear hwb
 /- What is known of the cell of the result in a later world. -/
 have HLT := Lib.hid (fun (v : World) (hb : Below wb.heap.size wb v) => blk4 ((hb.block w.heap.size (Array.getElem?_eq_some_iff.1 HC0.out).1).trans HC0.out))
 have hws : w.heap.size < wb.heap.size := (Array.getElem?_eq_some_iff.1 HC0.out).1
 by_cases h10 : bt s p = 10
 ·rw [if_pos h10] at hr
  have HR := Lib.hid hr
  have HT := Lib.hid (fun v => token_any s 3 p (p + 1) v hl (by omega) (by omega))
  clear hr
  go_enter Tryz.func12, Tryz.ntmps12
  go_wp2_with (go_at_call 24; refine (HS.out _).mono ?_; rintro e w' ⟨rfl, rfl⟩)
  refine (HT.out _).mono ?_
  rintro e w1 ⟨rfl, hb1⟩
  rw [← HWB.out] at hb1
  obtain ⟨c0, c1, c2, c3, f0, f1, f2, f3⟩ := HLT.out w1 hb1
  have HB1 := Lib.hid (btr HBW.out hb1)
  have hz := HB1.out.size
  clear hb1
  go_wp2
  exact bodyPost_ret (v := .tuple #[.agg #[.int .i64 (3 : Nat), .int .i64 p, .int .i64 (p + 1 : Nat), .string ⟨(cut s p (p + 1)).toArray⟩], .int .i64 0]) (by simp [results, Tryz.results12, go_sem, c0, c1, c2, c3]) rfl ⟨tok_ret HR.out, below4 HB1.out _ (Nat.le_refl _) _ _ _ _⟩
 rw [if_neg h10] at hr
 have e10 := beq_f h10
 have HM := Lib.hid (show (min 3 ((s.length : Int) - (p : Int))) = ((min 3 (s.length - p) : Nat) : Int) by omega)
 have HOL := Lib.hid (show LX.opFrom s p (min 3 (s.length - p)) = LX.opLen s p from rfl)
 have hm3 : min 3 (s.length - p) ≤ 3 := Nat.min_le_left _ _
 have hm4 : p + min 3 (s.length - p) ≤ s.length := by omega
 generalize min 3 (s.length - p) = m at HM HOL hm3 hm4
 have HR := Lib.hid hr
 have h3i : (p : Int) < (s.length : Int) := by omega
 clear hr
 go_enter Tryz.func12, Tryz.ntmps12
 go_wp2_with (go_at_call 24; refine (HS.out _).mono ?_; rintro e w' ⟨rfl, rfl⟩)
 rw [← HWB.out]
 go_loop [6] (fun v => ∃ n : Nat, v = .int .i64 n ∧ n ≤ 3 ∧ p + n ≤ s.length ∧ Hid (LX.opFrom s p n = LX.opLen s p)) (fun v => (intOf v).toNat)
 case atStart => exact ⟨m, by rw [← HM.out], hm3, hm4, HOL.out⟩
 case round =>
  obtain ⟨n, rfl, hn3, hn, HN⟩ := hrel
  rcases Nat.eq_zero_or_pos n with rfl | hpos
  case inr =>
   have HO := Lib.hid (fun v => Operator_any (cut s p (p + n)) v)
   have HE := HN.out
   rw [LX.opFrom_pos hpos] at HE
   have t1 : ((p : Int) ≤ (p : Int) + (n : Int)) = True := eq_true (by omega)
   have t2 : ((p : Int) + (n : Int) ≤ (s.length : Int)) = True := eq_true (by omega)
   have t3 : ((0 : Int) < (n : Int)) = True := eq_true (by omega)
   have t4 : (1 : Int) ≤ (n : Int) := by omega
   cases ho : LX.isOp (cut s p (p + n)) with
   | true =>
    rw [if_pos ho] at HE
    rw [ho] at HO
    have HR2 := HR.out
    rw [if_pos (by rw [← HE]; exact hpos), ← HE] at HR2
    replace HR2 := Lib.hid HR2
    have HT := Lib.hid (fun v => token_any s 2 p (p + n) v hl (by omega) hn)
    clear HE ho
    go_wp2_with (go_at_call 26; refine (HO.out _).mono ?_; rintro e w' ⟨rfl, rfl⟩)
    refine (HT.out _).mono ?_
    rintro e w1 ⟨rfl, hb1⟩
    obtain ⟨c0, c1, c2, c3, f0, f1, f2, f3⟩ := HLT.out w1 hb1
    have HB1 := Lib.hid (btr HBW.out hb1)
    have hz := HB1.out.size
    clear hb1
    go_wp2
    exact bodyPost_ret (v := .tuple #[.agg #[.int .i64 (2 : Nat), .int .i64 p, .int .i64 (p + n : Nat), .string ⟨(cut s p (p + n)).toArray⟩], .int .i64 0]) (by simp [results, Tryz.results12, go_sem, c0, c1, c2, c3]) rfl ⟨tok_ret HR2.out, below4 HB1.out _ (Nat.le_refl _) _ _ _ _⟩
   | false =>
    rw [if_neg (by rw [ho]; simp)] at HE
    rw [ho] at HO
    replace HE := Lib.hid HE
    clear ho
    go_wp2_with (go_at_call 26; refine (HO.out _).mono ?_; rintro e w' ⟨rfl, rfl⟩)
    go_round
    case rel => exact ⟨n - 1, by rw [show ((n - 1 : Nat) : Int) = (n : Int) - 1 by omega], by omega, by omega, HE.out⟩
    case measure => simp [intOf]; omega
  case inl =>
   have HR2 := HR.out
   rw [if_neg (by rw [← HN.out]; exact Nat.lt_irrefl 0)] at HR2
   unfold LX.nextW at HR2
   have hwg := LX.word_good (s.length + 1) s p hp
   obtain ⟨e0, x0, hw0⟩ : ∃ e0 x0, LX.wordEnd s p = (e0, x0) := ⟨_, _, rfl⟩
   have HW0 := Lib.hid (show LX.word (s.length + 1) s p = (e0, x0) from hw0)
   rw [hw0] at HR2
   rw [show LX.word (s.length + 1) s p = (e0, x0) from hw0] at hwg
   replace HR2 := Lib.hid HR2
   replace hwg := Lib.hid hwg
   clear hw0 HR HN HM HOL hm3 hm4
   have HPP := Lib.hid (show p ≤ p ∧ s.length - p + 1 ≤ s.length + 1 from ⟨Nat.le_refl _, by omega⟩)
   go_wp2
   go_loopw [7] (fun v wr => ∃ i g : Nat, v = .int .i64 i ∧ p ≤ i ∧ i ≤ s.length ∧ Hid (s.length - i + 1 ≤ g ∧ LX.word g s i = (e0, x0)) ∧ Hid (Below wb.heap.size wb wr)) (fun v _ => s.length - (intOf v).toNat)
   case atStart => exact ⟨p, s.length + 1, rfl, HPP.out.1, hp, ⟨HPP.out.2, HW0.out⟩, Below.refl _ _⟩
   case round =>
    obtain ⟨i, g, rfl, hi1, hi2, HG, HB⟩ := hrel
    obtain ⟨g, rfl⟩ : ∃ g', g = g' + 1 := ⟨g - 1, by have := HG.out; omega⟩
    have HE := HG.out.2
    rw [LX.word] at HE
    have HDV := Lib.hid (fun v => lx_divides (bt s i) v)
    by_cases hgo : i < s.length ∧ LX.divides (bt s i) = false
    ·obtain ⟨hlt, hdv⟩ := hgo
     rw [if_pos ⟨hlt, hdv⟩] at HE
     rw [hdv] at HDV
     clear hdv
     have HBG := Lib.hid (fun v => lx_begins s i v hlt hl)
     cases hb : LX.begins s i with
     | false =>
      rw [if_neg (by rw [hb]; simp)] at HE
      rw [hb] at HBG
      replace HE := Lib.hid HE
      clear hb
      go_wp2_with (first | (go_at_call 27; refine (HDV.out _).mono ?_; rintro e w' ⟨rfl, rfl⟩) | (go_at_call 28; refine (HBG.out _).mono ?_; rintro e w' ⟨rfl, rfl⟩))
      go_roundw
      case rel => exact ⟨i + 1, g, by go_num, by omega, by omega, ⟨by have := HG.out; omega, HE.out⟩, HB⟩
      case measure => simp [intOf]; omega
     | true =>
      rw [if_pos hb] at HE
      obtain ⟨j, y, hj⟩ : ∃ j y, LX.construct s i false false = (j, y) := ⟨_, _, rfl⟩
      have HCC := Lib.hid (fun v => construct_any s i false false v j y hl hlt hb hj)
      have HGD := LX.construct_good (q := false) (d := false) hlt hb
      rw [hj] at HE HGD
      obtain ⟨hj1, hj2, hj3⟩ := HGD
      (try dsimp only at hj1 hj2 hj3)
      rw [hb] at HBG
      replace HE := Lib.hid HE
      clear hb hj
      go_wp2_with (first | (go_at_call 27; refine (HDV.out _).mono ?_; rintro e w' ⟨rfl, rfl⟩) | (go_at_call 28; refine (HBG.out _).mono ?_; rintro e w' ⟨rfl, rfl⟩))
      refine (HCC.out _).mono ?_
      rintro e1 w1 ⟨rfl, hb1⟩
      have HB1 := Lib.hid (btr HB.out hb1)
      clear hb1
      obtain ⟨c0, c1, c2, c3, f0, f1, f2, f3⟩ := HLT.out w1 HB1.out
      have HBF := Lib.hid (btr HBW.out HB1.out)
      have hz := HBF.out.size
      rcases hj3 with rfl | rfl | rfl
      ·have hj4 := hj2 rfl
       clear hj2
       go_wp2
       go_roundw
       case rel => exact ⟨j, g, rfl, by omega, hj1, ⟨by have := HG.out; omega, HE.out⟩, HB1⟩
       case measure => simp [intOf]; omega
      ·clear hj2
       have HR3 : ((⟨0, j, 0, []⟩ : LX.Tok), (6 : Int)) = ((⟨kd, ps, st, tx⟩ : LX.Tok), x) := by
        have h := HR2.out
        have h1 : j = e0 := congrArg Prod.fst HE.out
        have h2 : (6 : Int) = x0 := congrArg Prod.snd HE.out
        subst h1 h2
        rw [if_neg (by decide)] at h
        exact h
       replace HR3 := Lib.hid HR3
       go_wp2
       exact bodyPost_ret (v := .tuple #[.agg #[.int .i64 (0 : Nat), .int .i64 j, .int .i64 (0 : Nat), .string ⟨([] : List UInt8).toArray⟩], .int .i64 6]) (by simp [results, Tryz.results12, go_sem, c0, c1, c2, c3]) rfl ⟨tok_ret HR3.out, below4 HBF.out _ (Nat.le_refl _) _ _ _ _⟩
      ·clear hj2
       have HR3 : ((⟨0, j, 0, []⟩ : LX.Tok), (7 : Int)) = ((⟨kd, ps, st, tx⟩ : LX.Tok), x) := by
        have h := HR2.out
        have h1 : j = e0 := congrArg Prod.fst HE.out
        have h2 : (7 : Int) = x0 := congrArg Prod.snd HE.out
        subst h1 h2
        rw [if_neg (by decide)] at h
        exact h
       replace HR3 := Lib.hid HR3
       go_wp2
       exact bodyPost_ret (v := .tuple #[.agg #[.int .i64 (0 : Nat), .int .i64 j, .int .i64 (0 : Nat), .string ⟨([] : List UInt8).toArray⟩], .int .i64 7]) (by simp [results, Tryz.results12, go_sem, c0, c1, c2, c3]) rfl ⟨tok_ret HR3.out, below4 HBF.out _ (Nat.le_refl _) _ _ _ _⟩
    ·rw [if_neg hgo] at HE
     have HR3 : (LX.tok s (if i < s.length ∧ (bt s i = 60 ∨ bt s i = 62) ∧ LX.number (cut s p i) = true then 4 else 1) p i, (0 : Int)) = ((⟨kd, ps, st, tx⟩ : LX.Tok), x) := by
      have h := HR2.out
      have h1 : i = e0 := congrArg Prod.fst HE
      have h2 : (0 : Int) = x0 := congrArg Prod.snd HE
      subst h1 h2
      rw [if_pos rfl] at h
      exact h
     replace HR3 := Lib.hid HR3
     clear HE
     have HBF := Lib.hid (btr HBW.out HB.out)
     have HT4 := Lib.hid (fun v => token_any s 4 p i v hl hi1 hi2)
     have HT1 := Lib.hid (fun v => token_any s 1 p i v hl hi1 hi2)
     have HNU := Lib.hid (fun v => number_any (cut s p i) v (by rw [cut_length]; omega))
     have t1 : ((p : Int) ≤ (i : Int)) = True := eq_true (by omega)
     have t2 : ((i : Int) ≤ (s.length : Int)) = True := eq_true (by omega)
     by_cases hlt : i < s.length
     case neg =>
      have t3 : ((i : Int) < (s.length : Int)) = False := eq_false (by omega)
      have HR4 := HR3.out
      rw [if_neg (fun e => hlt e.1)] at HR4
      replace HR4 := Lib.hid HR4
      go_wp2_with fail
      refine (HT1.out _).mono ?_
      rintro e w1 ⟨rfl, hb1⟩
      obtain ⟨c0, c1, c2, c3, f0, f1, f2, f3⟩ := HLT.out w1 (btr HB.out hb1)
      have HB1 := Lib.hid (btr HBF.out hb1)
      have hz := HB1.out.size
      clear hb1
      go_wp2
      exact bodyPost_ret (v := .tuple #[.agg #[.int .i64 (1 : Nat), .int .i64 p, .int .i64 i, .string ⟨(cut s p i).toArray⟩], .int .i64 0]) (by simp [results, Tryz.results12, go_sem, c0, c1, c2, c3]) rfl ⟨tok_ret HR4.out, below4 HB1.out _ (Nat.le_refl _) _ _ _ _⟩
     have t3 : ((i : Int) < (s.length : Int)) = True := eq_true (by omega)
     obtain hdv : LX.divides (bt s i) = true := by cases h : LX.divides (bt s i); exact absurd ⟨hlt, h⟩ hgo; rfl
     rw [hdv] at HDV
     clear hdv hgo
     by_cases hb : bt s i = 60 ∨ bt s i = 62
     case neg =>
      have HR4 := HR3.out
      rw [if_neg (fun e => hb e.2.1)] at HR4
      replace HR4 := Lib.hid HR4
      have e60 := beq_f (fun e => hb (.inl e))
      have e62 := beq_f (fun e => hb (.inr e))
      clear hb
      go_wp2_with (first | (go_at_call 27; refine (HDV.out _).mono ?_; rintro e w' ⟨rfl, rfl⟩) | (go_at_call 30; refine (HNU.out _).mono ?_; rintro e w' ⟨rfl, rfl⟩))
      refine (HT1.out _).mono ?_
      rintro e w1 ⟨rfl, hb1⟩
      obtain ⟨c0, c1, c2, c3, f0, f1, f2, f3⟩ := HLT.out w1 (btr HB.out hb1)
      have HB1 := Lib.hid (btr HBF.out hb1)
      have hz := HB1.out.size
      clear hb1
      go_wp2
      exact bodyPost_ret (v := .tuple #[.agg #[.int .i64 (1 : Nat), .int .i64 p, .int .i64 i, .string ⟨(cut s p i).toArray⟩], .int .i64 0]) (by simp [results, Tryz.results12, go_sem, c0, c1, c2, c3]) rfl ⟨tok_ret HR4.out, below4 HB1.out _ (Nat.le_refl _) _ _ _ _⟩
     have HB6 := Lib.hid hb
     cases hnu : LX.number (cut s p i) with
     | true =>
      have HR4 := HR3.out
      rw [if_pos ⟨hlt, hb, hnu⟩] at HR4
      replace HR4 := Lib.hid HR4
      rw [hnu] at HNU
      clear hnu
      rcases hb with hb | hb
      ·rw [hb] at HDV
       go_wp2_with (first | (go_at_call 27; refine (HDV.out _).mono ?_; rintro e w' ⟨rfl, rfl⟩) | (go_at_call 30; refine (HNU.out _).mono ?_; rintro e w' ⟨rfl, rfl⟩))
       refine (HT4.out _).mono ?_
       rintro e w1 ⟨rfl, hb1⟩
       obtain ⟨c0, c1, c2, c3, f0, f1, f2, f3⟩ := HLT.out w1 (btr HB.out hb1)
       have HB1 := Lib.hid (btr HBF.out hb1)
       have hz := HB1.out.size
       clear hb1
       go_wp2
       exact bodyPost_ret (v := .tuple #[.agg #[.int .i64 (4 : Nat), .int .i64 p, .int .i64 i, .string ⟨(cut s p i).toArray⟩], .int .i64 0]) (by simp [results, Tryz.results12, go_sem, c0, c1, c2, c3]) rfl ⟨tok_ret HR4.out, below4 HB1.out _ (Nat.le_refl _) _ _ _ _⟩
      ·rw [hb] at HDV
       go_wp2_with (first | (go_at_call 27; refine (HDV.out _).mono ?_; rintro e w' ⟨rfl, rfl⟩) | (go_at_call 30; refine (HNU.out _).mono ?_; rintro e w' ⟨rfl, rfl⟩))
       refine (HT4.out _).mono ?_
       rintro e w1 ⟨rfl, hb1⟩
       obtain ⟨c0, c1, c2, c3, f0, f1, f2, f3⟩ := HLT.out w1 (btr HB.out hb1)
       have HB1 := Lib.hid (btr HBF.out hb1)
       have hz := HB1.out.size
       clear hb1
       go_wp2
       exact bodyPost_ret (v := .tuple #[.agg #[.int .i64 (4 : Nat), .int .i64 p, .int .i64 i, .string ⟨(cut s p i).toArray⟩], .int .i64 0]) (by simp [results, Tryz.results12, go_sem, c0, c1, c2, c3]) rfl ⟨tok_ret HR4.out, below4 HB1.out _ (Nat.le_refl _) _ _ _ _⟩
     | false =>
      have HR4 := HR3.out
      rw [if_neg (fun e => by rw [hnu] at e; cases e.2.2)] at HR4
      replace HR4 := Lib.hid HR4
      rw [hnu] at HNU
      clear hnu
      rcases hb with hb | hb
      ·rw [hb] at HDV
       go_wp2_with (first | (go_at_call 27; refine (HDV.out _).mono ?_; rintro e w' ⟨rfl, rfl⟩) | (go_at_call 30; refine (HNU.out _).mono ?_; rintro e w' ⟨rfl, rfl⟩))
       refine (HT1.out _).mono ?_
       rintro e w1 ⟨rfl, hb1⟩
       obtain ⟨c0, c1, c2, c3, f0, f1, f2, f3⟩ := HLT.out w1 (btr HB.out hb1)
       have HB1 := Lib.hid (btr HBF.out hb1)
       have hz := HB1.out.size
       clear hb1
       go_wp2
       exact bodyPost_ret (v := .tuple #[.agg #[.int .i64 (1 : Nat), .int .i64 p, .int .i64 i, .string ⟨(cut s p i).toArray⟩], .int .i64 0]) (by simp [results, Tryz.results12, go_sem, c0, c1, c2, c3]) rfl ⟨tok_ret HR4.out, below4 HB1.out _ (Nat.le_refl _) _ _ _ _⟩
      ·rw [hb] at HDV
       go_wp2_with (first | (go_at_call 27; refine (HDV.out _).mono ?_; rintro e w' ⟨rfl, rfl⟩) | (go_at_call 30; refine (HNU.out _).mono ?_; rintro e w' ⟨rfl, rfl⟩))
       refine (HT1.out _).mono ?_
       rintro e w1 ⟨rfl, hb1⟩
       obtain ⟨c0, c1, c2, c3, f0, f1, f2, f3⟩ := HLT.out w1 (btr HB.out hb1)
       have HB1 := Lib.hid (btr HBF.out hb1)
       have hz := HB1.out.size
       clear hb1
       go_wp2
       exact bodyPost_ret (v := .tuple #[.agg #[.int .i64 (1 : Nat), .int .i64 p, .int .i64 i, .string ⟨(cut s p i).toArray⟩], .int .i64 0]) (by simp [results, Tryz.results12, go_sem, c0, c1, c2, c3]) rfl ⟨tok_ret HR4.out, below4 HB1.out _ (Nat.le_refl _) _ _ _ _⟩
end W
end Go.Proofs.YtcbdhheelddgeaaGreatDoor
