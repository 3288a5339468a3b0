/- The reference's word parser in memory: parameters in braces. -/
import Derived.Test.YtcbdhheelddgeaaGreatDoorYC
import Derived.Deep.DeepCutAuto
namespace Go.Proofs.YtcbdhheelddgeaaGreatDoor
open Go.RowKit K
namespace W
set_option maxRecDepth 100000
/-- A block of five cells. -/
theorem blk5R {v : World} {b : Nat} {a0 a1 a2 a3 a4 : Value} {t : TypeId} (h : v.heap[b]? = some (.cells #[a0, a1, a2, a3, a4] t (0, 0))) :
    v.cell? ⟨b, 0, none⟩ = some a0 ∧ v.cell? ⟨b, 1, none⟩ = some a1 ∧ v.cell? ⟨b, 2, none⟩ = some a2 ∧ v.cell? ⟨b, 3, none⟩ = some a3 ∧ v.cell? ⟨b, 4, none⟩ = some a4 ∧ v.frozen? ⟨b, 2, none⟩ = false ∧ v.frozen? ⟨b, 3, none⟩ = false ∧ v.frozen? ⟨b, 4, none⟩ = false :=
  ⟨Lib.cell_of_heap h 0, Lib.cell_of_heap h 1, Lib.cell_of_heap h 2, Lib.cell_of_heap h 3, Lib.cell_of_heap h 4, Lib.frozen_of_heap h 2, Lib.frozen_of_heap h 3, Lib.frozen_of_heap h 4⟩
/-- What the stores into a part's last three fields leave. -/
structure Put3 (V Y : World) (b : Nat) (cs : Array Value) : Prop where
  blk : Y.heap[b]? = some (.cells cs 126 (0, 0))
  far : ∀ k, k ≠ b → Y.heap[k]? = V.heap[k]?
  bel : ∀ B, B ≤ b → Below B V Y
theorem put3 {V : World} {b : Nat} {a0 a1 a2 a3 a4 y2 y3 y4 : Value} (h : V.heap[b]? = some (.cells #[a0, a1, a2, a3, a4] 126 (0, 0))) (i j k : Nat) (u v w : Value) (hp : #[a0, a1, y2, y3, y4] = ((#[a0, a1, a2, a3, a4].set! i u).set! j v).set! k w) :
    Put3 V (((V.setCell ⟨b, i, none⟩ u).setCell ⟨b, j, none⟩ v).setCell ⟨b, k, none⟩ w) b #[a0, a1, y2, y3, y4] := by
  have a0 := heap_setCell_same V b i _ _ u h
  have a1 := heap_setCell_same _ b j _ _ v a0
  have a2 := heap_setCell_same _ b k _ _ w a1
  refine ⟨by rw [a2, hp]; rfl, fun q hq => ?_, fun B hB => (((Below.refl B V).setCell hB _).setCell hB _).setCell hB _⟩
  exact (Below.heap_setCell _ _ _ q hq).trans ((Below.heap_setCell _ _ _ q hq).trans (Below.heap_setCell _ _ _ q hq))
theorem Put3.drew {V Y : World} {b : Nat} {cs : Array Value} (h : Put3 V Y b cs) : Put3 V Y.drew b cs := ⟨h.blk, h.far, fun B hB => (h.bel B hB).drew⟩
set_option maxHeartbeats 8000000 in
theorem rw_braced (N : RP.NestR) (c : WP.Ctx) (a : Nat) (p : Int) (hp : RP.PlC p c.pl c.op) (w : World) (hl : c.s.length ≤ 40000) (ha : a + 2 ≤ c.s.length) (hlv : c.lv ≤ 33) (hN : NC c.s a N) (hG : RP.GoodN c.s N) :
    Calls Tryz.prog 173 #[.string ⟨c.s.toArray⟩, .int .i64 a, .int .i64 p, .int .i64 c.lv] w (ROut w.heap.size w (RP.braced N c a)) := by
  obtain ⟨s, pl, op, lv, opn⟩ := c
  dsimp only at *
  obtain ⟨wb, FM⟩ := fm_of w
  have HF := Lib.hid (fun (x y : Int) (hy : y ≠ 0) v => rw_fail x y hy v wb.heap.size)
  have HPM := Lib.hid (fun (i : Nat) (h : i ≤ 100001) v => rw_param s i v (by omega) h)
  obtain ⟨R, hR⟩ : ∃ R, RP.braced N ⟨s, pl, op, lv, opn⟩ a = R := ⟨_, rfl⟩
  rw [hR]
  obtain ⟨b1, hb1⟩ : ∃ b1, decide (a + 2 < s.length ∧ bt s (a + 2) = 35) = b1 := ⟨_, rfl⟩
  obtain ⟨k3, hk3⟩ : ∃ k3, RP.param s (a + 3) = k3 := ⟨_, rfl⟩
  obtain ⟨e, he⟩ : ∃ e, RP.param s (a + 2) = e := ⟨_, rfl⟩
  have HU := Lib.hid (show R = if a + 2 < s.length ∧ bt s (a + 2) = 35 then
    if 32 < k3 - (a + 3) then none
    else if a + 3 < k3 ∧ k3 < s.length ∧ bt s k3 = 125 then some ([.mk 4 (cut s (a + 3) k3) 5 false []], k3 + 1)
    else if a + 3 < k3 ∧ k3 = s.length then none
    else RP.braced2 N ⟨s, pl, op, lv, opn⟩ a e
  else RP.braced2 N ⟨s, pl, op, lv, opn⟩ a e by rw [← hR, ← hk3, ← he]; rfl)
  have HP2 := Lib.hid (fun v => show Calls Tryz.prog 179 #[.string ⟨s.toArray⟩, .int .i64 ((a : Int) + 2)] v (fun x w' => x = .returned (.int .i64 e) ∧ v = w') from by rw [← he]; exact HPM.out (a + 2) (by omega) v)
  have HP3 := Lib.hid (fun v => show Calls Tryz.prog 179 #[.string ⟨s.toArray⟩, .int .i64 ((a : Int) + 2 + 1)] v (fun x w' => x = .returned (.int .i64 k3) ∧ v = w') from by rw [← hk3]; exact HPM.out (a + 3) (by omega) v)
  have hke : a + 2 ≤ e ∧ e ≤ s.length := by rw [← he]; exact RP.param_le s ha
  have HK3 := Lib.hid (show a + 3 ≤ s.length → a + 3 ≤ k3 ∧ k3 ≤ s.length from fun h => by rw [← hk3]; exact RP.param_le s h)
  have HB1 := Lib.hid hb1
  clear hb1 hk3 he hR HPM
  have w0 := FM.lt
  go_enter Tryz.func173, Tryz.ntmps173
  go_upto_region 2 with (fail)
  rw [← FM.eq]
  obtain ⟨c0, c1, c2, f0, f1, f2⟩ := FM.blk wb (Below.refl _ _)
  go_cut [28] (fun v wx => v = .bool b1 ∧ wx = wb)
  case first =>
    by_cases q1 : a + 2 < s.length
    case neg =>
      have q1' : ((a : Int) + 2 < (s.length : Int)) = False := eq_false (by omega)
      go_wp2_with fail
      go_meet
      exact ⟨by rw [← HB1.out, decide_eq_false (fun e => q1 e.1)], rfl⟩
    case pos =>
      have q1' : ((a : Int) + 2 < (s.length : Int)) = True := eq_true (by omega)
      by_cases q2 : bt s (a + 2) = 35
      case neg =>
        have q2' := beq_f q2
        go_wp2_with fail
        go_meet
        exact ⟨by rw [← HB1.out, decide_eq_false (fun e => q2 e.2)], rfl⟩
      case pos =>
        have q2' : (bt s (a + 2) == 35) = true := by rw [beq_iff_eq]; exact q2
        go_wp2_with fail
        go_meet
        exact ⟨by rw [← HB1.out, decide_eq_true ⟨q1, q2⟩], rfl⟩
  case rest =>
  obtain ⟨rfl, hwc⟩ := hcut
  obtain rfl : wb = wc := hwc.symm
  go_upto_if 28 with (fail)
  go_cut [] (fun wx => wx = wb ∧ Hid (R = RP.braced2 N ⟨s, pl, op, lv, opn⟩ a e))
  case first =>
    rcases (show b1 = true ∨ b1 = false by cases b1 <;> simp) with rfl | rfl
    case inr =>
      have hq := of_decide_eq_false HB1.out
      have HQ := Lib.hid (HU.out.trans (if_neg hq))
      clear hq
      go_wp2_with fail
      go_meet
      exact ⟨rfl, HQ.out⟩
    case inl =>
      have hq := of_decide_eq_true HB1.out
      have HV := Lib.hid (HU.out.trans (if_pos hq))
      obtain ⟨k31, k32⟩ := HK3.out (by omega)
      clear hq HU HP2
      by_cases h32 : 32 < k3 - (a + 3)
      case pos =>
        have q1 : ((32 : Int) < (k3 : Int) - ((a : Int) + 2) - 1) = True := eq_true (by omega)
        have hR := HV.out.trans (if_pos h32)
        have HFF := Lib.hid (HF.out ((a : Int) + 2 + 1) 3 (by decide))
        rw [← hR] at HFF
        clear hR HV HF h32 hN hG
        go_wp2_with (go_at_call 179; refine (HP3.out _).mono ?_; rintro x w' ⟨rfl, rfl⟩)
        (try rw [← FM.eq])
        refine (HFF.out _).mono ?_
        rintro e w2 ⟨A, n, cap, x, y, rfl, hb, hg⟩
        have HB2 := Lib.hid (btr (Below.refl _ _) hb)
        have HG2 := Lib.hid hg
        obtain ⟨c0, c1, c2, f0, f1, f2⟩ := FM.blk w2 HB2.out
        have hz := HB2.out.size
        have hz2 := FM.lt
        clear hb hg
        go_wp2
        exact bodyPost_ret (v := .agg #[.slice A n cap, .int .i64 x, .int .i64 y]) (by simp [results, Tryz.results173, go_sem, c0, c1, c2]) rfl (FM.fin HB2.out HG2.out)
      case neg =>
      have q1 : ((32 : Int) < (k3 : Int) - ((a : Int) + 2) - 1) = False := eq_false (by omega)
      replace HV := Lib.hid (HV.out.trans (if_neg h32))
      by_cases h1 : a + 3 < k3
      case neg =>
        have q2 : ((a : Int) + 2 + 1 < (k3 : Int)) = False := eq_false (by omega)
        have HQ := Lib.hid ((HV.out.trans (if_neg (fun e => h1 e.1))).trans (if_neg (fun e => h1 e.1)))
        clear HV HF h32 hN hG
        go_wp2_with (go_at_call 179; refine (HP3.out _).mono ?_; rintro x w' ⟨rfl, rfl⟩)
        go_meet
        exact ⟨rfl, HQ.out⟩
      case pos =>
      have q2 : ((a : Int) + 2 + 1 < (k3 : Int)) = True := eq_true (by omega)
      by_cases h2 : k3 = s.length
      case pos =>
        have q3 : ((k3 : Int) < (s.length : Int)) = False := eq_false (by omega)
        have q4 : ((k3 : Int) == (s.length : Int)) = true := by rw [beq_iff_eq]; omega
        have hR := (HV.out.trans (if_neg (fun e => by omega))).trans (if_pos ⟨h1, h2⟩)
        have HFF := Lib.hid (HF.out a 7 (by decide))
        rw [← hR] at HFF
        clear hR HV HF h32 hN hG h2
        go_wp2_with (go_at_call 179; refine (HP3.out _).mono ?_; rintro x w' ⟨rfl, rfl⟩)
        (try rw [← FM.eq])
        refine (HFF.out _).mono ?_
        rintro e w2 ⟨A, n, cap, x, y, rfl, hb, hg⟩
        have HB2 := Lib.hid (btr (Below.refl _ _) hb)
        have HG2 := Lib.hid hg
        obtain ⟨c0, c1, c2, f0, f1, f2⟩ := FM.blk w2 HB2.out
        have hz := HB2.out.size
        have hz2 := FM.lt
        clear hb hg
        go_wp2
        exact bodyPost_ret (v := .agg #[.slice A n cap, .int .i64 x, .int .i64 y]) (by simp [results, Tryz.results173, go_sem, c0, c1, c2]) rfl (FM.fin HB2.out HG2.out)
      case neg =>
      have q3 : ((k3 : Int) < (s.length : Int)) = True := eq_true (by omega)
      have q4 : ((k3 : Int) == (s.length : Int)) = false := by rw [beq_eq_false_iff_ne]; omega
      by_cases h3 : bt s k3 = 125
      case pos =>
        have q5 : (bt s k3 == 125) = true := by rw [beq_iff_eq]; exact h3
        have q6 : ((k3 : Int) ≤ (s.length : Int)) = True := eq_true (by omega)
        have q7 : ((a : Int) + 2 + 1 ≤ (k3 : Int)) = True := eq_true (by omega)
        have q8 : ((a : Int) + 2 + 1).toNat = a + 3 := by omega
        have hR := HV.out.trans (if_pos ⟨h1, by omega, h3⟩)
        have HL := Lib.hid (fun v h => rw_one 4 5 (cut s (a + 3) k3) false [] none 0 0 (k3 + 1) ((k3 : Int) + 1) rfl (by omega) v wb.heap.size h (.inl rfl))
        rw [← hR] at HL
        clear hR HV HF h32 hN hG h2 h3
        go_wp2_with (go_at_call 179; refine (HP3.out _).mono ?_; rintro x w' ⟨rfl, rfl⟩)
        (try rw [← FM.eq])
        refine (HL.out _ (Nat.le_refl _)).mono ?_
        rintro e w2 ⟨A, n, cap, x, y, rfl, hb, hg⟩
        have HB2 := Lib.hid (btr (Below.refl _ _) hb)
        have HG2 := Lib.hid hg
        obtain ⟨c0, c1, c2, f0, f1, f2⟩ := FM.blk w2 HB2.out
        have hz := HB2.out.size
        have hz2 := FM.lt
        clear hb hg
        go_wp2
        exact bodyPost_ret (v := .agg #[.slice A n cap, .int .i64 x, .int .i64 y]) (by simp [results, Tryz.results173, go_sem, c0, c1, c2]) rfl (FM.fin HB2.out HG2.out)
      case neg =>
        have q5 := beq_f h3
        have HQ := Lib.hid ((HV.out.trans (if_neg (fun e => h3 e.2.2))).trans (if_neg (fun e => h2 e.2)))
        clear HV HF h32 hN hG h2 h3
        go_wp2_with (go_at_call 179; refine (HP3.out _).mono ?_; rintro x w' ⟨rfl, rfl⟩)
        go_meet
        exact ⟨rfl, HQ.out⟩
  case rest =>
  obtain ⟨hwc, HR⟩ := hcut
  obtain rfl : wb = wc := hwc.symm
  clear HU HP3
  obtain ⟨he1, he2⟩ := hke
  have HV := Lib.hid (show R = if 32 < e - (a + 2) then none
    else if a + 2 = s.length ∨ e = s.length then none
    else if e = a + 2 then none
    else if bt s e = 125 then RP.leaf 4 (cut s (a + 2) e) (e + 1)
    else RP.braced3 N ⟨s, pl, op, lv, opn⟩ a e (RP.oper s e) from HR.out)
  clear HR HB1 HK3
  by_cases h32 : 32 < e - (a + 2)
  case pos =>
    have q1 : ((32 : Int) < (e : Int) - ((a : Int) + 2)) = True := eq_true (by omega)
    have hR := HV.out.trans (if_pos h32)
    have HFF := Lib.hid (HF.out ((a : Int) + 2) 3 (by decide))
    rw [← hR] at HFF
    clear hR HV HF h32 hN hG
    go_wp2_with (go_at_call 179; refine (HP2.out _).mono ?_; rintro x w' ⟨rfl, rfl⟩)
    (try rw [← FM.eq])
    refine (HFF.out _).mono ?_
    rintro e w2 ⟨A, n, cap, x, y, rfl, hb, hg⟩
    have HB2 := Lib.hid (btr (Below.refl _ _) hb)
    have HG2 := Lib.hid hg
    obtain ⟨c0, c1, c2, f0, f1, f2⟩ := FM.blk w2 HB2.out
    have hz := HB2.out.size
    have hz2 := FM.lt
    clear hb hg
    go_wp2
    exact bodyPost_ret (v := .agg #[.slice A n cap, .int .i64 x, .int .i64 y]) (by simp [results, Tryz.results173, go_sem, c0, c1, c2]) rfl (FM.fin HB2.out HG2.out)
  case neg =>
  have q1 : ((32 : Int) < (e : Int) - ((a : Int) + 2)) = False := eq_false (by omega)
  replace HV := Lib.hid (HV.out.trans (if_neg h32))
  by_cases h1 : e = s.length
  case pos =>
    have q3 : ((e : Int) == (s.length : Int)) = true := by rw [beq_iff_eq]; omega
    have hR := HV.out.trans (if_pos (.inr h1))
    have HFF := Lib.hid (HF.out a 7 (by decide))
    rw [← hR] at HFF
    by_cases h2 : a + 2 = s.length
    case pos =>
      have q2 : ((a : Int) + 2 == (s.length : Int)) = true := by rw [beq_iff_eq]; omega
      clear hR HV HF h32 hN hG h1 h2
      go_wp2_with (go_at_call 179; refine (HP2.out _).mono ?_; rintro x w' ⟨rfl, rfl⟩)
      (try rw [← FM.eq])
      refine (HFF.out _).mono ?_
      rintro e w2 ⟨A, n, cap, x, y, rfl, hb, hg⟩
      have HB2 := Lib.hid (btr (Below.refl _ _) hb)
      have HG2 := Lib.hid hg
      obtain ⟨c0, c1, c2, f0, f1, f2⟩ := FM.blk w2 HB2.out
      have hz := HB2.out.size
      have hz2 := FM.lt
      clear hb hg
      go_wp2
      exact bodyPost_ret (v := .agg #[.slice A n cap, .int .i64 x, .int .i64 y]) (by simp [results, Tryz.results173, go_sem, c0, c1, c2]) rfl (FM.fin HB2.out HG2.out)
    case neg =>
      have q2 : ((a : Int) + 2 == (s.length : Int)) = false := by rw [beq_eq_false_iff_ne]; omega
      clear hR HV HF h32 hN hG h1 h2
      go_wp2_with (go_at_call 179; refine (HP2.out _).mono ?_; rintro x w' ⟨rfl, rfl⟩)
      (try rw [← FM.eq])
      refine (HFF.out _).mono ?_
      rintro e w2 ⟨A, n, cap, x, y, rfl, hb, hg⟩
      have HB2 := Lib.hid (btr (Below.refl _ _) hb)
      have HG2 := Lib.hid hg
      obtain ⟨c0, c1, c2, f0, f1, f2⟩ := FM.blk w2 HB2.out
      have hz := HB2.out.size
      have hz2 := FM.lt
      clear hb hg
      go_wp2
      exact bodyPost_ret (v := .agg #[.slice A n cap, .int .i64 x, .int .i64 y]) (by simp [results, Tryz.results173, go_sem, c0, c1, c2]) rfl (FM.fin HB2.out HG2.out)
  case neg =>
  have q2 : ((a : Int) + 2 == (s.length : Int)) = false := by rw [beq_eq_false_iff_ne]; omega
  have q3 : ((e : Int) == (s.length : Int)) = false := by rw [beq_eq_false_iff_ne]; omega
  replace HV := Lib.hid (HV.out.trans (if_neg (fun x => x.elim (by omega) h1)))
  by_cases h2 : e = a + 2
  case pos =>
    have q4 : ((e : Int) == (a : Int) + 2) = true := by rw [beq_iff_eq]; omega
    have hR := HV.out.trans (if_pos h2)
    have HFF := Lib.hid (HF.out ((a : Int) + 2) 6 (by decide))
    rw [← hR] at HFF
    clear hR HV HF h32 hN hG h1 h2
    go_wp2_with (go_at_call 179; refine (HP2.out _).mono ?_; rintro x w' ⟨rfl, rfl⟩)
    (try rw [← FM.eq])
    refine (HFF.out _).mono ?_
    rintro e w2 ⟨A, n, cap, x, y, rfl, hb, hg⟩
    have HB2 := Lib.hid (btr (Below.refl _ _) hb)
    have HG2 := Lib.hid hg
    obtain ⟨c0, c1, c2, f0, f1, f2⟩ := FM.blk w2 HB2.out
    have hz := HB2.out.size
    have hz2 := FM.lt
    clear hb hg
    go_wp2
    exact bodyPost_ret (v := .agg #[.slice A n cap, .int .i64 x, .int .i64 y]) (by simp [results, Tryz.results173, go_sem, c0, c1, c2]) rfl (FM.fin HB2.out HG2.out)
  case neg =>
  have q4 : ((e : Int) == (a : Int) + 2) = false := by rw [beq_eq_false_iff_ne]; omega
  have q5 : ((a : Int) + 2 ≤ (e : Int)) = True := eq_true (by omega)
  have q6 : ((e : Int) ≤ (s.length : Int)) = True := eq_true (by omega)
  have q7 : ((e : Int) < (s.length : Int)) = True := eq_true (by omega)
  have q8 : ((a : Int) + 2).toNat = a + 2 := by omega
  have q9 : ((a : Int) + 2 < (s.length : Int)) = True := eq_true (by omega)
  replace HV := Lib.hid (HV.out.trans (if_neg h2))
  obtain ⟨wp, hwp⟩ : ∃ wp, wp = wb.alloc (.cells #[.int .i64 4, .string ⟨(cut s (a + 2) e).toArray⟩, .int .i64 0, .bool false, .slice none 0 0] 126) := ⟨_, rfl⟩
  have HWP := Lib.hid hwp
  have HBP := Lib.hid (show Below wb.heap.size wb wp by rw [hwp]; exact balloc _ _)
  have HPB := Lib.hid (show wp.heap[wb.heap.size]? = some (.cells #[.int .i64 4, .string ⟨(cut s (a + 2) e).toArray⟩, .int .i64 0, .bool false, .slice none 0 0] 126 (0, 0)) by rw [hwp]; exact al_new wb _)
  have w1 : wb.heap.size < wp.heap.size := (Array.getElem?_eq_some_iff.1 HPB.out).1
  have w2 : w.heap.size < wp.heap.size := by omega
  clear hwp
  go_upto_region 18 with (go_at_call 179; refine (HP2.out _).mono ?_; rintro x w' ⟨rfl, rfl⟩)
  rw [← HWP.out]
  clear HP2 c0 c1 c2 f0 f1 f2 q1 q2 q3 q4
  obtain ⟨c0, c1, c2, f0, f1, f2⟩ := FM.blk wp HBP.out
  obtain ⟨p0, p1, p2, p3, p4, g2, g3, g4⟩ := blk5R HPB.out
  by_cases h125 : bt s e = 125
  case pos =>
    have e125 : (bt s e == 125) = true := by rw [beq_iff_eq]; exact h125
    have hR := HV.out.trans (if_pos h125)
    have HL := Lib.hid (fun v h => rw_leaf 4 4 ((e : Int) + 1) (cut s (a + 2) e) (e + 1) rfl (by omega) v wb.heap.size h)
    rw [← hR] at HL
    clear hR HV HF h32 hN hG h1 h2 h125
    go_wp2_with fail
    (try rw [← FM.eq])
    refine (HL.out _ HBP.out.size).mono ?_
    rintro e w2 ⟨A, n, cap, x, y, rfl, hb, hg⟩
    have HB2 := Lib.hid (btr HBP.out hb)
    have HG2 := Lib.hid hg
    obtain ⟨c0, c1, c2, f0, f1, f2⟩ := FM.blk w2 HB2.out
    have hz := HB2.out.size
    have hz2 := FM.lt
    clear hb hg
    go_wp2
    exact bodyPost_ret (v := .agg #[.slice A n cap, .int .i64 x, .int .i64 y]) (by simp [results, Tryz.results173, go_sem, c0, c1, c2]) rfl (FM.fin HB2.out HG2.out)
  case neg =>
  have e125 := beq_f h125
  replace HV := Lib.hid (HV.out.trans (if_neg h125))
  obtain ⟨o, co, z, ho⟩ : ∃ o co z, RP.oper s e = (o, co, z) := ⟨_, _, _, rfl⟩
  have HO := Lib.hid (fun v => show Calls Tryz.prog 180 #[.string ⟨s.toArray⟩, .int .i64 e] v (fun x w' => x = .returned (.tuple #[.int .i64 o, .bool co, .int .i64 z]) ∧ v = w') from by
    have := rw_operator s e v (by omega) (by omega)
    rw [ho] at this
    exact this)
  have hle := RP.oper_le s (a := e) (by omega)
  rw [ho] at HV hle
  dsimp only at hle
  replace HV := Lib.hid (show R = if o = 0 then none
    else if 32 ≤ lv then none
    else if LX.joins s (e + z) = true then none
    else match N ⟨s, pl, true, lv + 1, a⟩ (e + z) with
      | none => none
      | some (ps, j) => some ([.mk 4 (cut s (a + 2) e) o co ps], j + 1) from HV.out)
  clear ho
  by_cases ho : o = 0
  case pos =>
    have hR := HV.out.trans (if_pos ho)
    have o0 : ((o : Int) == 0) = true := by rw [beq_iff_eq]; omega
    clear ho
    have HPQ := Lib.hid (fun v => show Calls Tryz.prog 179 #[.string ⟨s.toArray⟩, .int .i64 ((a : Int) + 2 + 1)] v (fun x w' => x = .returned (.int .i64 (RP.param s (a + 3))) ∧ v = w') from rw_param s (a + 3) v (by omega) (by omega))
    by_cases h58 : bt s e = 58
    case pos =>
      have e58 : (bt s e == 58) = true := by rw [beq_iff_eq]; exact h58
      by_cases h3 : e + 1 = s.length
      case pos =>
        have r3 : ((e : Int) + 1 == (s.length : Int)) = true := by rw [beq_iff_eq]; omega
        have HFF := Lib.hid (HF.out a 7 (by decide))
        rw [← hR] at HFF
        clear hR HV HF h32 hN hG h1 h2 h125 h58 h3
        go_wp2_with (go_at_call 180; refine (HO.out _).mono ?_; rintro x w' ⟨rfl, rfl⟩)
        (try rw [← FM.eq])
        refine (HFF.out _).mono ?_
        rintro e w2 ⟨A, n, cap, x, y, rfl, hb, hg⟩
        have HB2 := Lib.hid (btr HBP.out hb)
        have HG2 := Lib.hid hg
        obtain ⟨c0, c1, c2, f0, f1, f2⟩ := FM.blk w2 HB2.out
        have hz := HB2.out.size
        have hz2 := FM.lt
        clear hb hg
        go_wp2
        exact bodyPost_ret (v := .agg #[.slice A n cap, .int .i64 x, .int .i64 y]) (by simp [results, Tryz.results173, go_sem, c0, c1, c2]) rfl (FM.fin HB2.out HG2.out)
      case neg =>
        have r3 : ((e : Int) + 1 == (s.length : Int)) = false := by rw [beq_eq_false_iff_ne]; omega
        have HFF := Lib.hid (HF.out ((e : Int) + 1) 6 (by decide))
        rw [← hR] at HFF
        clear hR HV HF h32 hN hG h1 h2 h125 h58 h3
        go_wp2_with (go_at_call 180; refine (HO.out _).mono ?_; rintro x w' ⟨rfl, rfl⟩)
        (try rw [← FM.eq])
        refine (HFF.out _).mono ?_
        rintro e w2 ⟨A, n, cap, x, y, rfl, hb, hg⟩
        have HB2 := Lib.hid (btr HBP.out hb)
        have HG2 := Lib.hid hg
        obtain ⟨c0, c1, c2, f0, f1, f2⟩ := FM.blk w2 HB2.out
        have hz := HB2.out.size
        have hz2 := FM.lt
        clear hb hg
        go_wp2
        exact bodyPost_ret (v := .agg #[.slice A n cap, .int .i64 x, .int .i64 y]) (by simp [results, Tryz.results173, go_sem, c0, c1, c2]) rfl (FM.fin HB2.out HG2.out)
    case neg =>
      have e58 := beq_f h58
      by_cases h35 : bt s (a + 2) = 35
      case pos =>
        have e35 : (bt s (a + 2) == 35) = true := by rw [beq_iff_eq]; exact h35
        have HFF := Lib.hid (HF.out (RP.param s (a + 3)) 6 (by decide))
        rw [← hR] at HFF
        clear hR HV HF h32 hN hG h1 h2 h125 h58 h35
        generalize RP.param s (a + 3) = pq at HPQ HFF
        go_wp2_with (first | (go_at_call 180; refine (HO.out _).mono ?_; rintro x w' ⟨rfl, rfl⟩) | (go_at_call 179; refine (HPQ.out _).mono ?_; rintro x w' ⟨rfl, rfl⟩))
        (try rw [← FM.eq])
        refine (HFF.out _).mono ?_
        rintro e w2 ⟨A, n, cap, x, y, rfl, hb, hg⟩
        have HB2 := Lib.hid (btr HBP.out hb)
        have HG2 := Lib.hid hg
        obtain ⟨c0, c1, c2, f0, f1, f2⟩ := FM.blk w2 HB2.out
        have hz := HB2.out.size
        have hz2 := FM.lt
        clear hb hg
        go_wp2
        exact bodyPost_ret (v := .agg #[.slice A n cap, .int .i64 x, .int .i64 y]) (by simp [results, Tryz.results173, go_sem, c0, c1, c2]) rfl (FM.fin HB2.out HG2.out)
      case neg =>
        have e35 := beq_f h35
        have HFF := Lib.hid (HF.out e 6 (by decide))
        rw [← hR] at HFF
        clear hR HV HF h32 hN hG h1 h2 h125 h58 h35 HPQ
        go_wp2_with (go_at_call 180; refine (HO.out _).mono ?_; rintro x w' ⟨rfl, rfl⟩)
        (try rw [← FM.eq])
        refine (HFF.out _).mono ?_
        rintro e w2 ⟨A, n, cap, x, y, rfl, hb, hg⟩
        have HB2 := Lib.hid (btr HBP.out hb)
        have HG2 := Lib.hid hg
        obtain ⟨c0, c1, c2, f0, f1, f2⟩ := FM.blk w2 HB2.out
        have hz := HB2.out.size
        have hz2 := FM.lt
        clear hb hg
        go_wp2
        exact bodyPost_ret (v := .agg #[.slice A n cap, .int .i64 x, .int .i64 y]) (by simp [results, Tryz.results173, go_sem, c0, c1, c2]) rfl (FM.fin HB2.out HG2.out)
  case neg =>
  have o0 : ((o : Int) == 0) = false := by rw [beq_eq_false_iff_ne]; omega
  replace HV := Lib.hid (HV.out.trans (if_neg ho))
  obtain ⟨hz1, hz2, hz3⟩ := hle ho
  clear hle ho
  by_cases hl32 : 32 ≤ lv
  case pos =>
    have r3 : ((32 : Int) ≤ (lv : Int)) = True := eq_true (by omega)
    have hR := HV.out.trans (if_pos hl32)
    have HFF := Lib.hid (HF.out e 5 (by decide))
    rw [← hR] at HFF
    clear hR HV HF h32 hN hG h1 h2 h125 hl32
    go_wp2_with (go_at_call 180; refine (HO.out _).mono ?_; rintro x w' ⟨rfl, rfl⟩)
    (try rw [← FM.eq])
    refine (HFF.out _).mono ?_
    rintro e w2 ⟨A, n, cap, x, y, rfl, hb, hg⟩
    have HB2 := Lib.hid (btr HBP.out hb)
    have HG2 := Lib.hid hg
    obtain ⟨c0, c1, c2, f0, f1, f2⟩ := FM.blk w2 HB2.out
    have hz := HB2.out.size
    have hz2 := FM.lt
    clear hb hg
    go_wp2
    exact bodyPost_ret (v := .agg #[.slice A n cap, .int .i64 x, .int .i64 y]) (by simp [results, Tryz.results173, go_sem, c0, c1, c2]) rfl (FM.fin HB2.out HG2.out)
  case neg =>
  have r3 : ((32 : Int) ≤ (lv : Int)) = False := eq_false (by omega)
  replace HV := Lib.hid (HV.out.trans (if_neg hl32))
  have HJ := Lib.hid (fun v => show Calls Tryz.prog 148 #[.string ⟨s.toArray⟩, .int .i64 ((e : Int) + (z : Int))] v (fun x w' => x = .returned (.bool (LX.joins s (e + z))) ∧ v = w') from rw_joined s (e + z) v (by omega) (by omega))
  cases hj : LX.joins s (e + z) with
  | true =>
    have hR := HV.out.trans (if_pos hj)
    have HFF := Lib.hid (HF.out ((e : Int) + (z : Int)) 6 (by decide))
    rw [← hR] at HFF
    rw [hj] at HJ
    clear hR HV HF h32 hN hG h1 h2 h125 hl32 hj
    go_wp2_with (first | (go_at_call 180; refine (HO.out _).mono ?_; rintro x w' ⟨rfl, rfl⟩) | (go_at_call 148; refine (HJ.out _).mono ?_; rintro x w' ⟨rfl, rfl⟩))
    (try rw [← FM.eq])
    refine (HFF.out _).mono ?_
    rintro e w2 ⟨A, n, cap, x, y, rfl, hb, hg⟩
    have HB2 := Lib.hid (btr HBP.out hb)
    have HG2 := Lib.hid hg
    obtain ⟨c0, c1, c2, f0, f1, f2⟩ := FM.blk w2 HB2.out
    have hz := HB2.out.size
    have hz2 := FM.lt
    clear hb hg
    go_wp2
    exact bodyPost_ret (v := .agg #[.slice A n cap, .int .i64 x, .int .i64 y]) (by simp [results, Tryz.results173, go_sem, c0, c1, c2]) rfl (FM.fin HB2.out HG2.out)
  | false =>
  replace HV := Lib.hid (HV.out.trans (if_neg (by rw [hj]; simp)))
  rw [hj] at HJ
  have HWI := Lib.hid (fun v => rw_within p pl op hp v)
  have HNC := Lib.hid (fun v => show Calls Tryz.prog 110 #[.string ⟨s.toArray⟩, .int .i64 ((e : Int) + (z : Int)), .int .i64 (RP.inner pl), .int .i64 ((lv : Int) + 1), .int .i64 a] v (ROut v.heap.size v (N ⟨s, pl, true, lv + 1, a⟩ (e + z))) from hN ⟨s, pl, true, lv + 1, a⟩ (e + z) (RP.inner pl) ((lv : Int) + 1) a v rfl (RP.inner_pl hp) (by omega) hz1 (by show lv + 1 ≤ 33; omega) (fun e => Bool.noConfusion e.2) (by show _ = ((lv + 1 : Nat) : Int); omega) rfl)
  cases hn : N ⟨s, pl, true, lv + 1, a⟩ (e + z) with
  | none =>
    have hR := HV.out
    rw [hn] at HNC hR
    replace hR : none = R := hR.symm
    clear HV HF h32 hN hG h1 h2 h125 hl32 hj hn
    subst hR
    go_upto_region 33 with (first | (go_at_call 180; refine (HO.out _).mono ?_; rintro x w' ⟨rfl, rfl⟩) | (go_at_call 148; refine (HJ.out _).mono ?_; rintro x w' ⟨rfl, rfl⟩))
    go_wp2_with (go_at_call 181; refine (HWI.out _).mono ?_; rintro x w' ⟨rfl, rfl⟩)
    (try rw [← FM.eq])
    refine (HNC.out _).mono ?_
    rintro e w1 ⟨A, n, cap, x, y, rfl, hb, hg⟩
    have HB1 := Lib.hid (btr HBP.out hb)
    have HG1 := Lib.hid (show y ≠ 0 from hg)
    have hy : (y != 0) = true := by simp [bne, HG1.out]
    obtain ⟨c0, c1, c2, f0, f1, f2⟩ := FM.blk w1 HB1.out
    obtain ⟨d0, d1, d2, g0, g1, g2⟩ := FM.blk (w1.alloc (.cells #[.slice A n cap, .int .i64 x, .int .i64 y] 143)) (btr HB1.out (balloc _ _))
    have hz := HB1.out.size
    have hz2 := FM.lt
    clear hb hg
    go_wp2
    exact bodyPost_ret (v := .agg #[.slice A n cap, .int .i64 x, .int .i64 y]) (by simp [results, Tryz.results173, go_sem, d0, d1, d2]) rfl (FM.fin (btr HB1.out (balloc _ _)) HG1.out)
  | some r =>
    obtain ⟨ps, j⟩ := r
    have hjl := (hG ⟨s, pl, true, lv + 1, a⟩ (e + z) ps j rfl (fun e => Bool.noConfusion e.2) hz1 hn).2.1
    have hR := HV.out
    rw [hn] at HNC hR
    replace hR : R = some ([.mk 4 (cut s (a + 2) e) o co ps], j + 1) := hR
    subst hR
    clear HV HF h32 hN hG h1 h2 h125 hl32 hj hn
    go_upto_region 33 with (first | (go_at_call 180; refine (HO.out _).mono ?_; rintro x w' ⟨rfl, rfl⟩) | (go_at_call 148; refine (HJ.out _).mono ?_; rintro x w' ⟨rfl, rfl⟩))
    go_wp2_with (go_at_call 181; refine (HWI.out _).mono ?_; rintro x w' ⟨rfl, rfl⟩)
    refine (HNC.out _).mono ?_
    rintro e1 w3 ⟨A, n, cap, x, y, rfl, hb, rfl, rfl, hn, hv⟩
    have HB3 := Lib.hid (btr HBP.out hb)
    have w5 := hb.size
    obtain ⟨wx, hwx⟩ : ∃ wx, wx = w3.alloc (.cells #[.slice A n cap, .int .i64 j, .int .i64 0] 143) := ⟨_, rfl⟩
    have HWX := Lib.hid hwx
    have HBX := Lib.hid (show Below wb.heap.size wb wx by rw [hwx]; exact btr HB3.out (balloc _ _))
    have HXB := Lib.hid (show wx.heap[w3.heap.size]? = some (.cells #[.slice A n cap, .int .i64 j, .int .i64 0] 143 (0, 0)) by rw [hwx]; exact al_new w3 _)
    have hbx : Below wp.heap.size wp wx := by rw [hwx]; exact btr hb (balloc _ _)
    have HPX := Lib.hid ((hbx.block _ w1).trans HPB.out)
    have HRV := Lib.hid (show RVal wx wp.heap.size ps A from hv.mono (Nat.le_refl _) (fun b _ hb2 => by rw [hwx]; exact (balloc w3 _).block b hb2))
    have HNN := Lib.hid hn
    have w3s : w3.heap.size < wx.heap.size := (Array.getElem?_eq_some_iff.1 HXB.out).1
    have w6 : wb.heap.size < wx.heap.size := by omega
    have w7 : w.heap.size < wx.heap.size := by omega
    clear hb hv hn hwx hbx c0 c1 c2 f0 f1 f2 p0 p1 p2 p3 p4 g2 g3 g4
    obtain ⟨x0, x1, x2, -, -, -⟩ := blk3 HXB.out
    obtain ⟨p0, p1, p2, p3, p4, g2, g3, g4⟩ := blk5R HPX.out
    have ne1 : ¬ wb.heap.size = w3.heap.size := by omega
    have ne2 : ¬ w3.heap.size = wb.heap.size := by omega
    go_upto_region 36 with (fail)
    rw [← HWX.out]
    go_cut [] (fun wy => Hid (Put3 wx wy wb.heap.size #[.int .i64 4, .string ⟨(cut s (a + 2) e).toArray⟩, .int .i64 o, .bool co, .slice A n cap]))
    case first =>
      go_region
      all_goals (repeat go_step)
      all_goals go_meet
      all_goals exact (put3 HPX.out 2 3 4 _ _ _ rfl).drew
    case rest =>
    have HPY := Lib.hid hcut.out
    have w8 := (HPY.out.bel wb.heap.size (Nat.le_refl _)).size
    have HBY := Lib.hid (HBX.out.trans (HPY.out.bel wb.heap.size (Nat.le_refl _)))
    obtain ⟨p0, p1, p2, p3, p4, g2, g3, g4⟩ := blk5R HPY.out.blk
    obtain ⟨x0, x1, x2, -, -, -⟩ := blk3 ((HPY.out.far w3.heap.size (by omega)).trans HXB.out)
    have HO1 := Lib.hid (fun v (h : Below wc.heap.size wc v) => rw_one 4 o (cut s (a + 2) e) co ps A n cap (j + 1) ((j : Int) + 1) HNN.out (by omega) v wb.heap.size (Nat.le_trans (by omega) h.size) (HRV.out.mono (by omega) (fun b hb1 hb2 => (h.block b (by omega)).trans (HPY.out.far b (by omega)))))
    go_wp2_with fail
    (try rw [← FM.eq])
    refine (HO1.out _ (Below.refl _ _)).mono ?_
    rintro e w2 ⟨A, n, cap, x, y, rfl, hb, hg⟩
    have HB2 := Lib.hid (btr HBY.out hb)
    have HG2 := Lib.hid hg
    obtain ⟨c0, c1, c2, f0, f1, f2⟩ := FM.blk w2 HB2.out
    have hz := HB2.out.size
    have hz2 := FM.lt
    clear hb hg
    go_wp2
    exact bodyPost_ret (v := .agg #[.slice A n cap, .int .i64 x, .int .i64 y]) (by simp [results, Tryz.results173, go_sem, c0, c1, c2]) rfl (FM.fin HB2.out HG2.out)
end W
end Go.Proofs.YtcbdhheelddgeaaGreatDoor
