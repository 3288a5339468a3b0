/- Several texts in one: R08j R08k. -/
import Derived.Test.YtcbdhheelddgeaaGreatDoorYC
import Derived.Maps.AppendAt
namespace Go.Proofs.YtcbdhheelddgeaaGreatDoor
open Go.RowKit K
namespace W
set_option maxRecDepth 100000
set_option maxHeartbeats 4000000 in
theorem rw_part (N : RP.NestR) (c : WP.Ctx) (a : Nat) (p : Int) (hp : RP.PlC p c.pl c.op) (w : World) (hl : c.s.length ≤ 40000) (ha : a < c.s.length) (hlv : c.lv ≤ 33) (hN : NC c.s a N) (hG : RP.GoodN c.s N)
    (hD : ∀ v, bt c.s a = 36 → Calls Tryz.prog 151 #[.string ⟨c.s.toArray⟩, .int .i64 a, .int .i64 p, .int .i64 c.lv] v (ROut v.heap.size v (RP.dollar N c a))) :
    Calls Tryz.prog 131 #[.string ⟨c.s.toArray⟩, .int .i64 a, .int .i64 p, .int .i64 c.lv] w (ROut w.heap.size w (RP.part N c a)) := by
  obtain ⟨wb, FM⟩ := fm_of w
  have HQQ := Lib.hid (fun (h : bt c.s a = 39 ∨ bt c.s a = 34) => rw_quoted N c a wb hl ha hlv hN hG h)
  have HDD := Lib.hid (fun (h : bt c.s a = 36) => hD wb h)
  have HBS := Lib.hid (rw_backslash c a p hp wb (by omega) ha)
  have HBQ := Lib.hid (rw_backquoted c.s a wb hl ha)
  obtain ⟨s, pl, op, lv, opn⟩ := c
  dsimp only at *
  have HFF := Lib.hid (rw_fail a 6 (by decide) wb wb.heap.size)
  have HL := Lib.hid (rw_leaf 1 1 ((a : Int) + 1) (cut s a (a + 1)) (a + 1) rfl (by omega) wb wb.heap.size (Nat.le_refl _))
  have HO := Lib.hid (fun v => rw_outside p pl op hp v)
  have HBL := Lib.hid (fun v => rx_blank (bt s a) v)
  have HOB := Lib.hid (fun v => rx_op (bt s a) v)
  have HU := Lib.hid (show RP.part N ⟨s, pl, op, lv, opn⟩ a = if bt s a = 92 then RP.backslash ⟨s, pl, op, lv, opn⟩ a
    else if bt s a = 96 then RP.backquoted s a
    else if bt s a = 36 then RP.dollar N ⟨s, pl, op, lv, opn⟩ a
    else if pl = 0 ∧ (bt s a = 39 ∨ bt s a = 34) then RP.quoted N ⟨s, pl, op, lv, opn⟩ a
    else if pl = 0 ∧ op = false ∧ LX.divides (bt s a) = true then none
    else if pl = 1 ∧ op = true ∧ bt s a = 34 then none
    else RP.leaf 1 (cut s a (a + 1)) (a + 1) from rfl)
  have HP0 := Lib.hid (show (p == 0) = decide (pl = 0 ∧ op = false) by rcases hp with ⟨rfl, rfl, rfl⟩ | ⟨rfl, rfl, rfl⟩ | ⟨rfl, rfl, rfl⟩ | ⟨rfl, rfl, rfl⟩ | ⟨rfl, rfl, rfl⟩ | ⟨rfl, rfl, rfl⟩ <;> rfl)
  have HP3 := Lib.hid (show (p == 3) = decide (pl = 1 ∧ op = true) by rcases hp with ⟨rfl, rfl, rfl⟩ | ⟨rfl, rfl, rfl⟩ | ⟨rfl, rfl, rfl⟩ | ⟨rfl, rfl, rfl⟩ | ⟨rfl, rfl, rfl⟩ | ⟨rfl, rfl, rfl⟩ <;> rfl)
  have hdv := LX.div_bt s a
  have h0 : ((a : Int) < (s.length : Int)) = True := eq_true (by omega)
  have q2 : ((a : Int) + 1 ≤ (s.length : Int)) = True := eq_true (by omega)
  have q3 : ((a : Int) ≤ (a : Int) + 1) = True := eq_true (by omega)
  clear hp hN hG hD
  by_cases h92 : bt s a = 92
  · have hU := HU.out.trans (if_pos h92)
    have e92 : (bt s a == 92) = true := by rw [beq_iff_eq]; exact h92
    rw [hU]
    clear h92
    clear HBQ HDD HQQ HL HFF HU hU
    go_enter Tryz.func131, Tryz.ntmps131
    go_wp2_with (first | (go_at_call 147; refine (HO.out _).mono ?_; rintro e w' ⟨rfl, rfl⟩) | (go_at_call 43; refine (HBL.out _).mono ?_; rintro e w' ⟨rfl, rfl⟩) | (go_at_call 107; refine (HOB.out _).mono ?_; rintro e w' ⟨rfl, rfl⟩))
    (try rw [← FM.eq])
    refine (HBS.out).mono ?_
    rintro e w2 ⟨A, n, cap, x, y, rfl, hb, hg⟩
    have HB2 := Lib.hid (btr (Below.refl _ _) hb)
    have HG2 := Lib.hid hg
    obtain ⟨c0, c1, c2, f0, f1, f2⟩ := FM.blk w2 HB2.out
    have hz := HB2.out.size
    have hz2 := FM.lt
    clear hb hg
    go_wp2
    exact bodyPost_ret (v := .agg #[.slice A n cap, .int .i64 x, .int .i64 y]) (by simp [results, Tryz.results131, go_sem, c0, c1, c2]) rfl (FM.fin HB2.out HG2.out)
  have e92 := beq_f h92
  replace HU := Lib.hid (HU.out.trans (if_neg h92))
  by_cases h96 : bt s a = 96
  · have hU := HU.out.trans (if_pos h96)
    have e96 : (bt s a == 96) = true := by rw [beq_iff_eq]; exact h96
    rw [hU]
    clear h96
    clear HBS HDD HQQ HL HFF HU hU
    go_enter Tryz.func131, Tryz.ntmps131
    go_wp2_with (first | (go_at_call 147; refine (HO.out _).mono ?_; rintro e w' ⟨rfl, rfl⟩) | (go_at_call 43; refine (HBL.out _).mono ?_; rintro e w' ⟨rfl, rfl⟩) | (go_at_call 107; refine (HOB.out _).mono ?_; rintro e w' ⟨rfl, rfl⟩))
    (try rw [← FM.eq])
    refine (HBQ.out).mono ?_
    rintro e w2 ⟨A, n, cap, x, y, rfl, hb, hg⟩
    have HB2 := Lib.hid (btr (Below.refl _ _) hb)
    have HG2 := Lib.hid hg
    obtain ⟨c0, c1, c2, f0, f1, f2⟩ := FM.blk w2 HB2.out
    have hz := HB2.out.size
    have hz2 := FM.lt
    clear hb hg
    go_wp2
    exact bodyPost_ret (v := .agg #[.slice A n cap, .int .i64 x, .int .i64 y]) (by simp [results, Tryz.results131, go_sem, c0, c1, c2]) rfl (FM.fin HB2.out HG2.out)
  have e96 := beq_f h96
  replace HU := Lib.hid (HU.out.trans (if_neg h96))
  by_cases h36 : bt s a = 36
  · have hU := HU.out.trans (if_pos h36)
    have e36 : (bt s a == 36) = true := by rw [beq_iff_eq]; exact h36
    replace HDD := Lib.hid (HDD.out h36)
    rw [hU]
    clear h36
    clear HBS HBQ HQQ HL HFF HU hU
    go_enter Tryz.func131, Tryz.ntmps131
    go_wp2_with (first | (go_at_call 147; refine (HO.out _).mono ?_; rintro e w' ⟨rfl, rfl⟩) | (go_at_call 43; refine (HBL.out _).mono ?_; rintro e w' ⟨rfl, rfl⟩) | (go_at_call 107; refine (HOB.out _).mono ?_; rintro e w' ⟨rfl, rfl⟩))
    (try rw [← FM.eq])
    refine (HDD.out).mono ?_
    rintro e w2 ⟨A, n, cap, x, y, rfl, hb, hg⟩
    have HB2 := Lib.hid (btr (Below.refl _ _) hb)
    have HG2 := Lib.hid hg
    obtain ⟨c0, c1, c2, f0, f1, f2⟩ := FM.blk w2 HB2.out
    have hz := HB2.out.size
    have hz2 := FM.lt
    clear hb hg
    go_wp2
    exact bodyPost_ret (v := .agg #[.slice A n cap, .int .i64 x, .int .i64 y]) (by simp [results, Tryz.results131, go_sem, c0, c1, c2]) rfl (FM.fin HB2.out HG2.out)
  have e36 := beq_f h36
  replace HU := Lib.hid (HU.out.trans (if_neg h36))
  by_cases hp0 : pl = 0
  · rw [decide_eq_true hp0] at HO
    by_cases hq : bt s a = 39 ∨ bt s a = 34
    · have hU := HU.out.trans (if_pos ⟨hp0, hq⟩)
      replace HQQ := Lib.hid (HQQ.out hq)
      rw [hU]
      by_cases h39 : bt s a = 39
      · have e39 : (bt s a == 39) = true := by rw [beq_iff_eq]; exact h39
        clear h39 hq
        clear HBS HBQ HDD HL HFF HU hU
        go_enter Tryz.func131, Tryz.ntmps131
        go_wp2_with (first | (go_at_call 147; refine (HO.out _).mono ?_; rintro e w' ⟨rfl, rfl⟩) | (go_at_call 43; refine (HBL.out _).mono ?_; rintro e w' ⟨rfl, rfl⟩) | (go_at_call 107; refine (HOB.out _).mono ?_; rintro e w' ⟨rfl, rfl⟩))
        (try rw [← FM.eq])
        refine (HQQ.out).mono ?_
        rintro e w2 ⟨A, n, cap, x, y, rfl, hb, hg⟩
        have HB2 := Lib.hid (btr (Below.refl _ _) hb)
        have HG2 := Lib.hid hg
        obtain ⟨c0, c1, c2, f0, f1, f2⟩ := FM.blk w2 HB2.out
        have hz := HB2.out.size
        have hz2 := FM.lt
        clear hb hg
        go_wp2
        exact bodyPost_ret (v := .agg #[.slice A n cap, .int .i64 x, .int .i64 y]) (by simp [results, Tryz.results131, go_sem, c0, c1, c2]) rfl (FM.fin HB2.out HG2.out)
      · have e39 := beq_f h39
        have e34 : (bt s a == 34) = true := by rw [beq_iff_eq]; exact hq.resolve_left h39
        clear h39 hq
        clear HBS HBQ HDD HL HFF HU hU
        go_enter Tryz.func131, Tryz.ntmps131
        go_wp2_with (first | (go_at_call 147; refine (HO.out _).mono ?_; rintro e w' ⟨rfl, rfl⟩) | (go_at_call 43; refine (HBL.out _).mono ?_; rintro e w' ⟨rfl, rfl⟩) | (go_at_call 107; refine (HOB.out _).mono ?_; rintro e w' ⟨rfl, rfl⟩))
        (try rw [← FM.eq])
        refine (HQQ.out).mono ?_
        rintro e w2 ⟨A, n, cap, x, y, rfl, hb, hg⟩
        have HB2 := Lib.hid (btr (Below.refl _ _) hb)
        have HG2 := Lib.hid hg
        obtain ⟨c0, c1, c2, f0, f1, f2⟩ := FM.blk w2 HB2.out
        have hz := HB2.out.size
        have hz2 := FM.lt
        clear hb hg
        go_wp2
        exact bodyPost_ret (v := .agg #[.slice A n cap, .int .i64 x, .int .i64 y]) (by simp [results, Tryz.results131, go_sem, c0, c1, c2]) rfl (FM.fin HB2.out HG2.out)
    have e39 := beq_f (fun e => hq (.inl e))
    have e34 := beq_f (fun e => hq (.inr e))
    replace HU := Lib.hid (HU.out.trans (if_neg (fun e => hq e.2)))
    have hp3 := HP3.out
    rw [decide_eq_false (fun e => by omega)] at hp3
    have hp0' := HP0.out
    cases hop : op with
    | true =>
      rw [hop, decide_eq_false (fun e => by cases e.2)] at hp0'
      have hU := (HU.out.trans (if_neg (fun e => by rw [hop] at e; cases e.2.1))).trans (if_neg (fun e => hq (.inr e.2.2)))
      rw [hop] at hU
      rw [hU]
      clear hq
      clear HBS HBQ HDD HQQ HFF HU hU
      go_enter Tryz.func131, Tryz.ntmps131
      go_wp2_with (first | (go_at_call 147; refine (HO.out _).mono ?_; rintro e w' ⟨rfl, rfl⟩) | (go_at_call 43; refine (HBL.out _).mono ?_; rintro e w' ⟨rfl, rfl⟩) | (go_at_call 107; refine (HOB.out _).mono ?_; rintro e w' ⟨rfl, rfl⟩))
      (try rw [← FM.eq])
      refine (HL.out).mono ?_
      rintro e w2 ⟨A, n, cap, x, y, rfl, hb, hg⟩
      have HB2 := Lib.hid (btr (Below.refl _ _) hb)
      have HG2 := Lib.hid hg
      obtain ⟨c0, c1, c2, f0, f1, f2⟩ := FM.blk w2 HB2.out
      have hz := HB2.out.size
      have hz2 := FM.lt
      clear hb hg
      go_wp2
      exact bodyPost_ret (v := .agg #[.slice A n cap, .int .i64 x, .int .i64 y]) (by simp [results, Tryz.results131, go_sem, c0, c1, c2]) rfl (FM.fin HB2.out HG2.out)
    | false =>
      rw [hop, decide_eq_true ⟨hp0, rfl⟩] at hp0'
      cases hd : LX.divides (bt s a) with
      | true =>
        have hU := HU.out.trans (if_pos ⟨hp0, hop, hd⟩)
        rw [hop] at hU
        rw [hU]
        rw [hd] at hdv
        cases hbl : P.bl (bt s a) with
        | true =>
          rw [hbl] at HBL
          clear hq hdv hd hbl
          clear HBS HBQ HDD HQQ HL HU hU
          go_enter Tryz.func131, Tryz.ntmps131
          go_wp2_with (first | (go_at_call 147; refine (HO.out _).mono ?_; rintro e w' ⟨rfl, rfl⟩) | (go_at_call 43; refine (HBL.out _).mono ?_; rintro e w' ⟨rfl, rfl⟩) | (go_at_call 107; refine (HOB.out _).mono ?_; rintro e w' ⟨rfl, rfl⟩))
          (try rw [← FM.eq])
          refine (HFF.out).mono ?_
          rintro e w2 ⟨A, n, cap, x, y, rfl, hb, hg⟩
          have HB2 := Lib.hid (btr (Below.refl _ _) hb)
          have HG2 := Lib.hid hg
          obtain ⟨c0, c1, c2, f0, f1, f2⟩ := FM.blk w2 HB2.out
          have hz := HB2.out.size
          have hz2 := FM.lt
          clear hb hg
          go_wp2
          exact bodyPost_ret (v := .agg #[.slice A n cap, .int .i64 x, .int .i64 y]) (by simp [results, Tryz.results131, go_sem, c0, c1, c2]) rfl (FM.fin HB2.out HG2.out)
        | false =>
          rw [hbl] at HBL hdv
          by_cases h10 : bt s a = 10
          · have e10 : (bt s a == 10) = true := by rw [beq_iff_eq]; exact h10
            clear hq hdv hd hbl h10
            clear HBS HBQ HDD HQQ HL HU hU
            go_enter Tryz.func131, Tryz.ntmps131
            go_wp2_with (first | (go_at_call 147; refine (HO.out _).mono ?_; rintro e w' ⟨rfl, rfl⟩) | (go_at_call 43; refine (HBL.out _).mono ?_; rintro e w' ⟨rfl, rfl⟩) | (go_at_call 107; refine (HOB.out _).mono ?_; rintro e w' ⟨rfl, rfl⟩))
            (try rw [← FM.eq])
            refine (HFF.out).mono ?_
            rintro e w2 ⟨A, n, cap, x, y, rfl, hb, hg⟩
            have HB2 := Lib.hid (btr (Below.refl _ _) hb)
            have HG2 := Lib.hid hg
            obtain ⟨c0, c1, c2, f0, f1, f2⟩ := FM.blk w2 HB2.out
            have hz := HB2.out.size
            have hz2 := FM.lt
            clear hb hg
            go_wp2
            exact bodyPost_ret (v := .agg #[.slice A n cap, .int .i64 x, .int .i64 y]) (by simp [results, Tryz.results131, go_sem, c0, c1, c2]) rfl (FM.fin HB2.out HG2.out)
          · have e10 := beq_f h10
            rw [e10, Bool.false_or, Bool.false_or] at hdv
            rw [← hdv] at HOB
            clear hq hdv hd hbl h10
            clear HBS HBQ HDD HQQ HL HU hU
            go_enter Tryz.func131, Tryz.ntmps131
            go_wp2_with (first | (go_at_call 147; refine (HO.out _).mono ?_; rintro e w' ⟨rfl, rfl⟩) | (go_at_call 43; refine (HBL.out _).mono ?_; rintro e w' ⟨rfl, rfl⟩) | (go_at_call 107; refine (HOB.out _).mono ?_; rintro e w' ⟨rfl, rfl⟩))
            (try rw [← FM.eq])
            refine (HFF.out).mono ?_
            rintro e w2 ⟨A, n, cap, x, y, rfl, hb, hg⟩
            have HB2 := Lib.hid (btr (Below.refl _ _) hb)
            have HG2 := Lib.hid hg
            obtain ⟨c0, c1, c2, f0, f1, f2⟩ := FM.blk w2 HB2.out
            have hz := HB2.out.size
            have hz2 := FM.lt
            clear hb hg
            go_wp2
            exact bodyPost_ret (v := .agg #[.slice A n cap, .int .i64 x, .int .i64 y]) (by simp [results, Tryz.results131, go_sem, c0, c1, c2]) rfl (FM.fin HB2.out HG2.out)
      | false =>
        have hU := (HU.out.trans (if_neg (fun e => by rw [hd] at e; cases e.2.2))).trans (if_neg (fun e => hq (.inr e.2.2)))
        rw [hop] at hU
        rw [hU]
        rw [hd] at hdv
        have hbl : P.bl (bt s a) = false := by
          cases h : P.bl (bt s a) with
          | false => rfl
          | true => rw [h] at hdv; cases hdv
        rw [hbl, Bool.false_or] at hdv
        have e10 : (bt s a == 10) = false := by
          cases h : (bt s a == 10) with
          | false => rfl
          | true => rw [h] at hdv; cases hdv
        rw [e10, Bool.false_or] at hdv
        rw [hbl] at HBL
        rw [← hdv] at HOB
        clear hq hdv hd hbl
        clear HBS HBQ HDD HQQ HFF HU hU
        go_enter Tryz.func131, Tryz.ntmps131
        go_wp2_with (first | (go_at_call 147; refine (HO.out _).mono ?_; rintro e w' ⟨rfl, rfl⟩) | (go_at_call 43; refine (HBL.out _).mono ?_; rintro e w' ⟨rfl, rfl⟩) | (go_at_call 107; refine (HOB.out _).mono ?_; rintro e w' ⟨rfl, rfl⟩))
        (try rw [← FM.eq])
        refine (HL.out).mono ?_
        rintro e w2 ⟨A, n, cap, x, y, rfl, hb, hg⟩
        have HB2 := Lib.hid (btr (Below.refl _ _) hb)
        have HG2 := Lib.hid hg
        obtain ⟨c0, c1, c2, f0, f1, f2⟩ := FM.blk w2 HB2.out
        have hz := HB2.out.size
        have hz2 := FM.lt
        clear hb hg
        go_wp2
        exact bodyPost_ret (v := .agg #[.slice A n cap, .int .i64 x, .int .i64 y]) (by simp [results, Tryz.results131, go_sem, c0, c1, c2]) rfl (FM.fin HB2.out HG2.out)
  rw [decide_eq_false hp0] at HO
  have hp0' := HP0.out
  rw [decide_eq_false (fun e => hp0 e.1)] at hp0'
  replace HU := Lib.hid ((HU.out.trans (if_neg (fun e => hp0 e.1))).trans (if_neg (fun e => hp0 e.1)))
  have hp3 := HP3.out
  by_cases h3 : pl = 1 ∧ op = true
  · rw [decide_eq_true h3] at hp3
    by_cases h34 : bt s a = 34
    · have hU := HU.out.trans (if_pos ⟨h3.1, h3.2, h34⟩)
      have e34 : (bt s a == 34) = true := by rw [beq_iff_eq]; exact h34
      rw [hU]
      clear h34 h3 hp0 hdv
      clear HBS HBQ HDD HQQ HL HU hU
      go_enter Tryz.func131, Tryz.ntmps131
      go_wp2_with (first | (go_at_call 147; refine (HO.out _).mono ?_; rintro e w' ⟨rfl, rfl⟩) | (go_at_call 43; refine (HBL.out _).mono ?_; rintro e w' ⟨rfl, rfl⟩) | (go_at_call 107; refine (HOB.out _).mono ?_; rintro e w' ⟨rfl, rfl⟩))
      (try rw [← FM.eq])
      refine (HFF.out).mono ?_
      rintro e w2 ⟨A, n, cap, x, y, rfl, hb, hg⟩
      have HB2 := Lib.hid (btr (Below.refl _ _) hb)
      have HG2 := Lib.hid hg
      obtain ⟨c0, c1, c2, f0, f1, f2⟩ := FM.blk w2 HB2.out
      have hz := HB2.out.size
      have hz2 := FM.lt
      clear hb hg
      go_wp2
      exact bodyPost_ret (v := .agg #[.slice A n cap, .int .i64 x, .int .i64 y]) (by simp [results, Tryz.results131, go_sem, c0, c1, c2]) rfl (FM.fin HB2.out HG2.out)
    · have hU := HU.out.trans (if_neg (fun e => h34 e.2.2))
      have e34 := beq_f h34
      rw [hU]
      clear h34 h3 hp0 hdv
      clear HBS HBQ HDD HQQ HFF HU hU
      go_enter Tryz.func131, Tryz.ntmps131
      go_wp2_with (first | (go_at_call 147; refine (HO.out _).mono ?_; rintro e w' ⟨rfl, rfl⟩) | (go_at_call 43; refine (HBL.out _).mono ?_; rintro e w' ⟨rfl, rfl⟩) | (go_at_call 107; refine (HOB.out _).mono ?_; rintro e w' ⟨rfl, rfl⟩))
      (try rw [← FM.eq])
      refine (HL.out).mono ?_
      rintro e w2 ⟨A, n, cap, x, y, rfl, hb, hg⟩
      have HB2 := Lib.hid (btr (Below.refl _ _) hb)
      have HG2 := Lib.hid hg
      obtain ⟨c0, c1, c2, f0, f1, f2⟩ := FM.blk w2 HB2.out
      have hz := HB2.out.size
      have hz2 := FM.lt
      clear hb hg
      go_wp2
      exact bodyPost_ret (v := .agg #[.slice A n cap, .int .i64 x, .int .i64 y]) (by simp [results, Tryz.results131, go_sem, c0, c1, c2]) rfl (FM.fin HB2.out HG2.out)
  · rw [decide_eq_false h3] at hp3
    have hU := HU.out.trans (if_neg (fun e => h3 ⟨e.1, e.2.1⟩))
    rw [hU]
    clear h3 hp0 hdv
    clear HBS HBQ HDD HQQ HFF HU hU
    go_enter Tryz.func131, Tryz.ntmps131
    go_wp2_with (first | (go_at_call 147; refine (HO.out _).mono ?_; rintro e w' ⟨rfl, rfl⟩) | (go_at_call 43; refine (HBL.out _).mono ?_; rintro e w' ⟨rfl, rfl⟩) | (go_at_call 107; refine (HOB.out _).mono ?_; rintro e w' ⟨rfl, rfl⟩))
    (try rw [← FM.eq])
    refine (HL.out).mono ?_
    rintro e w2 ⟨A, n, cap, x, y, rfl, hb, hg⟩
    have HB2 := Lib.hid (btr (Below.refl _ _) hb)
    have HG2 := Lib.hid hg
    obtain ⟨c0, c1, c2, f0, f1, f2⟩ := FM.blk w2 HB2.out
    have hz := HB2.out.size
    have hz2 := FM.lt
    clear hb hg
    go_wp2
    exact bodyPost_ret (v := .agg #[.slice A n cap, .int .i64 x, .int .i64 y]) (by simp [results, Tryz.results131, go_sem, c0, c1, c2]) rfl (FM.fin HB2.out HG2.out)
end W
end Go.Proofs.YtcbdhheelddgeaaGreatDoor
namespace Go.Proofs.YtcbdhheelddgeaaGreatDoor
open Go.RowKit K
namespace W
set_option maxRecDepth 100000
/-- A list of parts in a row of one's own, in blocks from B on. -/
def LO (B : Nat) (w : World) (v : Value) (l : List WP.Part) : Prop := ∃ cells, w.ownsRow B 126 5 v l.length cells ∧ LRep w (fun k => B ≤ k ∧ v.ownBlock ≠ some k) l cells
/-- What a growth of such a list leaves as it was. -/
structure Gw (B : Nat) (w w' : World) (v v' : Value) : Prop where
  le : w.heap.size ≤ w'.heap.size
  keep : ∀ k, k < w.heap.size → v.ownBlock ≠ some k → w'.heap[k]? = w.heap[k]?
  bel : Below B w w'
  own : ∀ r, v'.ownBlock = some r → v.ownBlock = some r ∨ w.heap.size ≤ r
theorem LO.nil (B : Nat) (w : World) : LO B w (.slice none 0 0) [] := ⟨[], World.ownsRow_nil w _ _ _, by rw [LRep]⟩
theorem LO.val {B : Nat} {w : World} {v : Value} {l : List WP.Part} (h : LO B w v l) : ∃ A c, v = .slice A l.length c := by
  obtain ⟨cells, h1, -⟩ := h
  exact row_val h1
theorem LO.lt {B : Nat} {w : World} {v : Value} {l : List WP.Part} (h : LO B w v l) : ∀ r, v.ownBlock = some r → B ≤ r ∧ r < w.heap.size := by
  obtain ⟨cells, h1, -⟩ := h
  exact h1.lt
theorem LO.below {B : Nat} {w w' : World} {v : Value} {l : List WP.Part} (h : LO B w v l) (hb : Below w.heap.size w w') : LO B w' v l := by
  obtain ⟨cells, h1, h2⟩ := h
  exact ⟨cells, row_below h1 hb, LRep.mono (fun k hk hl => ⟨hk, hb.block k hl⟩) _ _ h2⟩
theorem LO.rval {B : Nat} {w : World} {A : Option Addr} {n c : Nat} {l : List WP.Part} (h : LO B w (.slice A n c) l) : n = l.length ∧ RVal w B l A := by
  obtain ⟨cells, h1, h2⟩ := h
  rcases h1.2 with ⟨hv, h0⟩ | ⟨g, cap, cur, hv, hbg, hg, hnc, -, hcs, htk⟩
  · injection hv with e1 e2 e3
    exact ⟨by omega, .inl (List.eq_nil_of_length_eq_zero h0)⟩
  · injection hv with e1 e2 e3
    subst e1
    refine ⟨e2, .inr ⟨g, cells, rfl, hbg, LRep.mono (fun k hk _ => ⟨hk.1, rfl⟩) _ _ h2, fun j u hj => ?_⟩⟩
    have := h1.cells (g := g) rfl j u hj
    rwa [show (⟨g, 0, none⟩ : Addr).add j = ⟨g, j, none⟩ by unfold Addr.add; split <;> simp_all] at this
mutual
theorem PRep.ones {w : World} {F : Nat → Prop} : ∀ (p : WP.Part) (vs : List Value), PRep w F p vs → ∀ u ∈ vs, u.oneCell' = true
  | .mk k t o c ps, vs, h => by
    rw [PRep] at h
    obtain ⟨A, cap, rfl, -⟩ := h
    intro u hu
    simp [pc] at hu
    rcases hu with rfl | rfl | rfl | rfl | rfl <;> rfl
theorem LRep.ones {w : World} {F : Nat → Prop} : ∀ (ps : List WP.Part) (vs : List Value), LRep w F ps vs → ∀ u ∈ vs, u.oneCell' = true
  | [], vs, h => by rw [LRep] at h; subst h; intro u hu; cases hu
  | p :: ps, vs, h => by
    rw [LRep] at h
    obtain ⟨a, b, rfl, h1, h2⟩ := h
    intro u hu
    rcases List.mem_append.1 hu with hu | hu
    · exact PRep.ones p a h1 u hu
    · exact LRep.ones ps b h2 u hu
end
theorem LRep.split {w : World} {F : Nat → Prop} {p : WP.Part} : ∀ {l : List WP.Part} {cells : List Value}, LRep w F (l ++ [p]) cells → ∃ a b, cells = a ++ b ∧ LRep w F l a ∧ PRep w F p b ∧ a.length = l.length * 5
  | [], cells, h => by
    rw [List.nil_append, LRep] at h
    obtain ⟨a, b, rfl, h1, h2⟩ := h
    rw [LRep] at h2
    subst h2
    exact ⟨[], a, by simp, by rw [LRep], h1, rfl⟩
  | q :: l, cells, h => by
    rw [List.cons_append, LRep] at h
    obtain ⟨a, b, rfl, h1, h2⟩ := h
    obtain ⟨c, d, rfl, h3, h4, h5⟩ := LRep.split h2
    refine ⟨a ++ c, d, by rw [List.append_assoc], by rw [LRep]; exact ⟨a, c, rfl, h1, h3⟩, h4, ?_⟩
    rw [List.length_append, h1.len, h5, List.length_cons]
    omega
theorem infoPartN : ∃ i : TypeInfo, Tryz.prog.info? 126 = some i ∧ i.zero = some (.agg #[.int .i64 0, .string ⟨#[]⟩, .int .i64 0, .bool false, .slice none 0 0]) ∧ i.size = 5 ∧ i.bytes = 64 := info_parts infoPart
/-- A part behind such a list. -/
theorem app_part {B : Nat} {w X : World} {v : Value} {l : List WP.Part} {p : WP.Part} {x0 x1 x2 x3 x4 : Value} (h : LO B w v l) (hB : B ≤ w.heap.size) (hn : l.length ≤ 100000)
    (hX : X = w.alloc (.cells #[x0, x1, x2, x3, x4] 126)) (hp : PRep w (fun k => B ≤ k ∧ v.ownBlock ≠ some k) p [x0, x1, x2, x3, x4]) :
    ∃ A' c' w', (Builtin.append_ #[102, 102] 102 #[v, .slice (some ⟨w.heap.size, 0, none⟩) 1 1]).run Tryz.prog X = .ok (.slice A' (l.length + 1) c') w' ∧ LO B w' (.slice A' (l.length + 1) c') (l ++ [p]) ∧ Gw B w w' v (.slice A' (l.length + 1) c') := by
  obtain ⟨cells, h1, h2⟩ := h
  obtain ⟨i0, hi, hz0, hz1, hz2⟩ := infoPartN
  have hxb : X.heap[w.heap.size]? = some (.cells #[x0, x1, x2, x3, x4] 126 (0, 0)) := by rw [hX]; exact al_new w _
  have hbx : Below w.heap.size w X := by rw [hX]; exact balloc _ _
  have hsz : X.heap.size = w.heap.size + 1 := by rw [hX]; simp
  have hones := PRep.ones p _ hp
  obtain ⟨v', w', hrun, hown, hgrow, -, hwh⟩ := run_append_own_at (P := Tryz.prog) (w := X) B 102 102 126 i0 _ 5 64 Tryz.underlying102 hi hz0 hz1 hz2 rfl (by decide) v l.length cells (row_below h1 hbx) ⟨w.heap.size, 0, none⟩ 1 1 [x0, x1, x2, x3, x4] rfl (by
    intro j u hj
    rw [show (⟨w.heap.size, 0, none⟩ : Addr).add j = ⟨w.heap.size, j, none⟩ by unfold Addr.add; split <;> simp_all]
    match j, hj with
    | 0, hj => exact (Lib.cell_of_heap hxb 0).trans hj
    | 1, hj => exact (Lib.cell_of_heap hxb 1).trans hj
    | 2, hj => exact (Lib.cell_of_heap hxb 2).trans hj
    | 3, hj => exact (Lib.cell_of_heap hxb 3).trans hj
    | 4, hj => exact (Lib.cell_of_heap hxb 4).trans hj
    | n + 5, hj => simp at hj) hones (by simp only [maxLen]; omega) (by omega) (by omega)
  obtain ⟨A', c', rfl⟩ := row_val hown
  have hkp : ∀ k, k < w.heap.size → v.ownBlock ≠ some k → w'.heap[k]? = w.heap[k]? := fun k hk hne => (hgrow.block k (by omega) (fun e => hne e.symm)).trans (hbx.block k hk)
  have hlt := h1.lt
  have hwn : ∀ r, (Value.slice A' (l.length + 1) c').ownBlock = some r → v.ownBlock = some r ∨ w.heap.size ≤ r := fun r hr => by
    rcases hwh with e | e
    · rw [← e]; exact .inl hr
    · rw [hr] at e; injection e with e; exact .inr (by omega)
  have hmono : ∀ k, (B ≤ k ∧ v.ownBlock ≠ some k) → k < w.heap.size → (B ≤ k ∧ (Value.slice A' (l.length + 1) c').ownBlock ≠ some k) ∧ w'.heap[k]? = w.heap[k]? := fun k hk hl =>
    ⟨⟨hk.1, fun e => (hwn k e).elim hk.2 (fun e => by omega)⟩, hkp k hl hk.2⟩
  refine ⟨A', c', w', hrun, ⟨cells ++ [x0, x1, x2, x3, x4], by rw [List.length_append]; exact hown, LRep.snoc (PRep.mono hmono _ _ hp) (LRep.mono hmono _ _ h2)⟩, ⟨?_, hkp, ?_, hwn⟩⟩
  · have := hgrow.size; omega
  · exact (hbx.mono hB).grown hgrow (by omega) (fun k hk => (hlt k hk).1)
/-- The first parts of such a list, copied. -/
theorem lo_copy {B g n c : Nat} {w : World} {l : List WP.Part} {p : WP.Part} (h : LO B w (.slice (some ⟨g, 0, none⟩) n c) (l ++ [p])) (hB : B ≤ w.heap.size) (hn : l.length ≤ 100000) :
    ∃ A' c' w', (Builtin.append_ #[102, 102] 102 #[.slice none 0 0, .slice (some ⟨g, 0, none⟩) l.length c]).run Tryz.prog w = .ok (.slice A' l.length c') w' ∧ LO B w' (.slice A' l.length c') l ∧ Gw B w w' (.slice none 0 0) (.slice A' l.length c') := by
  obtain ⟨cells, h1, h2⟩ := h
  obtain ⟨i0, hi, hz0, hz1, hz2⟩ := infoPartN
  obtain ⟨a, b, rfl, h3, h4, h5⟩ := LRep.split h2
  have hones := LRep.ones _ _ h3
  obtain ⟨v', w', hrun, hown, hgrow, -, hwh⟩ := run_append_own_at (P := Tryz.prog) (w := w) B 102 102 126 i0 _ 5 64 Tryz.underlying102 hi hz0 hz1 hz2 rfl (by decide) (.slice none 0 0) 0 [] (World.ownsRow_nil w _ _ _) ⟨g, 0, none⟩ l.length c a (by rw [h5]) (fun j u hj => h1.cells (g := g) rfl j u (by rw [List.getElem?_append_left (List.getElem?_eq_some_iff.1 hj).1]; exact hj)) hones (by simp only [maxLen]; omega) (by omega) hB
  rw [Nat.zero_add, List.nil_append] at hown
  obtain ⟨A', c', rfl⟩ := row_val hown
  have hkp : ∀ k, k < w.heap.size → w'.heap[k]? = w.heap[k]? := fun k hk => hgrow.block k hk (fun e => by cases e)
  have hwn : ∀ r, (Value.slice A' l.length c').ownBlock = some r → w.heap.size ≤ r := fun r hr => by
    rcases hwh with e | e
    · rw [hr] at e; cases e
    · rw [hr] at e; injection e with e; omega
  refine ⟨A', c', w', hrun, ⟨a, hown, LRep.mono (fun k hk hl => ⟨⟨hk.1, fun e => by have := hwn k e; omega⟩, hkp k hl⟩) _ _ h3⟩, ⟨hgrow.size, fun k hk _ => hkp k hk, (Below.refl B w).grown hgrow hB (fun k hk => by cases hk), fun r hr => .inr (hwn r hr)⟩⟩
theorem app_eqR {P : Program} {w w' : World} {ops : Array Oper} {rest : List Oper} {o : Oper} {a : Act} {Q : Exit → Act → World → Prop} (hgd : o.guard = none) (s x : Operand) (t : TypeId)
    (ho : o.op = .call { callee := .builtin .append, args := #[s, x], argTypes := #[t, t] }) (v u v' : Value) (hs : a.eval s = v) (hx : a.eval x = u)
    (hr : (Builtin.append_ #[t, t] o.type #[v, u]).run P w = .ok v' w') (h : wpList P ops Q rest (a.put o.dst v') w') : wpList P ops Q (o :: rest) a w := by
  refine wpList_plain hgd fun K hK => ?_
  unfold Oper.wp execOp
  simp only [ho, resolve, invoke, builtin, Sem.run_bind, Sem.run_pure, Result.andThen_ok, List.map_toArray, List.map_cons, List.map_nil, hs, hx, hr]
  exact hK _ _ h
theorem str_addR (a b : List UInt8) (ha : a.length ≤ 8000000) (hb : b.length ≤ 8000000) : ∀ U, (Op.stringOp .add ⟨a.toArray⟩ ⟨b.toArray⟩).run Tryz.prog U = .ok (.string ⟨(a ++ b).toArray⟩) U := fun U =>
  run_string_add_lists U a b (by omega) (by omega)
theorem Gw.trans {B : Nat} {a b c : World} {x y z : Value} (h : Gw B a b x y) (k : Gw B b c y z) : Gw B a c x z :=
  ⟨Nat.le_trans h.le k.le, fun q h1 h2 => (k.keep q (Nat.lt_of_lt_of_le h1 h.le) (fun e => (h.own q e).elim h2 (fun e => by omega))).trans (h.keep q h1 h2), h.bel.trans k.bel,
    fun r hr => (k.own r hr).elim (h.own r) (fun e => .inr (Nat.le_trans h.le e))⟩
set_option maxHeartbeats 4000000 in
/-- with: a text behind such a list. -/
theorem rw_with (B : Nat) (l : List WP.Part) (t : List UInt8) (v : Value) (w : World) (h : LO B w v l) (hB : B ≤ w.heap.size) (hn : l.length ≤ 50000) (ht : t.length ≤ 1000000) (hu : ∀ u o b ps, l.getLast? = some (.mk 1 u o b ps) → u.length ≤ 1000000) :
    Calls Tryz.prog 132 #[v, .string ⟨t.toArray⟩] w fun e w' => ∃ A' n' c', e = .returned (.slice A' n' c') ∧ LO B w' (.slice A' n' c') (RP.withT l t) ∧ Gw B w w' v (.slice A' n' c') := by
  obtain ⟨A, cap, rfl⟩ := h.val
  obtain ⟨n, hnl⟩ : ∃ n, n = l.length := ⟨_, rfl⟩
  have HNL := Lib.hid hnl
  rw [← hnl] at h ⊢
  have hn2 : n ≤ 50000 := by omega
  rcases List.eq_nil_or_concat l with hl | ⟨l0, p, hl⟩
  · have hn0 : n = 0 := by rw [hnl, hl]; rfl
    subst hn0
    subst hl
    obtain ⟨x, hx⟩ : ∃ x, x = w.alloc (.cells #[.int .i64 1, .string ⟨t.toArray⟩, .int .i64 0, .bool false, .slice none 0 0] 126) := ⟨_, rfl⟩
    obtain ⟨A', c', w', hrun, hlo, hg⟩ := app_part (p := .mk 1 t 0 false []) h hB (by simp) hx (by rw [PRep]; exact ⟨none, 0, rfl, .inl rfl⟩)
    have HX := Lib.hid hx
    have HRUN := Lib.hid hrun
    have HR := Lib.hid (show LO B w' (.slice A' 1 c') (RP.withT [] t) from hlo)
    have HG := Lib.hid (show Gw B w w' (.slice A 0 cap) (.slice A' 1 c') from hg)
    clear hx hrun hlo hg h hnl hu
    go_enter Tryz.func132, Tryz.ntmps132
    go_wp2_with (at_builtin; rw [← HX.out]; refine app_eqR rfl _ _ 102 rfl _ _ _ rfl rfl HRUN.out ?_)
    go_ret
    exact ⟨A', 1, c', rfl, HR.out, HG.out⟩
  · obtain ⟨kd, u, o, b, ps⟩ := p
    rw [List.concat_eq_append] at hl
    subst hl
    have hm : n = l0.length + 1 := by rw [hnl, List.length_append]; rfl
    obtain ⟨m, hml⟩ : ∃ m, m = l0.length := ⟨_, rfl⟩
    rw [← hml] at hm
    obtain ⟨cells, h1, h2⟩ := h
    obtain ⟨ca, cb, rfl, h3, h4, h5⟩ := LRep.split h2
    rw [PRep] at h4
    obtain ⟨A2, cap2, rfl, h6⟩ := h4
    obtain ⟨g, rfl, hgl, hcap, hcell⟩ : ∃ g, A = some ⟨g, 0, none⟩ ∧ g < w.heap.size ∧ n ≤ cap ∧ ∀ j u', (pc kd u o b (.slice A2 ps.length cap2))[j]? = some u' → w.cell? ⟨g, m * 5 + j, none⟩ = some u' := by
      have hlt := h1.lt
      rcases h1.2 with ⟨hv, h0⟩ | ⟨g, cap', cur, hv, hbg, hg, hnc, -⟩
      · simp at h0
      · injection hv with e1 e2 e3
        subst e1 e3
        refine ⟨g, rfl, (hlt g rfl).2, by omega, fun j u' hj => ?_⟩
        have := h1.cells (g := g) rfl (ca.length + j) u' (by rw [List.getElem?_append_right (by omega), Nat.add_sub_cancel_left]; exact hj)
        rw [h5, ← hml, show (⟨g, 0, none⟩ : Addr).add (m * 5 + j) = ⟨g, m * 5 + j, none⟩ by unfold Addr.add; split <;> simp_all] at this
        exact this
    have hlo : LO B w (.slice (some ⟨g, 0, none⟩) n cap) (l0 ++ [.mk kd u o b ps]) := ⟨_, h1, h2⟩
    have g0 : w.cell? ⟨g, m * 5, none⟩ = some (.int .i64 kd) := hcell 0 _ rfl
    have q1 : (0 < n) = True := eq_true (by omega)
    have q2 : ((n : Int) - 1 < (n : Int)) = True := eq_true (by omega)
    have q3 : ((0 : Int) ≤ (n : Int) - 1) = True := eq_true (by omega)
    have q7 : ((1 : Int) ≤ (n : Int)) = True := eq_true (by omega)
    have q8 : (1 ≤ n) = True := eq_true (by omega)
    have q4 : ((n : Int) - 1).toNat = m := by omega
    have q5 : ((n : Int) - 1 ≤ (cap : Int)) = True := eq_true (by omega)
    have q6 : ¬ cap = 0 := by omega
    by_cases hk : kd = 1
    · subst hk
      have hul := hu u o b ps (by rw [List.getLast?_concat])
      have g1 : w.cell? ⟨g, m * 5 + 1, none⟩ = some (.string ⟨u.toArray⟩) := hcell 1 _ rfl
      obtain ⟨A1, c1, w1, hrun1, hlo1, hg1⟩ := lo_copy hlo hB (by omega)
      rw [← hml] at hrun1 hlo1 hg1
      have g2 : w1.cell? ⟨g, m * 5 + 1, none⟩ = some (.string ⟨u.toArray⟩) := by
        rw [← g1]
        unfold World.cell?
        rw [hg1.keep g hgl (fun e => by cases e)]
      have hgl1 : g < w1.heap.size := Nat.lt_of_lt_of_le hgl hg1.le
      obtain ⟨x, hx⟩ : ∃ x, x = w1.alloc (.cells #[.int .i64 1, .string ⟨(u ++ t).toArray⟩, .int .i64 0, .bool false, .slice none 0 0] 126) := ⟨_, rfl⟩
      obtain ⟨A', c', w', hrun, hlo2, hg⟩ := app_part (p := .mk 1 (u ++ t) 0 false []) hlo1 (Nat.le_trans hB hg1.le) (by omega) hx (by rw [PRep]; exact ⟨none, 0, rfl, .inl rfl⟩)
      have HX := Lib.hid hx
      have HR1 := Lib.hid hrun1
      have HR2 := Lib.hid hrun
      have HADD := str_addR u t (by omega) (by omega)
      have HR := Lib.hid (show LO B w' (.slice A' (l0.length + 1) c') (RP.withT (l0 ++ [.mk 1 u o b ps]) t) from by
        have : RP.withT (l0 ++ [.mk 1 u o b ps]) t = l0 ++ [.mk 1 (u ++ t) 0 false []] := by
          unfold RP.withT
          rw [List.getLast?_concat, List.dropLast_concat]
          rfl
        rw [this]
        exact hlo2)
      have HG := Lib.hid (show Gw B w w' (.slice (some ⟨g, 0, none⟩) n cap) (.slice A' (l0.length + 1) c') from
        ⟨Nat.le_trans hg1.le hg.le, fun k h1 h2 => (hg.keep k (Nat.lt_of_lt_of_le h1 hg1.le) (fun e => (hg1.own k e).elim (fun e => by cases e) (fun e => by omega))).trans (hg1.keep k h1 (fun e => by cases e)), hg1.bel.trans hg.bel,
          fun r hr => (hg.own r hr).elim (fun e => .inr ((hg1.own r e).elim (fun e => by cases e) id)) (fun e => .inr (Nat.le_trans hg1.le e))⟩)
      rw [← hml] at HR HG HR2
      have h1' : ((1 : Int) == 1) = true := rfl
      clear hx hrun hrun1 hlo hlo1 hlo2 hg hg1 h1 h2 h3 h5 h6 hcell hu hnl HNL hml hm hn
      go_enter Tryz.func132, Tryz.ntmps132
      go_wp2_with (first | (at_builtin; refine app_eqR rfl _ _ 102 rfl _ _ _ rfl rfl HR1.out ?_) | (at_builtin; rw [← HX.out]; refine app_eqR rfl _ _ 102 rfl _ _ _ rfl rfl HR2.out ?_))
      go_ret
      exact ⟨A', _, c', rfl, HR.out, HG.out⟩
    · have hk' : ((kd : Int) == 1) = false := by rw [beq_eq_false_iff_ne]; omega
      obtain ⟨x, hx⟩ : ∃ x, x = w.alloc (.cells #[.int .i64 1, .string ⟨t.toArray⟩, .int .i64 0, .bool false, .slice none 0 0] 126) := ⟨_, rfl⟩
      obtain ⟨A', c', w', hrun, hlo2, hg⟩ := app_part (p := .mk 1 t 0 false []) hlo hB (by omega) hx (by rw [PRep]; exact ⟨none, 0, rfl, .inl rfl⟩)
      have HX := Lib.hid hx
      have HR2 := Lib.hid hrun
      have HR := Lib.hid (show LO B w' (.slice A' ((l0 ++ [WP.Part.mk kd u o b ps]).length + 1) c') (RP.withT (l0 ++ [WP.Part.mk kd u o b ps]) t) from by
        have : RP.withT (l0 ++ [WP.Part.mk kd u o b ps]) t = (l0 ++ [WP.Part.mk kd u o b ps]) ++ [WP.Part.mk 1 t 0 false []] := by
          unfold RP.withT
          rw [List.getLast?_concat]
          split
          · rename_i u' o' b' ps' e
            injection e with e
            injection e with e
            exact absurd e hk
          · rfl
        rw [this]
        exact hlo2)
      have HG := Lib.hid hg
      have hle : (l0 ++ [WP.Part.mk kd u o b ps]).length + 1 = l0.length + 1 + 1 := by simp
      rw [hle] at HR HG HR2
      clear hx hrun hlo hlo2 hg h1 h2 h3 h5 h6 hcell hu hnl HNL hml hm hn hk hle
      go_enter Tryz.func132, Tryz.ntmps132
      go_wp2_with (at_builtin; rw [← HX.out]; refine app_eqR rfl _ _ 102 rfl _ _ _ rfl rfl HR2.out ?_)
      go_ret
      exact ⟨A', _, c', rfl, HR.out, HG.out⟩
end W
end Go.Proofs.YtcbdhheelddgeaaGreatDoor
