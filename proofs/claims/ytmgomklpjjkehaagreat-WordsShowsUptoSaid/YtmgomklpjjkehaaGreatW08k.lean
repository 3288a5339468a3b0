/- Words: dollar before a digit, a name, or something else. -/
import Derived.Test.YtmgomklpjjkehaaGreatW08j
namespace Go.Proofs.YtmgomklpjjkehaaGreat
open Go.RowKit K
namespace W
section
variable {W : World} {g : Nat} {c : WP.Ctx} {st : WP.St}
set_option maxRecDepth 100000 in
set_option maxHeartbeats 8000000 in
theorem dollar_rest {N : WP.Nest} (h : ScP W g c st) (hi : WP.Inv c st) (ha : st.a < c.s.length) (hl : c.s.length ≤ 20000)
    (p1 : Lib.hasPrefix (c.s.drop (st.a + 1)) [40, 40] = false) (p2 : Lib.hasPrefix (c.s.drop (st.a + 1)) [40] = false) (p3 : Lib.hasPrefix (c.s.drop (st.a + 1)) [123] = false) :
    Calls Tryz.prog 61 #[.pointer (some ⟨g, 0, none⟩)] W (Out W g c (WP.dollar N c st)) := by
  have HS := Lib.hid h
  have HLT := Lib.hid h.lt
  have hsum := hi.sum
  have HUE := Lib.hid (Below.refl W.heap.size W)
  have hF := Lib.hid (fun (x y : Int) (V : World) => fail_any x y V)
  have HL := Lib.hid (fun (b : UInt8) (m : Nat) (V : World) (hV : Below W.heap.size W V) (hm : m ≤ 10) => lit_any (W := V) b m (HS.out.below hV) (by omega) (by omega) hm)
  have HA := Lib.hid (fun (k : Nat) (t : List UInt8) (m : Nat) (V : World) (hV : Below W.heap.size W V) => add0 (W := V) k t 0 false m (HS.out.below hV) (by omega))
  have HPM := Lib.hid (fun V (hV : Below W.heap.size W V) => parameter_any (HS.out.below hV) (st.a + 1) (by omega) (by omega))
  have HNM := Lib.hid (fun V (hV : Below W.heap.size W V) (hlt : st.a + 1 < c.s.length) => name_any (HS.out.below hV) (st.a + 1) (WP.parameter c.s (st.a + 1)) st.a hlt (WP.parameter_ge _ _) (WP.parameter_le (by omega)) (by omega))
  obtain ⟨tx, ls, hb⟩ := h.box
  have HB := Lib.hid hb
  have HR := Lib.hid (show WP.dollar N c st = if st.a + 1 < c.s.length ∧ LX.digit (bt c.s (st.a + 1)) = true then .ok (WP.add (.mk 4 (cut c.s (st.a + 1) (st.a + 2)) 0 false []) (st.a + 2) st)
    else if st.a + 1 < WP.parameter c.s (st.a + 1) then
      if WP.tooLong c.s (st.a + 1) (WP.parameter c.s (st.a + 1)) = true then .error (st.a, 3)
      else .ok (WP.add (.mk 4 (cut c.s (st.a + 1) (WP.parameter c.s (st.a + 1))) 0 false []) (WP.parameter c.s (st.a + 1)) st)
    else if c.pl = 0 ∧ (Lib.hasPrefix (c.s.drop (st.a + 1)) [96] = true ∨ Lib.hasPrefix (c.s.drop (st.a + 1)) [92, 10] = true) then .error (st.a, 6)
    else .ok (WP.lit 36 1 st) by
      unfold WP.dollar
      rw [if_neg (by rw [p1]; simp), if_neg (by rw [p2]; simp), if_neg (by rw [p3]; simp)])
  clear h
  obtain ⟨s, pl, op, lv, opn⟩ := c
  obtain ⟨a, dep, tb, lp⟩ := st
  dsimp only at HS HL HA HB HR HPM HNM ha hl hsum p1 p2 p3 ⊢
  obtain ⟨c0, c1, c2, c3, c4, c5, c6, c7, c8⟩ := HB.out.cells
  clear hb
  have w1 : IntKind.i64.wrap ((a : Int) + 1) = (a : Int) + 1 := IntWalk.i64_in _ (by omega)
  have a0 : (0 : Int) ≤ (a : Int) := by omega
  have a4 : (0 : Int) ≤ (a : Int) + 1 := by omega
  have a2 : ((a : Int) + 1).toNat = a + 1 := by omega
  have a3 : ((a : Int) + 1 ≤ (s.length : Int)) = True := eq_true (by omega)
  have HP40 := Lib.hid (fun V => lx_HasPrefix (s.drop (a + 1)) [40, 40] V)
  have HP4 := Lib.hid (fun V => lx_HasPrefix (s.drop (a + 1)) [40] V)
  have HP1 := Lib.hid (fun V => lx_HasPrefix (s.drop (a + 1)) [123] V)
  have HPB := Lib.hid (fun V => lx_HasPrefix (s.drop (a + 1)) [96] V)
  have HPN := Lib.hid (fun V => lx_HasPrefix (s.drop (a + 1)) [92, 10] V)
  rw [p1] at HP40
  rw [p2] at HP4
  rw [p3] at HP1
  obtain ⟨r, hr⟩ : ∃ r, s.drop (a + 1) = r := ⟨_, rfl⟩
  have hrl : r.length = s.length - (a + 1) := by rw [← hr, List.length_drop]
  have HRL := Lib.hid hrl
  have HRR := Lib.hid hr
  rw [hr] at HR HP40 HP4 HP1 HPB HPN
  rw [show WP.dollar N _ _ = _ from HR.out]
  clear HR p1 p2 p3 hr hrl
  by_cases hlt : a + 1 < s.length
  case neg =>
    have hrn : r = [] := List.eq_nil_of_length_eq_zero (by have := HRL.out; omega)
    have hpar : WP.parameter s (a + 1) = a + 1 := by unfold WP.parameter; rw [if_pos (by omega)]
    rw [if_neg (fun e => hlt e.1), hpar, if_neg (Nat.lt_irrefl _)]
    rw [hpar] at HPM
    subst hrn
    rw [if_neg (by rintro ⟨_, h | h⟩ <;> simp [Lib.hasPrefix] at h)]
    have HPB2 := Lib.hid (fun V => show Calls Tryz.prog 74 #[.string ⟨#[]⟩, .string ⟨#[96]⟩] V fun e w' => e = .returned (.bool false) ∧ V = w' from HPB.out V)
    have HPN2 := Lib.hid (fun V => show Calls Tryz.prog 74 #[.string ⟨#[]⟩, .string ⟨#[92, 10]⟩] V fun e w' => e = .returned (.bool false) ∧ V = w' from HPN.out V)
    have HPM2 := Lib.hid (fun (V : World) (hV : Below W.heap.size W V) => show Calls Tryz.prog 78 #[.pointer (some ⟨g, 0, none⟩), .int .i64 ((a : Int) + 1)] V fun e w' => e = .returned (.int .i64 ((a : Int) + 1)) ∧ V = w' from HPM.out V hV)
    clear HPB HPN HPM hpar HNM
    have hp0 : (pl = 0 ∧ ((pl : Int) == 0) = true) ∨ ((pl : Int) == 0) = false := by
      by_cases h : pl = 0
      · exact .inl ⟨h, by rw [beq_iff_eq]; omega⟩
      · exact .inr (by rw [beq_eq_false_iff_ne]; omega)
    rcases hp0 with ⟨rfl, hp0⟩ | hp0
    all_goals
      go_enter Tryz.func61, Tryz.ntmps61
      go_wp2_with fail
      go_quiet (fail)
      rw [cut_end, HRR.out]
      have HUU := Lib.hid (bdN HUE.out nq)
      generalize W.drewN nq = U at HUU ⊢
      clear c0 c1 c2 c3 c4 c5 c6 c7 c8
      obtain ⟨c0, c1, c2, c3, c4, c5, c6, c7, c8⟩ := (HB.out.kept (HUU.out.block g HLT.out)).cells
      go_wp2_with fail
      refine (HP40.out _).mono ?_
      rintro en v1 ⟨rfl, rfl⟩
      go_wp2_with fail
      refine (HP4.out _).mono ?_
      rintro en v1 ⟨rfl, rfl⟩
      go_wp2_with fail
      refine (HP1.out _).mono ?_
      rintro en v1 ⟨rfl, rfl⟩
      go_wp2_with fail
      refine (HPM2.out _ HUU.out).mono ?_
      rintro en v1 ⟨rfl, rfl⟩
      go_wp2_with (first | (go_at_call 74; refine (HPB2.out _).mono ?_; rintro en v1 ⟨rfl, rfl⟩) | (go_at_call 74; refine (HPN2.out _).mono ?_; rintro en v1 ⟨rfl, rfl⟩))
      refine (HL.out 36 1 _ HUU.out (by decide)).mono ?_
      rintro en Y2 ⟨rfl, hs, hf⟩
      go_wp2
      first | go_end0 | refine bodyPost_ret (results_none rfl _ _ _) rfl ?_
      exact ⟨rfl, hs, (Fr.of_below HUU.out HLT.out).trans hf⟩
  have a9 : ((a : Int) + 1 < (s.length : Int)) = True := eq_true (by omega)
  obtain ⟨b, hbb⟩ : ∃ b, bt s (a + 1) = b := ⟨_, rfl⟩
  have hrb : bt r 0 = b := by rw [← HRR.out, bt_drop, Nat.add_zero, hbb]
  have HBB := Lib.hid hbb
  have hrp : (0 < r.length) = True := eq_true (by have := HRL.out; omega)
  have hrne : r.isEmpty = false := by cases r with | nil => simp at hrp | cons x y => rfl
  rw [hbb]
  have HD := Lib.hid (fun V => wd_digit b V)
  have w2 : IntKind.i64.wrap ((a : Int) + 2) = (a : Int) + 2 := IntWalk.i64_in _ (by omega)
  have hr1 : ((1 : Int) ≤ (r.length : Int)) = True := eq_true (by have := HRL.out; omega)
  clear hbb
  cases hd : LX.digit b with
  | true =>
    rw [if_pos ⟨hlt, rfl⟩]
    rw [hd] at HD
    have HC1 := Lib.hid (show cut r 0 1 = cut s (a + 1) (a + 2) by rw [← HRR.out]; unfold cut; rw [List.drop_zero, List.take_drop, show a + 1 + 1 = a + 2 by omega])
    clear hd HPM HNM
    go_enter Tryz.func61, Tryz.ntmps61
    go_wp2_with fail
    go_quiet (fail)
    rw [cut_end, HRR.out]
    have HUU := Lib.hid (bdN HUE.out nq)
    generalize W.drewN nq = U at HUU ⊢
    clear c0 c1 c2 c3 c4 c5 c6 c7 c8
    obtain ⟨c0, c1, c2, c3, c4, c5, c6, c7, c8⟩ := (HB.out.kept (HUU.out.block g HLT.out)).cells
    go_wp2_with fail
    refine (HP40.out _).mono ?_
    rintro en v1 ⟨rfl, rfl⟩
    go_wp2_with fail
    refine (HP4.out _).mono ?_
    rintro en v1 ⟨rfl, rfl⟩
    go_wp2_with fail
    refine (HP1.out _).mono ?_
    rintro en v1 ⟨rfl, rfl⟩
    go_wp2_with fail
    refine (HD.out _).mono ?_
    rintro en v1 ⟨rfl, rfl⟩
    have HA2 := Lib.hid (show Calls Tryz.prog 73 #[.pointer (some ⟨g, 0, none⟩), .agg #[.int .i64 4, .string ⟨(cut r 0 1).toArray⟩, .int .i64 0, .bool false, .slice none 0 0], .int .i64 ((a : Int) + 2)] U.drew (Out U.drew g ⟨s, pl, op, lv, opn⟩ (.ok (WP.add (.mk 4 (cut s (a + 1) (a + 2)) 0 false []) (a + 2) ⟨a, dep, tb, lp⟩))) from by rw [HC1.out]; exact HA.out 4 (cut s (a + 1) (a + 2)) (a + 2) _ HUU.out.drew)
    go_wp2_with fail
    refine wp_region_still_tail 9 (by kernel_rfl) (by kernel_rfl) ?_
    simp only [List.take_succ_cons, List.take_zero, List.drop_succ_cons, List.drop_zero]
    repeat still_step
    refine wpStill_nil ?_
    change wpList _ _ _ _ _ U.drew
    go_wp2_with fail
    refine HA2.out.mono ?_
    rintro en Y2 ⟨rfl, hs, hf⟩
    go_wp2
    first | go_end0 | refine bodyPost_ret (results_none rfl _ _ _) rfl ?_
    exact ⟨rfl, hs, (Fr.of_below HUU.out.drew HLT.out).trans hf⟩
  | false =>
    rw [if_neg (fun e => by cases e.2)]
    rw [hd] at HD
    clear hd
    have hp1 := WP.parameter_ge s (a + 1)
    have hp2 := WP.parameter_le (s := s) (i := a + 1) (by omega)
    obtain ⟨e, he⟩ : ∃ e, WP.parameter s (a + 1) = e := ⟨_, rfl⟩
    rw [he] at HPM HNM hp1 hp2 ⊢
    clear he
    have HPM2 := Lib.hid (fun (V : World) (hV : Below W.heap.size W V) => show Calls Tryz.prog 78 #[.pointer (some ⟨g, 0, none⟩), .int .i64 ((a : Int) + 1)] V fun en w' => en = .returned (.int .i64 e) ∧ V = w' from HPM.out V hV)
    have HNM2 := Lib.hid (fun (V : World) (hV : Below W.heap.size W V) => show Calls Tryz.prog 79 #[.pointer (some ⟨g, 0, none⟩), .int .i64 ((a : Int) + 1), .int .i64 e, .int .i64 a] V (NameOut V (WP.tooLong s (a + 1) e) a) from HNM.out V hV hlt)
    clear HPM HNM
    by_cases hae : a + 1 < e
    · rw [if_pos hae]
      have t1 : (((a : Int) + 1) < (e : Int)) = True := eq_true (by omega)
      have t2 : ((a : Int) + 1 ≤ (e : Int)) = True := eq_true (by omega)
      have t3 : ((e : Int) ≤ (s.length : Int)) = True := eq_true (by omega)
      have t4 : (0 : Int) ≤ (e : Int) := by omega
      cases htl : WP.tooLong s (a + 1) e with
      | true =>
        rw [if_pos rfl]
        rw [htl] at HNM2
        clear htl hae
        go_enter Tryz.func61, Tryz.ntmps61
        go_wp2_with fail
        go_quiet (fail)
        rw [cut_end, HRR.out]
        have HUU := Lib.hid (bdN HUE.out nq)
        generalize W.drewN nq = U at HUU ⊢
        clear c0 c1 c2 c3 c4 c5 c6 c7 c8
        obtain ⟨c0, c1, c2, c3, c4, c5, c6, c7, c8⟩ := (HB.out.kept (HUU.out.block g HLT.out)).cells
        go_wp2_with fail
        refine (HP40.out _).mono ?_
        rintro en v1 ⟨rfl, rfl⟩
        go_wp2_with fail
        refine (HP4.out _).mono ?_
        rintro en v1 ⟨rfl, rfl⟩
        go_wp2_with fail
        refine (HP1.out _).mono ?_
        rintro en v1 ⟨rfl, rfl⟩
        go_wp2_with fail
        refine (HD.out _).mono ?_
        rintro en v1 ⟨rfl, rfl⟩
        go_wp2_with fail
        refine (HPM2.out _ HUU.out).mono ?_
        rintro en v1 ⟨rfl, rfl⟩
        go_wp2_with fail
        go_region_dies
        all_goals
          refine (HNM2.out _ HUU.out.drew).mono ?_
          rintro en Y ⟨rfl, rfl⟩
          exact ⟨rfl, rfl, HUU.out.drew.mono (Nat.le_of_lt HLT.out)⟩
      | false =>
        rw [if_neg (by simp)]
        rw [htl] at HNM2
        clear htl hae
        have HNM3 := Lib.hid (fun (V : World) (hV : Below W.heap.size W V) => show Calls Tryz.prog 79 #[.pointer (some ⟨g, 0, none⟩), .int .i64 ((a : Int) + 1), .int .i64 e, .int .i64 a] V fun en w' => en = .returned (.tuple #[]) ∧ w' = V from (HNM2.out V hV).mono fun en w' ⟨x1, x2⟩ => ⟨x1, x2.symm⟩)
        go_enter Tryz.func61, Tryz.ntmps61
        go_wp2_with fail
        go_quiet (fail)
        rw [cut_end, HRR.out]
        have HUU := Lib.hid (bdN HUE.out nq)
        generalize W.drewN nq = U at HUU ⊢
        clear c0 c1 c2 c3 c4 c5 c6 c7 c8
        obtain ⟨c0, c1, c2, c3, c4, c5, c6, c7, c8⟩ := (HB.out.kept (HUU.out.block g HLT.out)).cells
        go_wp2_with fail
        refine (HP40.out _).mono ?_
        rintro en v1 ⟨rfl, rfl⟩
        go_wp2_with fail
        refine (HP4.out _).mono ?_
        rintro en v1 ⟨rfl, rfl⟩
        go_wp2_with fail
        refine (HP1.out _).mono ?_
        rintro en v1 ⟨rfl, rfl⟩
        go_wp2_with fail
        refine (HD.out _).mono ?_
        rintro en v1 ⟨rfl, rfl⟩
        go_wp2_with fail
        refine (HPM2.out _ HUU.out).mono ?_
        rintro en v1 ⟨rfl, rfl⟩
        go_wp2_with fail
        have HNQ := Lib.hid (fun q => HNM3.out (U.drewN q) (bdN HUU.out q))
        go_quiet ((go_at_call 79; exact Calls.quiet_of_same (HNQ.out _)))
        have HUX := Lib.hid (bdN HUU.out nq)
        generalize U.drewN nq = X at HUX ⊢
        clear c0 c1 c2 c3 c4 c5 c6 c7 c8
        obtain ⟨c0, c1, c2, c3, c4, c5, c6, c7, c8⟩ := (HB.out.kept (HUX.out.block g HLT.out)).cells
        have HA2 := Lib.hid (show Calls Tryz.prog 73 #[.pointer (some ⟨g, 0, none⟩), .agg #[.int .i64 4, .string ⟨(cut s (a + 1) e).toArray⟩, .int .i64 0, .bool false, .slice none 0 0], .int .i64 e] X.drew (Out X.drew g ⟨s, pl, op, lv, opn⟩ (.ok (WP.add (.mk 4 (cut s (a + 1) e) 0 false []) e ⟨a, dep, tb, lp⟩))) from HA.out 4 (cut s (a + 1) e) e _ HUX.out.drew)
        go_wp2_with fail
        refine wp_region_still_tail 14 (by kernel_rfl) (by kernel_rfl) ?_
        simp only [List.take_succ_cons, List.take_zero, List.drop_succ_cons, List.drop_zero]
        repeat still_step
        refine wpStill_nil ?_
        change wpList _ _ _ _ _ X.drew
        go_wp2_with fail
        refine HA2.out.mono ?_
        rintro en Y2 ⟨rfl, hs, hf⟩
        go_wp2
        first | go_end0 | refine bodyPost_ret (results_none rfl _ _ _) rfl ?_
        exact ⟨rfl, hs, (Fr.of_below HUX.out.drew HLT.out).trans hf⟩
    · rw [if_neg hae]
      have t1 : (((a : Int) + 1) < (e : Int)) = False := eq_false (by omega)
      clear HNM2 hae
      have hcase : (pl = 0 ∧ Lib.hasPrefix r [96] = true) ∨ (pl = 0 ∧ Lib.hasPrefix r [96] = false ∧ Lib.hasPrefix r [92, 10] = true) ∨ (pl = 0 ∧ Lib.hasPrefix r [96] = false ∧ Lib.hasPrefix r [92, 10] = false) ∨ ¬ pl = 0 := by
        by_cases h : pl = 0
        · cases h1 : Lib.hasPrefix r [96]
          · cases h2 : Lib.hasPrefix r [92, 10]
            · exact .inr (.inr (.inl ⟨h, rfl, rfl⟩))
            · exact .inr (.inl ⟨h, rfl, rfl⟩)
          · exact .inl ⟨h, rfl⟩
        · exact .inr (.inr (.inr h))
      rcases hcase with ⟨rfl, h1⟩ | ⟨rfl, h1, h2⟩ | ⟨rfl, h1, h2⟩ | hp0
      · rw [if_pos ⟨rfl, .inl h1⟩]
        rw [h1] at HPB
        clear h1
        go_enter Tryz.func61, Tryz.ntmps61
        go_wp2_with fail
        go_quiet (fail)
        rw [cut_end, HRR.out]
        have HUU := Lib.hid (bdN HUE.out nq)
        generalize W.drewN nq = U at HUU ⊢
        clear c0 c1 c2 c3 c4 c5 c6 c7 c8
        obtain ⟨c0, c1, c2, c3, c4, c5, c6, c7, c8⟩ := (HB.out.kept (HUU.out.block g HLT.out)).cells
        go_wp2_with fail
        refine (HP40.out _).mono ?_
        rintro en v1 ⟨rfl, rfl⟩
        go_wp2_with fail
        refine (HP4.out _).mono ?_
        rintro en v1 ⟨rfl, rfl⟩
        go_wp2_with fail
        refine (HP1.out _).mono ?_
        rintro en v1 ⟨rfl, rfl⟩
        go_wp2_with fail
        refine (HD.out _).mono ?_
        rintro en v1 ⟨rfl, rfl⟩
        go_wp2_with fail
        refine (HPM2.out _ HUU.out).mono ?_
        rintro en v1 ⟨rfl, rfl⟩
        go_wp2_with fail
        refine (HPB.out _).mono ?_
        rintro en v1 ⟨rfl, rfl⟩
        go_wp2_with fail
        refine (hF.out _ _ _).mono ?_
        rintro en Y ⟨rfl, rfl⟩
        exact ⟨rfl, rfl, HUU.out.mono (Nat.le_of_lt HLT.out)⟩
      · rw [if_pos ⟨rfl, .inr h2⟩]
        rw [h1] at HPB
        rw [h2] at HPN
        clear h1 h2
        go_enter Tryz.func61, Tryz.ntmps61
        go_wp2_with fail
        go_quiet (fail)
        rw [cut_end, HRR.out]
        have HUU := Lib.hid (bdN HUE.out nq)
        generalize W.drewN nq = U at HUU ⊢
        clear c0 c1 c2 c3 c4 c5 c6 c7 c8
        obtain ⟨c0, c1, c2, c3, c4, c5, c6, c7, c8⟩ := (HB.out.kept (HUU.out.block g HLT.out)).cells
        go_wp2_with fail
        refine (HP40.out _).mono ?_
        rintro en v1 ⟨rfl, rfl⟩
        go_wp2_with fail
        refine (HP4.out _).mono ?_
        rintro en v1 ⟨rfl, rfl⟩
        go_wp2_with fail
        refine (HP1.out _).mono ?_
        rintro en v1 ⟨rfl, rfl⟩
        go_wp2_with fail
        refine (HD.out _).mono ?_
        rintro en v1 ⟨rfl, rfl⟩
        go_wp2_with fail
        refine (HPM2.out _ HUU.out).mono ?_
        rintro en v1 ⟨rfl, rfl⟩
        go_wp2_with fail
        refine (HPB.out _).mono ?_
        rintro en v1 ⟨rfl, rfl⟩
        go_wp2_with fail
        refine (HPN.out _).mono ?_
        rintro en v1 ⟨rfl, rfl⟩
        go_wp2_with fail
        refine (hF.out _ _ _).mono ?_
        rintro en Y ⟨rfl, rfl⟩
        exact ⟨rfl, rfl, HUU.out.mono (Nat.le_of_lt HLT.out)⟩
      · rw [if_neg (by rintro ⟨_, h | h⟩; rw [h1] at h; cases h; rw [h2] at h; cases h)]
        rw [h1] at HPB
        rw [h2] at HPN
        clear h1 h2
        go_enter Tryz.func61, Tryz.ntmps61
        go_wp2_with fail
        go_quiet (fail)
        rw [cut_end, HRR.out]
        have HUU := Lib.hid (bdN HUE.out nq)
        generalize W.drewN nq = U at HUU ⊢
        clear c0 c1 c2 c3 c4 c5 c6 c7 c8
        obtain ⟨c0, c1, c2, c3, c4, c5, c6, c7, c8⟩ := (HB.out.kept (HUU.out.block g HLT.out)).cells
        go_wp2_with fail
        refine (HP40.out _).mono ?_
        rintro en v1 ⟨rfl, rfl⟩
        go_wp2_with fail
        refine (HP4.out _).mono ?_
        rintro en v1 ⟨rfl, rfl⟩
        go_wp2_with fail
        refine (HP1.out _).mono ?_
        rintro en v1 ⟨rfl, rfl⟩
        go_wp2_with fail
        refine (HD.out _).mono ?_
        rintro en v1 ⟨rfl, rfl⟩
        go_wp2_with fail
        refine (HPM2.out _ HUU.out).mono ?_
        rintro en v1 ⟨rfl, rfl⟩
        go_wp2_with fail
        refine (HPB.out _).mono ?_
        rintro en v1 ⟨rfl, rfl⟩
        go_wp2_with fail
        refine (HPN.out _).mono ?_
        rintro en v1 ⟨rfl, rfl⟩
        go_wp2_with fail
        refine (HL.out 36 1 _ HUU.out (by decide)).mono ?_
        rintro en Y2 ⟨rfl, hs, hf⟩
        go_wp2
        first | go_end0 | refine bodyPost_ret (results_none rfl _ _ _) rfl ?_
        exact ⟨rfl, hs, (Fr.of_below HUU.out HLT.out).trans hf⟩
      · rw [if_neg (fun e => hp0 e.1)]
        have p0 : ((pl : Int) == 0) = false := by rw [beq_eq_false_iff_ne]; omega
        go_enter Tryz.func61, Tryz.ntmps61
        go_wp2_with fail
        go_quiet (fail)
        rw [cut_end, HRR.out]
        have HUU := Lib.hid (bdN HUE.out nq)
        generalize W.drewN nq = U at HUU ⊢
        clear c0 c1 c2 c3 c4 c5 c6 c7 c8
        obtain ⟨c0, c1, c2, c3, c4, c5, c6, c7, c8⟩ := (HB.out.kept (HUU.out.block g HLT.out)).cells
        go_wp2_with fail
        refine (HP40.out _).mono ?_
        rintro en v1 ⟨rfl, rfl⟩
        go_wp2_with fail
        refine (HP4.out _).mono ?_
        rintro en v1 ⟨rfl, rfl⟩
        go_wp2_with fail
        refine (HP1.out _).mono ?_
        rintro en v1 ⟨rfl, rfl⟩
        go_wp2_with fail
        refine (HD.out _).mono ?_
        rintro en v1 ⟨rfl, rfl⟩
        go_wp2_with fail
        refine (HPM2.out _ HUU.out).mono ?_
        rintro en v1 ⟨rfl, rfl⟩
        go_wp2_with fail
        refine (HL.out 36 1 _ HUU.out (by decide)).mono ?_
        rintro en Y2 ⟨rfl, hs, hf⟩
        go_wp2
        first | go_end0 | refine bodyPost_ret (results_none rfl _ _ _) rfl ?_
        exact ⟨rfl, hs, (Fr.of_below HUU.out HLT.out).trans hf⟩
theorem dollar_any {N : WP.Nest} (hN : NestC c.s (st.a + 1) N) (hBR : BracedC c.s st.a N) (hgn : WP.GoodN c.s N) (h : ScP W g c st) (hi : WP.Inv c st) (ha : st.a < c.s.length) (hb36 : bt c.s st.a = 36) (hl : c.s.length ≤ 20000) (hlv : c.lv ≤ 32) :
    Calls Tryz.prog 61 #[.pointer (some ⟨g, 0, none⟩)] W (Out W g c (WP.dollar N c st)) := by
  by_cases h1 : Lib.hasPrefix (c.s.drop (st.a + 1)) [40, 40] = true
  · exact dollar_open hN hBR hgn h hi ha hb36 hl hlv (.inl h1)
  by_cases h2 : Lib.hasPrefix (c.s.drop (st.a + 1)) [40] = true
  · exact dollar_open hN hBR hgn h hi ha hb36 hl hlv (.inr (.inl h2))
  by_cases h3 : Lib.hasPrefix (c.s.drop (st.a + 1)) [123] = true
  · exact dollar_open hN hBR hgn h hi ha hb36 hl hlv (.inr (.inr h3))
  exact dollar_rest h hi ha hl (by simpa using h1) (by simpa using h2) (by simpa using h3)
end
end W
end Go.Proofs.YtmgomklpjjkehaaGreat
