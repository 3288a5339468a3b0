/- Words: backslash. -/
import Derived.Test.YtmgomklpjjkehaaGreatW08f
import Derived.Test.YtmgomklpjjkehaaGreatP08b
namespace Go.Proofs.YtmgomklpjjkehaaGreat
open Go.RowKit K
namespace W
/-- What a step of the parser gives: a state, or an error that ends the parser. -/
def Out (W : World) (g : Nat) (c : WP.Ctx) : Except WP.Flt WP.St → Ending → World → Prop
  | .ok st', e, W' => e = .returned (.tuple #[]) ∧ ScP W' g c st' ∧ Fr g W W'
  | .error f, e, W' => e = .panicked (faultP f) ∧ Below g W W'
theorem ScP.setAt {V : World} {g : Nat} {c : WP.Ctx} {st : WP.St} (h : ScP V g c st) (m : Nat) : ScP (V.setCell ⟨g, 1, none⟩ (.int .i64 m)) g c { st with a := m } ∧ Fr g V (V.setCell ⟨g, 1, none⟩ (.int .i64 m)) := by
  obtain ⟨lc, h1, h2⟩ := h
  obtain ⟨tx, ls, hb, ht, hl⟩ := h1
  have hb' := hb.setAt (m : Int) m rfl
  have hf : Fr g V (V.setCell ⟨g, 1, none⟩ (.int .i64 m)) := Fr.mk' hb hb' ((Below.refl g V).setCell (by simp) _) (fun k _ h2 _ _ => Below.heap_setCell V _ _ k (by dsimp only; exact h2)) (fun r hr => .inl hr) (fun r hr => .inl hr)
  exact ⟨⟨lc, ⟨tx, ls, hb', row_set ht (by simp) _, row_set hl (by simp) _⟩, h2.fr hf⟩, hf⟩
section
variable {W : World} {g : Nat} {c : WP.Ctx} {st : WP.St}
/-- add at a part without parts. -/
theorem add0 (k : Nat) (t : List UInt8) (o : Nat) (b : Bool) (m : Nat) (h : ScP W g c st) (hn : st.ls.length ≤ 90000) :
    Calls Tryz.prog 73 #[.pointer (some ⟨g, 0, none⟩), .agg #[.int .i64 k, .string ⟨t.toArray⟩, .int .i64 o, .bool b, .slice none 0 0], .int .i64 m] W (Out W g c (.ok (WP.add (.mk k t o b []) m st))) :=
  add_any (ps := []) k t o b none 0 m h hn (by rw [PRep]; exact ⟨none, 0, rfl, .inl rfl⟩)
theorem lit_any (b : UInt8) (m : Nat) (h : ScP W g c st) (hl : st.tx.length ≤ 100000) (ha : st.a ≤ 100000) (hm : m ≤ 10) :
    Calls Tryz.prog 64 #[.pointer (some ⟨g, 0, none⟩), .int .u8 b.toNat, .int .i64 m] W (Out W g c (.ok (WP.lit b m st))) := literal_any b m h hl ha hm
theorem ScP.box {W : World} {g : Nat} {c : WP.Ctx} {st : WP.St} (h : ScP W g c st) : ∃ tx ls, SB W g c.s st.a c.pl c.op c.lv c.opn st.dep tx ls := by obtain ⟨lc, ⟨tx, ls, hb, -, -⟩, -⟩ := h; exact ⟨tx, ls, hb⟩
set_option maxRecDepth 100000 in
set_option maxHeartbeats 8000000 in
theorem backslash_any (h : ScP W g c st) (hi : WP.Inv c st) (ha : st.a < c.s.length) (hl : c.s.length ≤ 20000) : Calls Tryz.prog 60 #[.pointer (some ⟨g, 0, none⟩)] W (Out W g c (WP.backslash c st)) := by
  have HS := Lib.hid h
  have HLT := Lib.hid h.lt
  have hsum := hi.sum
  have HUD := Lib.hid (fun n => bdN (Below.refl W.heap.size W) n)
  have HUE := Lib.hid (Below.refl W.heap.size W)
  have hF := Lib.hid (fun (x y : Int) (V : World) => fail_any x y V)
  have HL := Lib.hid (fun (b : UInt8) (m : Nat) (V : World) (hV : Below W.heap.size W V) (hm : m ≤ 10) => lit_any (W := V) b m (HS.out.below hV) (by omega) (by omega) hm)
  have HA := Lib.hid (fun (t : List UInt8) (m : Nat) (V : World) (hV : Below W.heap.size W V) => add0 (W := V) 2 t 0 false m (HS.out.below hV) (by omega))
  obtain ⟨tx, ls, hb⟩ := h.box
  have HB := Lib.hid hb
  clear h
  have HR := Lib.hid (show WP.backslash c st = if st.a + 1 = c.s.length then (if c.pl = 3 ∧ c.op = false then .ok (WP.lit 92 1 st) else .error (st.a, 7))
    else if bt c.s (st.a + 1) = 10 then .ok { st with a := st.a + 2 }
    else if c.pl = 0 then .ok (WP.add (.mk 2 (cut c.s (st.a + 1) (st.a + 2)) 0 false []) (st.a + 2) st)
    else if WP.escapes c.pl (bt c.s (st.a + 1)) c.op = true then .ok (WP.lit (by8 (bt c.s (st.a + 1))) 2 st)
    else if c.pl = 2 ∧ c.op = false ∧ (bt c.s (st.a + 1) = 40 ∨ bt c.s (st.a + 1) = 41) then .error (st.a, 6)
    else .ok (WP.lit (by8 (bt c.s (st.a + 1))) 1 (WP.lit 92 1 st)) from rfl)
  obtain ⟨s, pl, op, lv, opn⟩ := c
  obtain ⟨a, dep, tb, lp⟩ := st
  dsimp only at HS HL HA HB HR ha hl hsum ⊢
  obtain ⟨c0, c1, c2, c3, c4, c5, c6, c7, c8⟩ := HB.out.cells
  clear hb
  have w1 : IntKind.i64.wrap ((a : Int) + 1) = (a : Int) + 1 := IntWalk.i64_in _ (by omega)
  have a0 : (0 : Int) ≤ (a : Int) := by omega
  have a4 : (0 : Int) ≤ (a : Int) + 1 := by omega
  have a2 : ((a : Int) + 1).toNat = a + 1 := by omega
  by_cases hend : a + 1 = s.length
  · have e1 : ((a : Int) + 1 == (s.length : Int)) = true := by rw [beq_iff_eq]; omega
    by_cases h3 : pl = 3 ∧ op = false
    · obtain ⟨rfl, rfl⟩ := h3
      rw [show WP.backslash _ _ = _ from HR.out, if_pos hend, if_pos ⟨rfl, rfl⟩]
      clear hend HR
      go_enter Tryz.func60, Tryz.ntmps60
      go_wp2_with fail
      go_quiet (fail)
      go_wp2_with fail
      refine (HL.out 92 1 _ (HUD.out _) (by decide)).mono ?_
      rintro e Y ⟨rfl, hs, hf⟩
      go_wp2
      first | go_end0 | refine bodyPost_ret (results_none rfl _ _ _) rfl ?_
      exact ⟨rfl, hs, (Fr.of_below (HUD.out _) HLT.out).trans hf⟩
    · rw [show WP.backslash _ _ = _ from HR.out, if_pos hend, if_neg h3]
      have h3' : ¬ pl = 3 ∨ (pl = 3 ∧ op = true) := by
        by_cases hp : pl = 3
        · exact .inr ⟨hp, by cases op; exact absurd ⟨hp, rfl⟩ h3; rfl⟩
        · exact .inl hp
      clear hend HR h3
      rcases h3' with h3 | ⟨rfl, rfl⟩
      · have p3 : ((pl : Int) != 3) = true := by rw [bne_iff_ne]; omega
        go_enter Tryz.func60, Tryz.ntmps60
        go_wp2_with fail
        go_quiet (fail)
        go_wp2_with fail
        refine (hF.out _ _ _).mono ?_
        rintro e Y ⟨rfl, rfl⟩
        exact ⟨rfl, rfl, (HUD.out _).mono (Nat.le_of_lt HLT.out)⟩
      · go_enter Tryz.func60, Tryz.ntmps60
        go_wp2_with fail
        go_quiet (fail)
        go_wp2_with fail
        refine (hF.out _ _ _).mono ?_
        rintro e Y ⟨rfl, rfl⟩
        exact ⟨rfl, rfl, (HUD.out _).mono (Nat.le_of_lt HLT.out)⟩
  have hlt : a + 1 < s.length := by omega
  have e1 : ((a : Int) + 1 == (s.length : Int)) = false := by rw [beq_eq_false_iff_ne]; omega
  have e2 : ((a : Int) + 1 < (s.length : Int)) = True := eq_true (by omega)
  obtain ⟨b, hbb⟩ : ∃ b, bt s (a + 1) = b := ⟨_, rfl⟩
  have hb0 := bt_nonneg s (a + 1)
  have hb1 := bt_le s (a + 1)
  rw [hbb] at HR hb0 hb1
  have HBY := Lib.hid (by8_toNat b hb0 hb1)
  rw [show WP.backslash _ _ = _ from HR.out, if_neg hend]
  clear HR hend
  by_cases h10 : b = 10
  · rw [if_pos h10]
    subst h10
    have f1 := HB.out.thaw 1
    go_enter Tryz.func60, Tryz.ntmps60
    go_wp2_with fail
    go_quiet (fail)
    go_wp2_with fail
    go_quiet (fail)
    go_wp2
    first | go_end0 | refine bodyPost_ret (results_none rfl _ _ _) rfl ?_
    exact ⟨rfl, ((HS.out.below (HUD.out _)).setAt (a + 2)).1, (Fr.of_below (HUD.out _) HLT.out).trans ((HS.out.below (HUD.out _)).setAt (a + 2)).2⟩
  rw [if_neg h10]
  have e10 := beq_f h10
  have a5 : ((a : Int) + 1 ≤ (a : Int) + 2) = True := eq_true (by omega)
  have a6 : ((a : Int) + 2 ≤ (s.length : Int)) = True := eq_true (by omega)
  have a7 : ((a : Int) + 2).toNat = a + 2 := by omega
  have a8 : (0 : Int) ≤ (a : Int) + 2 := by omega
  have w2 : IntKind.i64.wrap ((a : Int) + 2) = (a : Int) + 2 := IntWalk.i64_in _ (by omega)
  by_cases hp0 : pl = 0
  · rw [if_pos hp0]
    subst hp0
    go_enter Tryz.func60, Tryz.ntmps60
    go_wp2_with fail
    go_quiet (fail)
    have HUU := Lib.hid (bdN HUE.out nq)
    generalize W.drewN nq = U at HUU ⊢
    clear c0 c1 c2 c3 c4 c5 c6 c7 c8
    obtain ⟨c0, c1, c2, c3, c4, c5, c6, c7, c8⟩ := (HB.out.kept (HUU.out.block g HLT.out)).cells
    go_wp2_with fail
    go_quiet (fail)
    have HUV := Lib.hid (bdN HUU.out nq)
    generalize U.drewN nq = V at HUV ⊢
    clear c0 c1 c2 c3 c4 c5 c6 c7 c8
    obtain ⟨c0, c1, c2, c3, c4, c5, c6, c7, c8⟩ := (HB.out.kept (HUV.out.block g HLT.out)).cells
    have HA2 := Lib.hid (show Calls Tryz.prog 73 #[.pointer (some ⟨g, 0, none⟩), .agg #[.int .i64 2, .string ⟨(cut s (a + 1) (a + 2)).toArray⟩, .int .i64 0, .bool false, .slice none 0 0], .int .i64 ((a : Int) + 2)] V.drew (Out V.drew g _ _) from HA.out (cut s (a + 1) (a + 2)) (a + 2) _ HUV.out.drew)
    go_wp2_with fail
    refine wp_region_still_tail 22 (by kernel_rfl) (by kernel_rfl) ?_
    simp only [List.take_succ_cons, List.take_zero, List.drop_succ_cons, List.drop_zero]
    repeat still_step
    refine wpStill_nil ?_
    change wpList _ _ _ _ _ V.drew
    go_wp2_with fail
    refine HA2.out.mono ?_
    rintro e Y ⟨rfl, hs, hf⟩
    go_wp2
    first | go_end0 | refine bodyPost_ret (results_none rfl _ _ _) rfl ?_
    exact ⟨rfl, hs, (Fr.of_below HUV.out.drew HLT.out).trans hf⟩
  rw [if_neg hp0]
  have p0 : ((pl : Int) == 0) = false := by rw [beq_eq_false_iff_ne]; omega
  have HES := Lib.hid (fun V => escapes_any pl b op V)
  cases hes : WP.escapes pl b op with
  | true =>
    rw [if_pos rfl]
    rw [hes] at HES
    clear hes
    go_enter Tryz.func60, Tryz.ntmps60
    go_wp2_with fail
    go_quiet (fail)
    have HUU := Lib.hid (bdN HUE.out nq)
    generalize W.drewN nq = U at HUU ⊢
    clear c0 c1 c2 c3 c4 c5 c6 c7 c8
    obtain ⟨c0, c1, c2, c3, c4, c5, c6, c7, c8⟩ := (HB.out.kept (HUU.out.block g HLT.out)).cells
    go_wp2_with fail
    go_quiet (fail)
    have HUV := Lib.hid (bdN HUU.out nq)
    generalize U.drewN nq = V at HUV ⊢
    clear c0 c1 c2 c3 c4 c5 c6 c7 c8
    obtain ⟨c0, c1, c2, c3, c4, c5, c6, c7, c8⟩ := (HB.out.kept (HUV.out.block g HLT.out)).cells
    go_wp2_with fail
    go_quiet ((go_at_call 50; exact Calls.quiet_of_same ((HES.out _).mono fun _ _ ⟨x1, x2⟩ => ⟨x1, x2.symm⟩)))
    have HUX := Lib.hid (bdN HUV.out nq)
    generalize V.drewN nq = X at HUX ⊢
    have HL2 := HL.out (by8 b) 2 X HUX.out (by decide)
    rw [HBY.out] at HL2
    replace HL2 := Lib.hid HL2
    go_wp2_with fail
    refine HL2.out.mono ?_
    rintro e Y ⟨rfl, hs, hf⟩
    go_wp2
    first | go_end0 | refine bodyPost_ret (results_none rfl _ _ _) rfl ?_
    exact ⟨rfl, hs, (Fr.of_below HUX.out HLT.out).trans hf⟩
  | false =>
    rw [if_neg (by simp)]
    rw [hes] at HES
    clear hes
    by_cases hp2 : pl = 2 ∧ op = false ∧ (b = 40 ∨ b = 41)
    · rw [if_pos hp2]
      obtain ⟨rfl, rfl, hb4⟩ := hp2
      rcases hb4 with rfl | rfl
      all_goals
        go_enter Tryz.func60, Tryz.ntmps60
        go_wp2_with fail
        go_quiet (fail)
        have HUU := Lib.hid (bdN HUE.out nq)
        generalize W.drewN nq = U at HUU ⊢
        clear c0 c1 c2 c3 c4 c5 c6 c7 c8
        obtain ⟨c0, c1, c2, c3, c4, c5, c6, c7, c8⟩ := (HB.out.kept (HUU.out.block g HLT.out)).cells
        go_wp2_with fail
        go_quiet (fail)
        have HUV := Lib.hid (bdN HUU.out nq)
        generalize U.drewN nq = V at HUV ⊢
        clear c0 c1 c2 c3 c4 c5 c6 c7 c8
        obtain ⟨c0, c1, c2, c3, c4, c5, c6, c7, c8⟩ := (HB.out.kept (HUV.out.block g HLT.out)).cells
        go_wp2_with fail
        go_quiet ((go_at_call 50; exact Calls.quiet_of_same ((HES.out _).mono fun _ _ ⟨x1, x2⟩ => ⟨x1, x2.symm⟩)))
        have HUX := Lib.hid (bdN HUV.out nq)
        generalize V.drewN nq = X at HUX ⊢
        clear c0 c1 c2 c3 c4 c5 c6 c7 c8
        obtain ⟨c0, c1, c2, c3, c4, c5, c6, c7, c8⟩ := (HB.out.kept (HUX.out.block g HLT.out)).cells
        go_wp2_with fail
        refine (hF.out _ _ _).mono ?_
        rintro e Y ⟨rfl, rfl⟩
        exact ⟨rfl, rfl, HUX.out.mono (Nat.le_of_lt HLT.out)⟩
    · rw [if_neg hp2]
      have hcase : ¬ pl = 2 ∨ (pl = 2 ∧ op = true) ∨ (pl = 2 ∧ op = false ∧ ¬ b = 40 ∧ ¬ b = 41) := by
        by_cases h1 : pl = 2
        · cases op
          · exact .inr (.inr ⟨h1, rfl, fun e => hp2 ⟨h1, rfl, .inl e⟩, fun e => hp2 ⟨h1, rfl, .inr e⟩⟩)
          · exact .inr (.inl ⟨h1, rfl⟩)
        · exact .inl h1
      clear hp2
      rcases hcase with hn2 | ⟨rfl, rfl⟩ | ⟨rfl, rfl, h40, h41⟩
      all_goals
        (try have p2 : ((pl : Int) == 2) = false := by rw [beq_eq_false_iff_ne]; omega)
        (try have e40 := beq_f h40)
        (try have e41 := beq_f h41)
        go_enter Tryz.func60, Tryz.ntmps60
        go_wp2_with fail
        go_quiet (fail)
        have HUU := Lib.hid (bdN HUE.out nq)
        generalize W.drewN nq = U at HUU ⊢
        clear c0 c1 c2 c3 c4 c5 c6 c7 c8
        obtain ⟨c0, c1, c2, c3, c4, c5, c6, c7, c8⟩ := (HB.out.kept (HUU.out.block g HLT.out)).cells
        go_wp2_with fail
        go_quiet (fail)
        have HUV := Lib.hid (bdN HUU.out nq)
        generalize U.drewN nq = V at HUV ⊢
        clear c0 c1 c2 c3 c4 c5 c6 c7 c8
        obtain ⟨c0, c1, c2, c3, c4, c5, c6, c7, c8⟩ := (HB.out.kept (HUV.out.block g HLT.out)).cells
        go_wp2_with fail
        go_quiet ((go_at_call 50; exact Calls.quiet_of_same ((HES.out _).mono fun _ _ ⟨x1, x2⟩ => ⟨x1, x2.symm⟩)))
        have HUX := Lib.hid (bdN HUV.out nq)
        generalize V.drewN nq = X at HUX ⊢
        clear c0 c1 c2 c3 c4 c5 c6 c7 c8
        obtain ⟨c0, c1, c2, c3, c4, c5, c6, c7, c8⟩ := (HB.out.kept (HUX.out.block g HLT.out)).cells
        have HL1 := Lib.hid (HL.out 92 1 X HUX.out (by decide))
        go_wp2_with fail
        refine HL1.out.mono ?_
        rintro e Y ⟨rfl, hs, hf⟩
        have HFY := Lib.hid hf
        have HL2 := lit_any (W := Y) (by8 b) 1 hs (by show (tb ++ [_]).length ≤ 100000; simp; omega) (by show a + 1 ≤ 100000; omega) (by decide)
        rw [HBY.out] at HL2
        replace HL2 := Lib.hid HL2
        clear hs hf
        go_wp2_with fail
        refine HL2.out.mono ?_
        rintro e Y2 ⟨rfl, hs, hf⟩
        go_wp2
        first | go_end0 | refine bodyPost_ret (results_none rfl _ _ _) rfl ?_
        exact ⟨rfl, hs, ((Fr.of_below HUX.out HLT.out).trans HFY.out).trans hf⟩
end
end W
end Go.Proofs.YtmgomklpjjkehaaGreat
