/- Words: next. -/
import Derived.Test.YtkceenmlhfkkhaaGreatDoorW08k
namespace Go.Proofs.YtkceenmlhfkkhaaGreatDoor
open Go.RowKit K
namespace W
theorem SB.setDep {W : World} {g a : Nat} {s : List UInt8} {pl : Int} {op : Bool} {lv opn dep : Int} {tx ls : Value} (h : SB W g s a pl op lv opn dep tx ls) (x : Int) : SB (W.setCell ⟨g, 6, none⟩ (.int .i64 x)) g s a pl op lv opn x tx ls := by
  have := heap_setCell_same W g 6 _ _ (.int .i64 x) h
  unfold SB; rw [this]; simp
theorem ScP.setDep {V : World} {g : Nat} {c : WP.Ctx} {st : WP.St} (h : ScP V g c st) (m : Nat) : ScP (V.setCell ⟨g, 6, none⟩ (.int .i64 m)) g c { st with dep := m } ∧ Fr g V (V.setCell ⟨g, 6, none⟩ (.int .i64 m)) := by
  obtain ⟨lc, h1, h2⟩ := h
  obtain ⟨tx, ls, hb, ht, hl⟩ := h1
  have hb' := hb.setDep (m : Int)
  have hf : Fr g V (V.setCell ⟨g, 6, none⟩ (.int .i64 m)) := Fr.mk' hb hb' ((Below.refl g V).setCell (by simp) _) (fun k _ h2 _ _ => Below.heap_setCell V _ _ k (by dsimp only; exact h2)) (fun r hr => .inl hr) (fun r hr => .inl hr)
  exact ⟨⟨lc, ⟨tx, ls, hb', row_set ht (by simp) _, row_set hl (by simp) _⟩, h2.fr hf⟩, hf⟩
section
variable {W : World} {g : Nat} {c : WP.Ctx} {st : WP.St}
set_option maxRecDepth 100000 in
set_option maxHeartbeats 8000000 in
theorem next_any {N : WP.Nest} (hN : NestC c.s (st.a + 1) N) (hBR : BracedC c.s st.a N) (hgn : WP.GoodN c.s N) (h : ScP W g c st) (hi : WP.Inv c st) (ha : st.a < c.s.length) (hd : c.pl = 2 → c.op = false → bt c.s st.a = 41 → 0 < st.dep) (hl : c.s.length ≤ 20000) (hlv : c.lv ≤ 32) :
    Calls Tryz.prog 50 #[.pointer (some ⟨g, 0, none⟩)] W (Out W g c (WP.next N c st)) := by
  have HS := Lib.hid h
  have HLT := Lib.hid h.lt
  have hsum := hi.sum
  have hdp := hi.dep
  have HI := Lib.hid hi
  have HA := Lib.hid ha
  have HUE := Lib.hid (Below.refl W.heap.size W)
  have hF := Lib.hid (fun (x y : Int) (V : World) => fail_any x y V)
  have HN := Lib.hid hN
  have HGN := Lib.hid hgn
  have HBR := Lib.hid hBR
  have HD := Lib.hid hd
  obtain ⟨tx, ls, hb⟩ := h.box
  have HB := Lib.hid hb
  have HR := Lib.hid (show WP.next N c st = if bt c.s st.a = 92 then WP.backslash c st
    else if bt c.s st.a = 36 then WP.dollar N c st
    else if bt c.s st.a = 96 then WP.backquoted c st
    else if c.pl = 0 then WP.unquoted N c st
    else if bt c.s st.a = 34 ∧ c.pl = 1 then .error (st.a, 6)
    else .ok (WP.lit (by8 (bt c.s st.a)) 1 { st with dep := WP.depth c st }) from rfl)
  clear h hi hN hgn hd hBR
  obtain ⟨s, pl, op, lv, opn⟩ := c
  obtain ⟨a, dep, tb, lp⟩ := st
  dsimp only at HS HB HR HI HN HGN HBR HD HA ha hl hsum hdp hlv ⊢
  obtain ⟨c0, c1, c2, c3, c4, c5, c6, c7, c8⟩ := HB.out.cells
  clear hb
  have a0 : (0 : Int) ≤ (a : Int) := by omega
  have a1 : ((a : Int) < (s.length : Int)) = True := eq_true (by omega)
  obtain ⟨b, hbb⟩ : ∃ b, bt s a = b := ⟨_, rfl⟩
  have HBB := Lib.hid hbb
  have hb0 := bt_nonneg s a
  have hb1 := bt_le s a
  rw [hbb] at HR HD hb0 hb1
  have HBY := Lib.hid (by8_toNat b hb0 hb1)
  rw [show WP.next N _ _ = _ from HR.out]
  clear HR
  by_cases h92 : b = 92
  · rw [if_pos h92]
    have HX := Lib.hid (fun (V : World) (hV : Below W.heap.size W V) => show Calls Tryz.prog 81 #[.pointer (some ⟨g, 0, none⟩)] V (Out V g ⟨s, pl, op, lv, opn⟩ (WP.backslash ⟨s, pl, op, lv, opn⟩ ⟨a, dep, tb, lp⟩)) from backslash_any (HS.out.below hV) HI.out HA.out hl)
    subst h92
    cases hr : WP.backslash ⟨s, pl, op, lv, opn⟩ ⟨a, dep, tb, lp⟩ with
    | error x =>
      rw [hr] at HX
      clear hr
      go_enter Tryz.func50, Tryz.ntmps50
      go_wp2_with fail
      go_quiet (fail)
      have HU := Lib.hid (bdN HUE.out nq)
      generalize W.drewN nq = U at HU ⊢
      clear c0 c1 c2 c3 c4 c5 c6 c7 c8
      obtain ⟨c0, c1, c2, c3, c4, c5, c6, c7, c8⟩ := (HB.out.kept (HU.out.block g HLT.out)).cells
      go_wp2_with fail
      refine (HX.out _ HU.out).mono ?_
      rintro e Y ⟨rfl, hb⟩
      exact ⟨rfl, rfl, (HU.out.mono (Nat.le_of_lt HLT.out)).trans hb⟩
    | ok st' =>
      rw [hr] at HX
      clear hr
      go_enter Tryz.func50, Tryz.ntmps50
      go_wp2_with fail
      go_quiet (fail)
      have HU := Lib.hid (bdN HUE.out nq)
      generalize W.drewN nq = U at HU ⊢
      clear c0 c1 c2 c3 c4 c5 c6 c7 c8
      obtain ⟨c0, c1, c2, c3, c4, c5, c6, c7, c8⟩ := (HB.out.kept (HU.out.block g HLT.out)).cells
      go_wp2_with fail
      refine (HX.out _ HU.out).mono ?_
      rintro e Y ⟨rfl, hs, hf⟩
      go_wp2
      go_end0
      exact ⟨rfl, hs, (Fr.of_below HU.out HLT.out).trans hf⟩
  rw [if_neg h92]
  by_cases h36 : b = 36
  · rw [if_pos h36]
    have HX := Lib.hid (fun (V : World) (hV : Below W.heap.size W V) => show Calls Tryz.prog 82 #[.pointer (some ⟨g, 0, none⟩)] V (Out V g ⟨s, pl, op, lv, opn⟩ (WP.dollar N ⟨s, pl, op, lv, opn⟩ ⟨a, dep, tb, lp⟩)) from dollar_any HN.out HBR.out HGN.out (HS.out.below hV) HI.out HA.out (HBB.out.trans h36) hl hlv)
    subst h36
    cases hr : WP.dollar N ⟨s, pl, op, lv, opn⟩ ⟨a, dep, tb, lp⟩ with
    | error x =>
      rw [hr] at HX
      clear hr
      go_enter Tryz.func50, Tryz.ntmps50
      go_wp2_with fail
      go_quiet (fail)
      have HU := Lib.hid (bdN HUE.out nq)
      generalize W.drewN nq = U at HU ⊢
      clear c0 c1 c2 c3 c4 c5 c6 c7 c8
      obtain ⟨c0, c1, c2, c3, c4, c5, c6, c7, c8⟩ := (HB.out.kept (HU.out.block g HLT.out)).cells
      go_wp2_with fail
      refine (HX.out _ HU.out).mono ?_
      rintro e Y ⟨rfl, hb⟩
      exact ⟨rfl, rfl, (HU.out.mono (Nat.le_of_lt HLT.out)).trans hb⟩
    | ok st' =>
      rw [hr] at HX
      clear hr
      go_enter Tryz.func50, Tryz.ntmps50
      go_wp2_with fail
      go_quiet (fail)
      have HU := Lib.hid (bdN HUE.out nq)
      generalize W.drewN nq = U at HU ⊢
      clear c0 c1 c2 c3 c4 c5 c6 c7 c8
      obtain ⟨c0, c1, c2, c3, c4, c5, c6, c7, c8⟩ := (HB.out.kept (HU.out.block g HLT.out)).cells
      go_wp2_with fail
      refine (HX.out _ HU.out).mono ?_
      rintro e Y ⟨rfl, hs, hf⟩
      go_wp2
      go_end0
      exact ⟨rfl, hs, (Fr.of_below HU.out HLT.out).trans hf⟩
  rw [if_neg h36]
  by_cases h96 : b = 96
  · rw [if_pos h96]
    have HX := Lib.hid (fun (V : World) (hV : Below W.heap.size W V) => show Calls Tryz.prog 83 #[.pointer (some ⟨g, 0, none⟩)] V (Out V g ⟨s, pl, op, lv, opn⟩ (WP.backquoted ⟨s, pl, op, lv, opn⟩ ⟨a, dep, tb, lp⟩)) from backquoted_any (HS.out.below hV) HI.out HA.out (HBB.out.trans h96) hl)
    subst h96
    cases hr : WP.backquoted ⟨s, pl, op, lv, opn⟩ ⟨a, dep, tb, lp⟩ with
    | error x =>
      rw [hr] at HX
      clear hr
      go_enter Tryz.func50, Tryz.ntmps50
      go_wp2_with fail
      go_quiet (fail)
      have HU := Lib.hid (bdN HUE.out nq)
      generalize W.drewN nq = U at HU ⊢
      clear c0 c1 c2 c3 c4 c5 c6 c7 c8
      obtain ⟨c0, c1, c2, c3, c4, c5, c6, c7, c8⟩ := (HB.out.kept (HU.out.block g HLT.out)).cells
      go_wp2_with fail
      refine (HX.out _ HU.out).mono ?_
      rintro e Y ⟨rfl, hb⟩
      exact ⟨rfl, rfl, (HU.out.mono (Nat.le_of_lt HLT.out)).trans hb⟩
    | ok st' =>
      rw [hr] at HX
      clear hr
      go_enter Tryz.func50, Tryz.ntmps50
      go_wp2_with fail
      go_quiet (fail)
      have HU := Lib.hid (bdN HUE.out nq)
      generalize W.drewN nq = U at HU ⊢
      clear c0 c1 c2 c3 c4 c5 c6 c7 c8
      obtain ⟨c0, c1, c2, c3, c4, c5, c6, c7, c8⟩ := (HB.out.kept (HU.out.block g HLT.out)).cells
      go_wp2_with fail
      refine (HX.out _ HU.out).mono ?_
      rintro e Y ⟨rfl, hs, hf⟩
      go_wp2
      go_end0
      exact ⟨rfl, hs, (Fr.of_below HU.out HLT.out).trans hf⟩
  rw [if_neg h96]
  have b92 := beq_f h92
  have b36 := beq_f h36
  have b96 := beq_f h96
  by_cases hp0 : pl = 0
  · rw [if_pos hp0]
    have HX := Lib.hid (fun (V : World) (hV : Below W.heap.size W V) => show Calls Tryz.prog 84 #[.pointer (some ⟨g, 0, none⟩), .int .u8 b] V (Out V g ⟨s, pl, op, lv, opn⟩ (WP.unquoted N ⟨s, pl, op, lv, opn⟩ ⟨a, dep, tb, lp⟩)) from by rw [← HBB.out]; exact unquoted_any HN.out HGN.out (HS.out.below hV) HI.out HA.out hl hlv)
    subst hp0
    cases hr : WP.unquoted N ⟨s, 0, op, lv, opn⟩ ⟨a, dep, tb, lp⟩ with
    | error x =>
      rw [hr] at HX
      clear hr
      go_enter Tryz.func50, Tryz.ntmps50
      go_wp2_with fail
      go_quiet (fail)
      have HU := Lib.hid (bdN HUE.out nq)
      generalize W.drewN nq = U at HU ⊢
      clear c0 c1 c2 c3 c4 c5 c6 c7 c8
      obtain ⟨c0, c1, c2, c3, c4, c5, c6, c7, c8⟩ := (HB.out.kept (HU.out.block g HLT.out)).cells
      go_wp2_with fail
      refine (HX.out _ HU.out).mono ?_
      rintro e Y ⟨rfl, hb⟩
      exact ⟨rfl, rfl, (HU.out.mono (Nat.le_of_lt HLT.out)).trans hb⟩
    | ok st' =>
      rw [hr] at HX
      clear hr
      go_enter Tryz.func50, Tryz.ntmps50
      go_wp2_with fail
      go_quiet (fail)
      have HU := Lib.hid (bdN HUE.out nq)
      generalize W.drewN nq = U at HU ⊢
      clear c0 c1 c2 c3 c4 c5 c6 c7 c8
      obtain ⟨c0, c1, c2, c3, c4, c5, c6, c7, c8⟩ := (HB.out.kept (HU.out.block g HLT.out)).cells
      go_wp2_with fail
      refine (HX.out _ HU.out).mono ?_
      rintro e Y ⟨rfl, hs, hf⟩
      go_wp2
      go_end0
      exact ⟨rfl, hs, (Fr.of_below HU.out HLT.out).trans hf⟩
  rw [if_neg hp0]
  have p0 : ((pl : Int) == 0) = false := by rw [beq_eq_false_iff_ne]; omega
  by_cases h34 : b = 34 ∧ pl = 1
  · rw [if_pos h34]
    obtain ⟨rfl, rfl⟩ := h34
    go_enter Tryz.func50, Tryz.ntmps50
    go_wp2_with fail
    go_quiet (fail)
    have HU := Lib.hid (bdN HUE.out nq)
    generalize W.drewN nq = U at HU ⊢
    clear c0 c1 c2 c3 c4 c5 c6 c7 c8
    obtain ⟨c0, c1, c2, c3, c4, c5, c6, c7, c8⟩ := (HB.out.kept (HU.out.block g HLT.out)).cells
    go_wp2_with fail
    refine (hF.out _ _ _).mono ?_
    rintro e Y ⟨rfl, rfl⟩
    exact ⟨rfl, rfl, HU.out.mono (Nat.le_of_lt HLT.out)⟩
  rw [if_neg h34]
  have HL := Lib.hid (fun (d : Nat) (V : World) (hs : ScP V g ⟨s, pl, op, lv, opn⟩ ⟨a, d, tb, lp⟩) => show Calls Tryz.prog 85 #[.pointer (some ⟨g, 0, none⟩), .int .u8 b, .int .i64 1] V (Out V g ⟨s, pl, op, lv, opn⟩ (.ok (WP.lit (by8 b) 1 ⟨a, d, tb, lp⟩))) from by
    have := lit_any (W := V) (by8 b) 1 hs (by show tb.length ≤ 100000; omega) (by show a ≤ 100000; omega) (by decide)
    rwa [HBY.out] at this)
  obtain ⟨u, hu⟩ : ∃ u, by8 b = u := ⟨_, rfl⟩
  rw [hu] at HL ⊢
  have HDE := Lib.hid (show WP.depth ⟨s, pl, op, lv, opn⟩ ⟨a, dep, tb, lp⟩ = if pl = 2 ∧ op = false then (if b = 40 then dep + 1 else if b = 41 then dep - 1 else dep) else dep from by
    rw [← HBB.out]; rfl)
  clear hu HBY
  by_cases hpo : pl = 2 ∧ op = false
  · obtain ⟨rfl, rfl⟩ := hpo
    have hde := HDE.out
    rw [if_pos ⟨rfl, rfl⟩] at hde
    replace HDE := Lib.hid hde
    clear hde
    by_cases h40 : b = 40
    · subst h40
      have hde := HDE.out
      rw [if_pos rfl] at hde
      rw [hde]
      have w1 : IntKind.i64.wrap ((dep : Int) + 1) = (dep : Int) + 1 := IntWalk.i64_in _ (by omega)
      have HSD := Lib.hid (fun (V : World) (hV : Below W.heap.size W V) => (HS.out.below hV).setDep (dep + 1))
      clear hde HDE
      go_enter Tryz.func50, Tryz.ntmps50
      go_wp2_with fail
      go_quiet (fail)
      have HU := Lib.hid (bdN HUE.out nq)
      generalize W.drewN nq = U at HU ⊢
      clear c0 c1 c2 c3 c4 c5 c6 c7 c8
      obtain ⟨c0, c1, c2, c3, c4, c5, c6, c7, c8⟩ := (HB.out.kept (HU.out.block g HLT.out)).cells
      have fz := (HB.out.kept (HU.out.block g HLT.out)).thaw 6
      obtain ⟨hsd, hfd⟩ := HSD.out U HU.out
      have HFD := Lib.hid hfd
      have HL2 := Lib.hid (HL.out _ _ hsd)
      clear hsd hfd
      go_wp2_with fail
      refine HL2.out.mono ?_
      rintro e Y ⟨rfl, hs, hf⟩
      go_wp2
      go_end0
      exact ⟨rfl, hs, ((Fr.of_below HU.out HLT.out).trans HFD.out).trans hf⟩
    by_cases h41 : b = 41
    · subst h41
      have hde := HDE.out
      rw [if_neg (by decide), if_pos rfl] at hde
      rw [hde]
      have hd0 := HD.out rfl rfl rfl
      have w1 : IntKind.i64.wrap ((dep : Int) - 1) = (dep : Int) - 1 := IntWalk.i64_in _ (by omega)
      have HSD := Lib.hid (fun (V : World) (hV : Below W.heap.size W V) => (HS.out.below hV).setDep (dep - 1))
      have HDC := Lib.hid (show ((dep - 1 : Nat) : Int) = (dep : Int) - 1 by omega)
      rw [HDC.out] at HSD
      clear hde HDE hd0
      go_enter Tryz.func50, Tryz.ntmps50
      go_wp2_with fail
      go_quiet (fail)
      have HU := Lib.hid (bdN HUE.out nq)
      generalize W.drewN nq = U at HU ⊢
      clear c0 c1 c2 c3 c4 c5 c6 c7 c8
      obtain ⟨c0, c1, c2, c3, c4, c5, c6, c7, c8⟩ := (HB.out.kept (HU.out.block g HLT.out)).cells
      have fz := (HB.out.kept (HU.out.block g HLT.out)).thaw 6
      obtain ⟨hsd, hfd⟩ := HSD.out U HU.out
      have HFD := Lib.hid hfd
      have HL2 := Lib.hid (HL.out _ _ hsd)
      clear hsd hfd
      go_wp2_with fail
      refine HL2.out.mono ?_
      rintro e Y ⟨rfl, hs, hf⟩
      go_wp2
      go_end0
      exact ⟨rfl, hs, ((Fr.of_below HU.out HLT.out).trans HFD.out).trans hf⟩
    have hde := HDE.out
    rw [if_neg h40, if_neg h41] at hde
    rw [hde]
    have b40 := beq_f h40
    have b41 := beq_f h41
    clear hde HDE
    by_cases h34b : b = 34
    · subst h34b
      go_enter Tryz.func50, Tryz.ntmps50
      go_wp2_with fail
      go_quiet (fail)
      have HU := Lib.hid (bdN HUE.out nq)
      generalize W.drewN nq = U at HU ⊢
      clear c0 c1 c2 c3 c4 c5 c6 c7 c8
      obtain ⟨c0, c1, c2, c3, c4, c5, c6, c7, c8⟩ := (HB.out.kept (HU.out.block g HLT.out)).cells
      have HL2 := Lib.hid (HL.out dep U (HS.out.below HU.out))
      go_wp2_with fail
      refine HL2.out.mono ?_
      rintro e Y ⟨rfl, hs, hf⟩
      go_wp2
      go_end0
      exact ⟨rfl, hs, (Fr.of_below HU.out HLT.out).trans hf⟩
    · have b34 := beq_f h34b
      go_enter Tryz.func50, Tryz.ntmps50
      go_wp2_with fail
      go_quiet (fail)
      have HU := Lib.hid (bdN HUE.out nq)
      generalize W.drewN nq = U at HU ⊢
      clear c0 c1 c2 c3 c4 c5 c6 c7 c8
      obtain ⟨c0, c1, c2, c3, c4, c5, c6, c7, c8⟩ := (HB.out.kept (HU.out.block g HLT.out)).cells
      have HL2 := Lib.hid (HL.out dep U (HS.out.below HU.out))
      go_wp2_with fail
      refine HL2.out.mono ?_
      rintro e Y ⟨rfl, hs, hf⟩
      go_wp2
      go_end0
      exact ⟨rfl, hs, (Fr.of_below HU.out HLT.out).trans hf⟩
  · have hde := HDE.out
    rw [if_neg hpo] at hde
    rw [hde]
    clear hde HDE
    by_cases hp2 : pl = 2
    · subst hp2
      obtain rfl : op = true := by cases op with | true => rfl | false => exact absurd ⟨rfl, rfl⟩ hpo
      by_cases h34b : b = 34
      · subst h34b
        go_enter Tryz.func50, Tryz.ntmps50
        go_wp2_with fail
        go_quiet (fail)
        have HU := Lib.hid (bdN HUE.out nq)
        generalize W.drewN nq = U at HU ⊢
        clear c0 c1 c2 c3 c4 c5 c6 c7 c8
        obtain ⟨c0, c1, c2, c3, c4, c5, c6, c7, c8⟩ := (HB.out.kept (HU.out.block g HLT.out)).cells
        have HL2 := Lib.hid (HL.out dep U (HS.out.below HU.out))
        go_wp2_with fail
        refine HL2.out.mono ?_
        rintro e Y ⟨rfl, hs, hf⟩
        go_wp2
        go_end0
        exact ⟨rfl, hs, (Fr.of_below HU.out HLT.out).trans hf⟩
      · have b34 := beq_f h34b
        go_enter Tryz.func50, Tryz.ntmps50
        go_wp2_with fail
        go_quiet (fail)
        have HU := Lib.hid (bdN HUE.out nq)
        generalize W.drewN nq = U at HU ⊢
        clear c0 c1 c2 c3 c4 c5 c6 c7 c8
        obtain ⟨c0, c1, c2, c3, c4, c5, c6, c7, c8⟩ := (HB.out.kept (HU.out.block g HLT.out)).cells
        have HL2 := Lib.hid (HL.out dep U (HS.out.below HU.out))
        go_wp2_with fail
        refine HL2.out.mono ?_
        rintro e Y ⟨rfl, hs, hf⟩
        go_wp2
        go_end0
        exact ⟨rfl, hs, (Fr.of_below HU.out HLT.out).trans hf⟩
    · have p2 : ((pl : Int) == 2) = false := by rw [beq_eq_false_iff_ne]; omega
      by_cases h34b : b = 34
      · subst h34b
        have p1 : ((pl : Int) == 1) = false := by rw [beq_eq_false_iff_ne]; intro e; exact h34 ⟨rfl, by omega⟩
        go_enter Tryz.func50, Tryz.ntmps50
        go_wp2_with fail
        go_quiet (fail)
        have HU := Lib.hid (bdN HUE.out nq)
        generalize W.drewN nq = U at HU ⊢
        clear c0 c1 c2 c3 c4 c5 c6 c7 c8
        obtain ⟨c0, c1, c2, c3, c4, c5, c6, c7, c8⟩ := (HB.out.kept (HU.out.block g HLT.out)).cells
        have HL2 := Lib.hid (HL.out dep U (HS.out.below HU.out))
        go_wp2_with fail
        refine HL2.out.mono ?_
        rintro e Y ⟨rfl, hs, hf⟩
        go_wp2
        go_end0
        exact ⟨rfl, hs, (Fr.of_below HU.out HLT.out).trans hf⟩
      · have b34 := beq_f h34b
        go_enter Tryz.func50, Tryz.ntmps50
        go_wp2_with fail
        go_quiet (fail)
        have HU := Lib.hid (bdN HUE.out nq)
        generalize W.drewN nq = U at HU ⊢
        clear c0 c1 c2 c3 c4 c5 c6 c7 c8
        obtain ⟨c0, c1, c2, c3, c4, c5, c6, c7, c8⟩ := (HB.out.kept (HU.out.block g HLT.out)).cells
        have HL2 := Lib.hid (HL.out dep U (HS.out.below HU.out))
        go_wp2_with fail
        refine HL2.out.mono ?_
        rintro e Y ⟨rfl, hs, hf⟩
        go_wp2
        go_end0
        exact ⟨rfl, hs, (Fr.of_below HU.out HLT.out).trans hf⟩
end
end W
end Go.Proofs.YtkceenmlhfkkhaaGreatDoor
