/- Several texts in one: W08m W08n W08o. -/
import Derived.Test.YtcbdhheelddgeaaGreatDoorWD
import Derived.Defers
import Derived.Recover
namespace Go.Proofs.YtcbdhheelddgeaaGreatDoor
open Go.RowKit K
namespace W
theorem SB.setDep {W : World} {g a : Nat} {s : List UInt8} {pl : Int} {op : Bool} {lv opn dep : Int} {tx ls : Value} (h : SB W g s a pl op lv opn dep tx ls) (x : Int) : SB (W.setCell ⟨g, 6, none⟩ (.int .i64 x)) g s a pl op lv opn x tx ls := by
 have := heap_setCell_same W g 6 _ _ (.int .i64 x) h
 unfold SB; rw [this]; simp
theorem ScP.setDep {V : World} {g : Nat} {c : WP.Ctx} {st : WP.St} (h : ScP V g c st) (m : Nat) : ScP (V.setCell ⟨g, 6, none⟩ (.int .i64 m)) g c { st with dep := m } ∧ Fr g V (V.setCell ⟨g, 6, none⟩ (.int .i64 m)) := by
 obtain ⟨lc, h1, h2⟩ := h
 obtain ⟨tx, ls, hb, ht, hl⟩ := h1
 have hb' := hb.setDep (m : Int)
 have hf : Fr g V (V.setCell ⟨g, 6, none⟩ (.int .i64 m)) := Fr.mk' hb hb' ((Below.refl g V).setCell (by simp) _) (fun k _ h2 _ _ => Below.heap_setCell V _ _ k (by dsimp only; exact h2)) (fun r hr => .inl hr) (fun r hr => .inl hr)
 exact ⟨⟨lc, ⟨tx, ls, hb', row_set ht (by simp) _, row_set hl (by simp) _⟩, h2.fr hf⟩, hf⟩
section
variable {W : World} {g : Nat} {c : WP.Ctx} {st : WP.St}
set_option maxRecDepth 100000 in
set_option maxHeartbeats 8000000 in
theorem next_any {N : WP.Nest} (hN : NestC c.s (st.a + 1) N) (hBR : BracedC c.s st.a N) (hgn : WP.GoodN c.s N) (h : ScP W g c st) (hi : WP.Inv c st) (ha : st.a < c.s.length) (hd : c.pl = 2 → c.op = false → bt c.s st.a = 41 → 0 < st.dep) (hl : c.s.length ≤ 20000) (hlv : c.lv ≤ 32) :
  Calls Tryz.prog 137 #[.pointer (some ⟨g, 0, none⟩)] W (Out W g c (WP.next N c st)) := by
 have HS := Lib.hid h
 have HLT := Lib.hid h.lt
 have hsum := hi.sum
 have hdp := hi.dep
 have HI := Lib.hid hi
 have HA := Lib.hid ha
 have HUE := Lib.hid (Below.refl W.heap.size W)
 have hF := Lib.hid (fun (x y : Int) (V : World) => fail_any x y V)
 have HN := Lib.hid hN
 have HGN := Lib.hid hgn
 have HBR := Lib.hid hBR
 have HD := Lib.hid hd
 obtain ⟨tx, ls, hb⟩ := h.box
 have HB := Lib.hid hb
 have HR := Lib.hid (show WP.next N c st = if bt c.s st.a = 92 then WP.backslash c st
  else if bt c.s st.a = 36 then WP.dollar N c st
  else if bt c.s st.a = 96 then WP.backquoted c st
  else if c.pl = 0 then WP.unquoted N c st
  else if bt c.s st.a = 34 ∧ c.pl = 1 then .error (st.a, 6)
  else .ok (WP.lit (by8 (bt c.s st.a)) 1 { st with dep := WP.depth c st }) from rfl)
 clear h hi hN hgn hd hBR
 obtain ⟨s, pl, op, lv, opn⟩ := c
 obtain ⟨a, dep, tb, lp⟩ := st
 dsimp only at HS HB HR HI HN HGN HBR HD HA ha hl hsum hdp hlv ⊢
 obtain ⟨c0, c1, c2, c3, c4, c5, c6, c7, c8⟩ := HB.out.cells
 clear hb
 have a0 : (0 : Int) ≤ (a : Int) := by omega
 have a1 : ((a : Int) < (s.length : Int)) = True := eq_true (by omega)
 obtain ⟨b, hbb⟩ : ∃ b, bt s a = b := ⟨_, rfl⟩
 have HBB := Lib.hid hbb
 have hb0 := bt_nonneg s a
 have hb1 := bt_le s a
 rw [hbb] at HR HD hb0 hb1
 have HBY := Lib.hid (by8_toNat b hb0 hb1)
 rw [show WP.next N _ _ = _ from HR.out]
 clear HR
 by_cases h92 : b = 92
 ·rw [if_pos h92]
  have HX := Lib.hid (fun (V : World) (hV : Below W.heap.size W V) => show Calls Tryz.prog 154 #[.pointer (some ⟨g, 0, none⟩)] V (Out V g ⟨s, pl, op, lv, opn⟩ (WP.backslash ⟨s, pl, op, lv, opn⟩ ⟨a, dep, tb, lp⟩)) from backslash_any (HS.out.below hV) HI.out HA.out hl)
  subst h92
  cases hr : WP.backslash ⟨s, pl, op, lv, opn⟩ ⟨a, dep, tb, lp⟩ with
  | error x =>
   rw [hr] at HX
   clear hr
   go_enter Tryz.func137, Tryz.ntmps137
   go_wp2_with fail
   go_quiet (fail)
   have HU := Lib.hid (bdN HUE.out nq)
   generalize W.drewN nq = U at HU ⊢
   clear c0 c1 c2 c3 c4 c5 c6 c7 c8
   obtain ⟨c0, c1, c2, c3, c4, c5, c6, c7, c8⟩ := (HB.out.kept (HU.out.block g HLT.out)).cells
   go_wp2_with fail
   refine (HX.out _ HU.out).mono ?_
   rintro e Y ⟨rfl, hb⟩
   exact ⟨rfl, rfl, (HU.out.mono (Nat.le_of_lt HLT.out)).trans hb⟩
  | ok st' =>
   rw [hr] at HX
   clear hr
   go_enter Tryz.func137, Tryz.ntmps137
   go_wp2_with fail
   go_quiet (fail)
   have HU := Lib.hid (bdN HUE.out nq)
   generalize W.drewN nq = U at HU ⊢
   clear c0 c1 c2 c3 c4 c5 c6 c7 c8
   obtain ⟨c0, c1, c2, c3, c4, c5, c6, c7, c8⟩ := (HB.out.kept (HU.out.block g HLT.out)).cells
   go_wp2_with fail
   refine (HX.out _ HU.out).mono ?_
   rintro e Y ⟨rfl, hs, hf⟩
   go_wp2
   go_end0
   exact ⟨rfl, hs, (Fr.of_below HU.out HLT.out).trans hf⟩
 rw [if_neg h92]
 by_cases h36 : b = 36
 ·rw [if_pos h36]
  have HX := Lib.hid (fun (V : World) (hV : Below W.heap.size W V) => show Calls Tryz.prog 155 #[.pointer (some ⟨g, 0, none⟩)] V (Out V g ⟨s, pl, op, lv, opn⟩ (WP.dollar N ⟨s, pl, op, lv, opn⟩ ⟨a, dep, tb, lp⟩)) from dollar_any HN.out HBR.out HGN.out (HS.out.below hV) HI.out HA.out (HBB.out.trans h36) hl hlv)
  subst h36
  cases hr : WP.dollar N ⟨s, pl, op, lv, opn⟩ ⟨a, dep, tb, lp⟩ with
  | error x =>
   rw [hr] at HX
   clear hr
   go_enter Tryz.func137, Tryz.ntmps137
   go_wp2_with fail
   go_quiet (fail)
   have HU := Lib.hid (bdN HUE.out nq)
   generalize W.drewN nq = U at HU ⊢
   clear c0 c1 c2 c3 c4 c5 c6 c7 c8
   obtain ⟨c0, c1, c2, c3, c4, c5, c6, c7, c8⟩ := (HB.out.kept (HU.out.block g HLT.out)).cells
   go_wp2_with fail
   refine (HX.out _ HU.out).mono ?_
   rintro e Y ⟨rfl, hb⟩
   exact ⟨rfl, rfl, (HU.out.mono (Nat.le_of_lt HLT.out)).trans hb⟩
  | ok st' =>
   rw [hr] at HX
   clear hr
   go_enter Tryz.func137, Tryz.ntmps137
   go_wp2_with fail
   go_quiet (fail)
   have HU := Lib.hid (bdN HUE.out nq)
   generalize W.drewN nq = U at HU ⊢
   clear c0 c1 c2 c3 c4 c5 c6 c7 c8
   obtain ⟨c0, c1, c2, c3, c4, c5, c6, c7, c8⟩ := (HB.out.kept (HU.out.block g HLT.out)).cells
   go_wp2_with fail
   refine (HX.out _ HU.out).mono ?_
   rintro e Y ⟨rfl, hs, hf⟩
   go_wp2
   go_end0
   exact ⟨rfl, hs, (Fr.of_below HU.out HLT.out).trans hf⟩
 rw [if_neg h36]
 by_cases h96 : b = 96
 ·rw [if_pos h96]
  have HX := Lib.hid (fun (V : World) (hV : Below W.heap.size W V) => show Calls Tryz.prog 156 #[.pointer (some ⟨g, 0, none⟩)] V (Out V g ⟨s, pl, op, lv, opn⟩ (WP.backquoted ⟨s, pl, op, lv, opn⟩ ⟨a, dep, tb, lp⟩)) from backquoted_any (HS.out.below hV) HI.out HA.out (HBB.out.trans h96) hl)
  subst h96
  cases hr : WP.backquoted ⟨s, pl, op, lv, opn⟩ ⟨a, dep, tb, lp⟩ with
  | error x =>
   rw [hr] at HX
   clear hr
   go_enter Tryz.func137, Tryz.ntmps137
   go_wp2_with fail
   go_quiet (fail)
   have HU := Lib.hid (bdN HUE.out nq)
   generalize W.drewN nq = U at HU ⊢
   clear c0 c1 c2 c3 c4 c5 c6 c7 c8
   obtain ⟨c0, c1, c2, c3, c4, c5, c6, c7, c8⟩ := (HB.out.kept (HU.out.block g HLT.out)).cells
   go_wp2_with fail
   refine (HX.out _ HU.out).mono ?_
   rintro e Y ⟨rfl, hb⟩
   exact ⟨rfl, rfl, (HU.out.mono (Nat.le_of_lt HLT.out)).trans hb⟩
  | ok st' =>
   rw [hr] at HX
   clear hr
   go_enter Tryz.func137, Tryz.ntmps137
   go_wp2_with fail
   go_quiet (fail)
   have HU := Lib.hid (bdN HUE.out nq)
   generalize W.drewN nq = U at HU ⊢
   clear c0 c1 c2 c3 c4 c5 c6 c7 c8
   obtain ⟨c0, c1, c2, c3, c4, c5, c6, c7, c8⟩ := (HB.out.kept (HU.out.block g HLT.out)).cells
   go_wp2_with fail
   refine (HX.out _ HU.out).mono ?_
   rintro e Y ⟨rfl, hs, hf⟩
   go_wp2
   go_end0
   exact ⟨rfl, hs, (Fr.of_below HU.out HLT.out).trans hf⟩
 rw [if_neg h96]
 have b92 := beq_f h92
 have b36 := beq_f h36
 have b96 := beq_f h96
 by_cases hp0 : pl = 0
 ·rw [if_pos hp0]
  have HX := Lib.hid (fun (V : World) (hV : Below W.heap.size W V) => show Calls Tryz.prog 157 #[.pointer (some ⟨g, 0, none⟩), .int .u8 b] V (Out V g ⟨s, pl, op, lv, opn⟩ (WP.unquoted N ⟨s, pl, op, lv, opn⟩ ⟨a, dep, tb, lp⟩)) from by rw [← HBB.out]; exact unquoted_any HN.out HGN.out (HS.out.below hV) HI.out HA.out hl hlv)
  subst hp0
  cases hr : WP.unquoted N ⟨s, 0, op, lv, opn⟩ ⟨a, dep, tb, lp⟩ with
  | error x =>
   rw [hr] at HX
   clear hr
   go_enter Tryz.func137, Tryz.ntmps137
   go_wp2_with fail
   go_quiet (fail)
   have HU := Lib.hid (bdN HUE.out nq)
   generalize W.drewN nq = U at HU ⊢
   clear c0 c1 c2 c3 c4 c5 c6 c7 c8
   obtain ⟨c0, c1, c2, c3, c4, c5, c6, c7, c8⟩ := (HB.out.kept (HU.out.block g HLT.out)).cells
   go_wp2_with fail
   refine (HX.out _ HU.out).mono ?_
   rintro e Y ⟨rfl, hb⟩
   exact ⟨rfl, rfl, (HU.out.mono (Nat.le_of_lt HLT.out)).trans hb⟩
  | ok st' =>
   rw [hr] at HX
   clear hr
   go_enter Tryz.func137, Tryz.ntmps137
   go_wp2_with fail
   go_quiet (fail)
   have HU := Lib.hid (bdN HUE.out nq)
   generalize W.drewN nq = U at HU ⊢
   clear c0 c1 c2 c3 c4 c5 c6 c7 c8
   obtain ⟨c0, c1, c2, c3, c4, c5, c6, c7, c8⟩ := (HB.out.kept (HU.out.block g HLT.out)).cells
   go_wp2_with fail
   refine (HX.out _ HU.out).mono ?_
   rintro e Y ⟨rfl, hs, hf⟩
   go_wp2
   go_end0
   exact ⟨rfl, hs, (Fr.of_below HU.out HLT.out).trans hf⟩
 rw [if_neg hp0]
 have p0 : ((pl : Int) == 0) = false := by rw [beq_eq_false_iff_ne]; omega
 by_cases h34 : b = 34 ∧ pl = 1
 ·rw [if_pos h34]
  obtain ⟨rfl, rfl⟩ := h34
  go_enter Tryz.func137, Tryz.ntmps137
  go_wp2_with fail
  go_quiet (fail)
  have HU := Lib.hid (bdN HUE.out nq)
  generalize W.drewN nq = U at HU ⊢
  clear c0 c1 c2 c3 c4 c5 c6 c7 c8
  obtain ⟨c0, c1, c2, c3, c4, c5, c6, c7, c8⟩ := (HB.out.kept (HU.out.block g HLT.out)).cells
  go_wp2_with fail
  refine (hF.out _ _ _).mono ?_
  rintro e Y ⟨rfl, rfl⟩
  exact ⟨rfl, rfl, HU.out.mono (Nat.le_of_lt HLT.out)⟩
 rw [if_neg h34]
 have HL := Lib.hid (fun (d : Nat) (V : World) (hs : ScP V g ⟨s, pl, op, lv, opn⟩ ⟨a, d, tb, lp⟩) => show Calls Tryz.prog 158 #[.pointer (some ⟨g, 0, none⟩), .int .u8 b, .int .i64 1] V (Out V g ⟨s, pl, op, lv, opn⟩ (.ok (WP.lit (by8 b) 1 ⟨a, d, tb, lp⟩))) from by
  have := lit_any (W := V) (by8 b) 1 hs (by show tb.length ≤ 100000; omega) (by show a ≤ 100000; omega) (by decide)
  rwa [HBY.out] at this)
 obtain ⟨u, hu⟩ : ∃ u, by8 b = u := ⟨_, rfl⟩
 rw [hu] at HL ⊢
 have HDE := Lib.hid (show WP.depth ⟨s, pl, op, lv, opn⟩ ⟨a, dep, tb, lp⟩ = if pl = 2 ∧ op = false then (if b = 40 then dep + 1 else if b = 41 then dep - 1 else dep) else dep from by
  rw [← HBB.out]; rfl)
 clear hu HBY
 by_cases hpo : pl = 2 ∧ op = false
 ·obtain ⟨rfl, rfl⟩ := hpo
  have hde := HDE.out
  rw [if_pos ⟨rfl, rfl⟩] at hde
  replace HDE := Lib.hid hde
  clear hde
  by_cases h40 : b = 40
  ·subst h40
   have hde := HDE.out
   rw [if_pos rfl] at hde
   rw [hde]
   have w1 : IntKind.i64.wrap ((dep : Int) + 1) = (dep : Int) + 1 := IntWalk.i64_in _ (by omega)
   have HSD := Lib.hid (fun (V : World) (hV : Below W.heap.size W V) => (HS.out.below hV).setDep (dep + 1))
   clear hde HDE
   go_enter Tryz.func137, Tryz.ntmps137
   go_wp2_with fail
   go_quiet (fail)
   have HU := Lib.hid (bdN HUE.out nq)
   generalize W.drewN nq = U at HU ⊢
   clear c0 c1 c2 c3 c4 c5 c6 c7 c8
   obtain ⟨c0, c1, c2, c3, c4, c5, c6, c7, c8⟩ := (HB.out.kept (HU.out.block g HLT.out)).cells
   have fz := (HB.out.kept (HU.out.block g HLT.out)).thaw 6
   obtain ⟨hsd, hfd⟩ := HSD.out U HU.out
   have HFD := Lib.hid hfd
   have HL2 := Lib.hid (HL.out _ _ hsd)
   clear hsd hfd
   go_wp2_with fail
   refine HL2.out.mono ?_
   rintro e Y ⟨rfl, hs, hf⟩
   go_wp2
   go_end0
   exact ⟨rfl, hs, ((Fr.of_below HU.out HLT.out).trans HFD.out).trans hf⟩
  by_cases h41 : b = 41
  ·subst h41
   have hde := HDE.out
   rw [if_neg (by decide), if_pos rfl] at hde
   rw [hde]
   have hd0 := HD.out rfl rfl rfl
   have w1 : IntKind.i64.wrap ((dep : Int) - 1) = (dep : Int) - 1 := IntWalk.i64_in _ (by omega)
   have HSD := Lib.hid (fun (V : World) (hV : Below W.heap.size W V) => (HS.out.below hV).setDep (dep - 1))
   have HDC := Lib.hid (show ((dep - 1 : Nat) : Int) = (dep : Int) - 1 by omega)
   rw [HDC.out] at HSD
   clear hde HDE hd0
   go_enter Tryz.func137, Tryz.ntmps137
   go_wp2_with fail
   go_quiet (fail)
   have HU := Lib.hid (bdN HUE.out nq)
   generalize W.drewN nq = U at HU ⊢
   clear c0 c1 c2 c3 c4 c5 c6 c7 c8
   obtain ⟨c0, c1, c2, c3, c4, c5, c6, c7, c8⟩ := (HB.out.kept (HU.out.block g HLT.out)).cells
   have fz := (HB.out.kept (HU.out.block g HLT.out)).thaw 6
   obtain ⟨hsd, hfd⟩ := HSD.out U HU.out
   have HFD := Lib.hid hfd
   have HL2 := Lib.hid (HL.out _ _ hsd)
   clear hsd hfd
   go_wp2_with fail
   refine HL2.out.mono ?_
   rintro e Y ⟨rfl, hs, hf⟩
   go_wp2
   go_end0
   exact ⟨rfl, hs, ((Fr.of_below HU.out HLT.out).trans HFD.out).trans hf⟩
  have hde := HDE.out
  rw [if_neg h40, if_neg h41] at hde
  rw [hde]
  have b40 := beq_f h40
  have b41 := beq_f h41
  clear hde HDE
  by_cases h34b : b = 34
  ·subst h34b
   go_enter Tryz.func137, Tryz.ntmps137
   go_wp2_with fail
   go_quiet (fail)
   have HU := Lib.hid (bdN HUE.out nq)
   generalize W.drewN nq = U at HU ⊢
   clear c0 c1 c2 c3 c4 c5 c6 c7 c8
   obtain ⟨c0, c1, c2, c3, c4, c5, c6, c7, c8⟩ := (HB.out.kept (HU.out.block g HLT.out)).cells
   have HL2 := Lib.hid (HL.out dep U (HS.out.below HU.out))
   go_wp2_with fail
   refine HL2.out.mono ?_
   rintro e Y ⟨rfl, hs, hf⟩
   go_wp2
   go_end0
   exact ⟨rfl, hs, (Fr.of_below HU.out HLT.out).trans hf⟩
  ·have b34 := beq_f h34b
   go_enter Tryz.func137, Tryz.ntmps137
   go_wp2_with fail
   go_quiet (fail)
   have HU := Lib.hid (bdN HUE.out nq)
   generalize W.drewN nq = U at HU ⊢
   clear c0 c1 c2 c3 c4 c5 c6 c7 c8
   obtain ⟨c0, c1, c2, c3, c4, c5, c6, c7, c8⟩ := (HB.out.kept (HU.out.block g HLT.out)).cells
   have HL2 := Lib.hid (HL.out dep U (HS.out.below HU.out))
   go_wp2_with fail
   refine HL2.out.mono ?_
   rintro e Y ⟨rfl, hs, hf⟩
   go_wp2
   go_end0
   exact ⟨rfl, hs, (Fr.of_below HU.out HLT.out).trans hf⟩
 ·have hde := HDE.out
  rw [if_neg hpo] at hde
  rw [hde]
  clear hde HDE
  by_cases hp2 : pl = 2
  ·subst hp2
   obtain rfl : op = true := by cases op with | true => rfl | false => exact absurd ⟨rfl, rfl⟩ hpo
   by_cases h34b : b = 34
   ·subst h34b
    go_enter Tryz.func137, Tryz.ntmps137
    go_wp2_with fail
    go_quiet (fail)
    have HU := Lib.hid (bdN HUE.out nq)
    generalize W.drewN nq = U at HU ⊢
    clear c0 c1 c2 c3 c4 c5 c6 c7 c8
    obtain ⟨c0, c1, c2, c3, c4, c5, c6, c7, c8⟩ := (HB.out.kept (HU.out.block g HLT.out)).cells
    have HL2 := Lib.hid (HL.out dep U (HS.out.below HU.out))
    go_wp2_with fail
    refine HL2.out.mono ?_
    rintro e Y ⟨rfl, hs, hf⟩
    go_wp2
    go_end0
    exact ⟨rfl, hs, (Fr.of_below HU.out HLT.out).trans hf⟩
   ·have b34 := beq_f h34b
    go_enter Tryz.func137, Tryz.ntmps137
    go_wp2_with fail
    go_quiet (fail)
    have HU := Lib.hid (bdN HUE.out nq)
    generalize W.drewN nq = U at HU ⊢
    clear c0 c1 c2 c3 c4 c5 c6 c7 c8
    obtain ⟨c0, c1, c2, c3, c4, c5, c6, c7, c8⟩ := (HB.out.kept (HU.out.block g HLT.out)).cells
    have HL2 := Lib.hid (HL.out dep U (HS.out.below HU.out))
    go_wp2_with fail
    refine HL2.out.mono ?_
    rintro e Y ⟨rfl, hs, hf⟩
    go_wp2
    go_end0
    exact ⟨rfl, hs, (Fr.of_below HU.out HLT.out).trans hf⟩
  ·have p2 : ((pl : Int) == 2) = false := by rw [beq_eq_false_iff_ne]; omega
   by_cases h34b : b = 34
   ·subst h34b
    have p1 : ((pl : Int) == 1) = false := by rw [beq_eq_false_iff_ne]; intro e; exact h34 ⟨rfl, by omega⟩
    go_enter Tryz.func137, Tryz.ntmps137
    go_wp2_with fail
    go_quiet (fail)
    have HU := Lib.hid (bdN HUE.out nq)
    generalize W.drewN nq = U at HU ⊢
    clear c0 c1 c2 c3 c4 c5 c6 c7 c8
    obtain ⟨c0, c1, c2, c3, c4, c5, c6, c7, c8⟩ := (HB.out.kept (HU.out.block g HLT.out)).cells
    have HL2 := Lib.hid (HL.out dep U (HS.out.below HU.out))
    go_wp2_with fail
    refine HL2.out.mono ?_
    rintro e Y ⟨rfl, hs, hf⟩
    go_wp2
    go_end0
    exact ⟨rfl, hs, (Fr.of_below HU.out HLT.out).trans hf⟩
   ·have b34 := beq_f h34b
    go_enter Tryz.func137, Tryz.ntmps137
    go_wp2_with fail
    go_quiet (fail)
    have HU := Lib.hid (bdN HUE.out nq)
    generalize W.drewN nq = U at HU ⊢
    clear c0 c1 c2 c3 c4 c5 c6 c7 c8
    obtain ⟨c0, c1, c2, c3, c4, c5, c6, c7, c8⟩ := (HB.out.kept (HU.out.block g HLT.out)).cells
    have HL2 := Lib.hid (HL.out dep U (HS.out.below HU.out))
    go_wp2_with fail
    refine HL2.out.mono ?_
    rintro e Y ⟨rfl, hs, hf⟩
    go_wp2
    go_end0
    exact ⟨rfl, hs, (Fr.of_below HU.out HLT.out).trans hf⟩
end
end W
end Go.Proofs.YtcbdhheelddgeaaGreatDoor
namespace Go.Proofs.YtcbdhheelddgeaaGreatDoor
open Go.RowKit K
namespace W
/-- What the scope's parse gives from a start, at a fuel. -/
def ParC (s : List UInt8) (lo : Nat) (f : Nat) : Prop := ∀ (W : World) (g : Nat) (c : WP.Ctx) (k : Nat), c.s = s → lo ≤ k → k ≤ s.length → c.lv ≤ 32 → ScP W g c ⟨k, 0, [], []⟩ →
 Calls Tryz.prog 117 #[.pointer (some ⟨g, 0, none⟩)] W (Out W g c (WP.run f c ⟨k, 0, [], []⟩))
theorem own_rep {W W' : World} {g : Nat} {c : WP.Ctx} {st : WP.St} (hg : W.heap.size ≤ g) (h : ScP W' g c st) : ∃ tx A cap, SB W' g c.s st.a c.pl c.op c.lv c.opn st.dep tx (.slice A st.ls.length cap) ∧
  (st.ls = [] ∨ ∃ b cells, A = some ⟨b, 0, none⟩ ∧ W.heap.size ≤ b ∧ LRep W' (fun b => W.heap.size ≤ b) st.ls cells ∧ ∀ j u, cells[j]? = some u → W'.cell? ⟨b, j, none⟩ = some u) := by
 obtain ⟨lc, ⟨tx, ls, hb, ht, hl⟩, hr⟩ := h
 obtain ⟨A, cap, rfl⟩ := row_val hl
 refine ⟨tx, A, cap, hb, ?_⟩
 by_cases hn : st.ls = []
 ·exact .inl hn
 rcases hl.2 with ⟨h1, h2⟩ | ⟨b, cap', cur, hv, hB, hgb, hc1, hc2, hc3, hc4⟩
 ·exact absurd (List.length_eq_zero_iff.1 h2) hn
 ·injection hv with hv _ _
  refine .inr ⟨b, lc, hv, by omega, LRep.mono (fun x hx _ => ⟨by omega, rfl⟩) _ _ hr, fun j u hj => ?_⟩
  have hjl := (List.getElem?_eq_some_iff.1 hj).1
  have hlen := hr.len
  have e1 : (cur.toList.take (st.ls.length * 5))[j]? = some u := by rw [hc4]; exact hj
  rw [List.getElem?_take_of_lt (by omega)] at e1
  simp only [World.cell?, hgb]
  simpa using e1
def nestOf (r : Except WP.Flt WP.St) : Except WP.Flt (List WP.Part × Nat) := match r with | .error x => .error x | .ok y => .ok (y.ls, y.a)
theorem nest_eq (f : Nat) (c : WP.Ctx) (k : Nat) : WP.nest f c k = nestOf (WP.run f c ⟨k, 0, [], []⟩) := rfl
set_option maxRecDepth 100000 in
set_option maxHeartbeats 4000000 in
theorem nested_any {s : List UInt8} {lo f : Nat} (hP : ParC s lo f) : NestC s lo (WP.nest f) := by
 intro W g c st k opn p o e1 hlv hlo hk hop h
 obtain ⟨X, hX⟩ : ∃ X, X = (W.alloc (.cells #[.string ⟨s.toArray⟩, .int .i64 k, .int .i64 p, .bool o, .int .i64 ((c.lv : Int) + 1), .int .i64 opn, .int .i64 0, .slice none 0 0, .slice none 0 0] 153)).drew := ⟨_, rfl⟩
 have HX := Lib.hid hX
 have HBX := Lib.hid (show Below W.heap.size W X by rw [hX]; exact (balloc _ _).drew)
 have HSX := Lib.hid (show W.heap.size < X.heap.size by rw [hX]; show W.heap.size < (W.alloc _).heap.size; simp)
 have HSC := Lib.hid (show ScP X W.heap.size ⟨s, p, o, c.lv + 1, opn⟩ ⟨k, 0, [], []⟩ from by
  refine ⟨[], ⟨.slice none 0 0, .slice none 0 0, ?_, ⟨rfl, .inl ⟨rfl, rfl⟩⟩, ⟨rfl, .inl ⟨rfl, rfl⟩⟩⟩, by rw [LRep]⟩
  rw [hX]
  exact al_new W _)
 have HP := Lib.hid (hP X W.heap.size ⟨s, p, o, c.lv + 1, opn⟩ k rfl hlo hk (by show c.lv + 1 ≤ 32; omega) HSC.out)
 rw [nest_eq]
 obtain ⟨R, hR⟩ : ∃ R, WP.run f ⟨s, p, o, c.lv + 1, opn⟩ ⟨k, 0, [], []⟩ = R := ⟨_, rfl⟩
 rw [hR] at HP ⊢
 obtain ⟨tx, ls, hb⟩ := h.box
 have HLT := Lib.hid h.lt
 rw [e1] at hb
 obtain ⟨c0, c1, c2, c3, c4, c5, c6, c7, c8⟩ := hb.cells
 have hgl := h.lt
 have w1 : IntKind.i64.wrap ((c.lv : Int) + 1) = (c.lv : Int) + 1 := IntWalk.i64_in _ (by omega)
 clear hX hP hR hb h
 obtain ⟨s', pl', op', lv, opn'⟩ := c
 dsimp only at *
 cases R with
 | error x =>
  go_enter Tryz.func165, Tryz.ntmps165
  go_wp2_with fail
  refine wp_region_still_tail 14 (by kernel_rfl) (by kernel_rfl) ?_
  simp only [List.take_succ_cons, List.take_zero, List.drop_succ_cons, List.drop_zero]
  repeat still_step
  refine wpStill_nil ?_
  change wpList _ _ _ _ _ W.drew
  go_wp2_with fail
  rw [← HX.out]
  refine HP.out.mono ?_
  rintro e Y ⟨rfl, hb1⟩
  exact ⟨rfl, rfl, HBX.out.trans hb1⟩
 | ok y =>
  go_enter Tryz.func165, Tryz.ntmps165
  go_wp2_with fail
  refine wp_region_still_tail 14 (by kernel_rfl) (by kernel_rfl) ?_
  simp only [List.take_succ_cons, List.take_zero, List.drop_succ_cons, List.drop_zero]
  repeat still_step
  refine wpStill_nil ?_
  change wpList _ _ _ _ _ W.drew
  go_wp2_with fail
  rw [← HX.out]
  refine HP.out.mono ?_
  rintro e Y ⟨rfl, hs1, hf1⟩
  have HBY := Lib.hid (HBX.out.trans hf1.below)
  obtain ⟨tx2, A, cap, hb2, hrep⟩ := own_rep (W := W) (Nat.le_refl _) hs1
  have HREP := Lib.hid hrep
  clear hs1 hf1 hrep c0 c1 c2 c3 c4 c5 c6 c7 c8
  obtain ⟨c0, c1, c2, c3, c4, c5, c6, c7, c8⟩ := hb2.cells
  clear hb2
  go_wp2_with fail
  go_quiet (fail)
  go_wp2
  go_ret2
  exact ⟨A, cap, rfl, bdN HBY.out nq, rep_more (bdN (Below.refl _ _) nq) HREP.out⟩
/-- The offset of a scope. -/
def offOf (w : World) (g : Nat) : Nat := match w.cell? ⟨g, 1, none⟩ with | some (.int _ n) => n.toNat | _ => 0
theorem ScP.off {W : World} {g : Nat} {c : WP.Ctx} {st : WP.St} (h : ScP W g c st) : offOf W g = st.a := by
 obtain ⟨tx, ls, hb⟩ := h.box
 unfold offOf
 rw [hb.cells.2.1]
 simp
theorem ended_dep {c : WP.Ctx} {st : WP.St} (h : WP.ended c st = .ok false) (h1 : c.pl = 2) (h2 : c.op = false) (h3 : bt c.s st.a = 41) : 0 < st.dep := by
 rcases Nat.eq_zero_or_pos st.dep with h0 | h0
 ·unfold WP.ended at h
  rw [h1, h2, h0, h3] at h
  split at h
  ·split at h
   ·cases h
   ·cases h
  ·simp at h
   split at h
   ·cases h
   ·split at h
    ·cases h
    ·cases h
 ·exact h0
theorem ended_lt {c : WP.Ctx} {st : WP.St} (h : WP.ended c st = .ok false) (ha : st.a ≤ c.s.length) : st.a < c.s.length := by
 rcases Nat.lt_or_ge st.a c.s.length with h' | h'
 ·exact h'
 ·unfold WP.ended at h
  rw [if_pos (by omega)] at h
  split at h <;> cases h
/-- What braced gives over whatever reads the parts of a construct. -/
def BrAll : Prop := ∀ (W : World) (g : Nat) (c : WP.Ctx) (st : WP.St) (N : WP.Nest), NestC c.s (st.a + 1) N → WP.GoodN c.s N → ScP W g c st → st.a + 2 ≤ c.s.length → c.s.length ≤ 20000 → c.lv ≤ 32 → Calls Tryz.prog 167 #[.pointer (some ⟨g, 0, none⟩)] W (BrOut W (WP.braced N c st))
theorem BrAll.at_ (hB : BrAll) {s : List UInt8} {lo : Nat} {N : WP.Nest} (hs : s.length ≤ 20000) (hN : NestC s (lo + 1) N) (hg : WP.GoodN s N) : BracedC s lo N := by
 intro W g c st e1 e2 e3 e4 e5
 subst e1
 exact hB W g c st N (fun W' g' c' st' k o p b q1 q2 q3 q4 q5 q6 => hN W' g' c' st' k o p b q1 q2 (by omega) q4 q5 q6) hg e5 e4 hs e3
/-- Where the loop of parse stands. -/
def ParRel (W : World) (g : Nat) (c : WP.Ctx) (f : Nat) (R : Except WP.Flt WP.St) (wr : World) : Prop :=
 ∃ f' st', f' ≤ f ∧ ScP wr g c st' ∧ WP.Inv c st' ∧ c.s.length - st'.a < f' ∧ WP.run f' c st' = R ∧ Fr g W wr
set_option maxRecDepth 100000 in
set_option maxHeartbeats 4000000 in
theorem parse_run (hB : BrAll) : ∀ (f : Nat) (W : World) (g : Nat) (c : WP.Ctx) (st : WP.St), WP.Inv c st → c.s.length ≤ 20000 → c.lv ≤ 32 → ScP W g c st → c.s.length - st.a < f →
  Calls Tryz.prog 117 #[.pointer (some ⟨g, 0, none⟩)] W (Out W g c (WP.run f c st)) := by
 intro f
 induction f using Nat.strongRecOn with
 | ind f ih =>
  intro W g c st hi hl hlv h hf
  obtain ⟨R, hR⟩ : ∃ R, WP.run f c st = R := ⟨_, rfl⟩
  rw [hR]
  have HST := Lib.hid (show ParRel W g c f R W from ⟨f, st, Nat.le_refl _, h, hi, hf, hR, Fr.refl _ _⟩)
  have HLT := Lib.hid h.lt
  have IH := Lib.hid ih
  have HL := Lib.hid hl
  clear hi h hf hR ih st
  go_enter Tryz.func117, Tryz.ntmps117
  go_wp2
  go_loopw [] (fun wr => Hid (ParRel W g c f R wr)) (fun wr => c.s.length - offOf wr g)
  case atStart => exact HST.out
  case round =>
   obtain ⟨f', st', hf, hs, hi, hlt, hR, hfr⟩ := hrel.out
   have HFR := Lib.hid hfr
   have HS := Lib.hid hs
   have HI := Lib.hid hi
   have HO := Lib.hid hs.off
   obtain ⟨f2, rfl⟩ : ∃ k, f' = k + 1 := ⟨f' - 1, by omega⟩
   rw [WP.run_succ] at hR
   have HE := Lib.hid (ended_any hs hi.le (by omega) (by have := hi.dep; have := hi.le; omega))
   clear hrel hfr hs HST
   cases hen : WP.ended c st' with
   | error x =>
    rw [hen] at hR HE
    have HRE := Lib.hid (show Except.error x = R from hR)
    clear hR hen hi
    go_wp2_with fail
    refine HE.out.mono ?_
    rintro e w1 ⟨rfl, hb1⟩
    exact ⟨rfl, by rw [← HRE.out]; exact ⟨rfl, HFR.out.below.trans (hb1.mono (Nat.le_of_lt HS.out.lt))⟩⟩
   | ok b =>
    cases b with
    | true =>
     rw [hen] at hR HE
     have HRE := Lib.hid (show Except.ok (WP.flush st') = R from hR)
     have hn : st'.ls.length ≤ 90000 := by have := hi.sum; have := hi.le; omega
     clear hR hen hi
     go_wp2_with fail
     refine HE.out.mono ?_
     rintro e w1 ⟨rfl, hb1⟩
     have HF2 := Lib.hid (flush_any (HS.out.below hb1) hn)
     have HB1 := Lib.hid (Fr.of_below hb1 HS.out.lt)
     clear hb1 hn
     go_wp2_with fail
     refine HF2.out.mono ?_
     rintro e w2 ⟨rfl, hs2, hf2⟩
     have HS2 := Lib.hid hs2
     have HFR2 := Lib.hid ((HFR.out.trans HB1.out).trans hf2)
     clear hs2 hf2
     go_wp2
     go_end0
     rw [← HRE.out]
     exact ⟨rfl, HS2.out, HFR2.out⟩
    | false =>
     have ha := ended_lt hen hi.le
     have HD := Lib.hid (fun h1 h2 h3 => ended_dep hen h1 h2 h3)
     rw [hen] at hR HE
     have HNC := Lib.hid (show NestC c.s (st'.a + 1) (WP.nest f2) from nested_any (fun W1 g1 c1 k e1 hlo hk hlv1 hsc => IH.out f2 (by omega) W1 g1 c1 ⟨k, 0, [], []⟩ ⟨by rw [e1]; exact hk, by simp, by simp⟩ (by rw [e1]; exact HL.out) hlv1 hsc (by rw [e1]; show _ - k < _; omega)))
     have HGN := Lib.hid (WP.nest_good f2 c.s)
     have HNX := Lib.hid (fun V (hV : Below wr.heap.size wr V) => next_any HNC.out (hB.at_ HL.out HNC.out HGN.out) HGN.out (HS.out.below hV) HI.out ha HD.out HL.out hlv)
     have HA := Lib.hid ha
     cases hnx : WP.next (WP.nest f2) c st' with
     | error x =>
      rw [hnx] at HNX
      have HRE := Lib.hid (show Except.error x = R from by rw [← hR]; dsimp only; rw [hnx])
      clear hR hen hi hnx
      go_wp2_with fail
      refine HE.out.mono ?_
      rintro e w1 ⟨rfl, hb1⟩
      have HB1 := Lib.hid hb1
      have HNY := Lib.hid (HNX.out w1 hb1)
      clear hb1
      go_wp2_with fail
      refine HNY.out.mono ?_
      rintro e w2 ⟨rfl, hb2⟩
      exact ⟨rfl, by rw [← HRE.out]; exact ⟨rfl, (HFR.out.below.trans (HB1.out.mono (Nat.le_of_lt HS.out.lt))).trans hb2⟩⟩
     | ok st2 =>
      have hg2 := WP.next_good HGN.out hi ha hnx
      rw [hnx] at HNX
      have HR2 := Lib.hid (show WP.run f2 c st2 = R from by rw [← hR]; dsimp only; rw [hnx])
      have HG2 := Lib.hid hg2
      clear hR hen hi hnx hg2
      go_wp2_with fail
      refine HE.out.mono ?_
      rintro e w1 ⟨rfl, hb1⟩
      have HB1 := Lib.hid (Fr.of_below hb1 HS.out.lt)
      have HNY := Lib.hid (HNX.out w1 hb1)
      clear hb1
      go_wp2_with fail
      refine HNY.out.mono ?_
      rintro e w2 ⟨rfl, hs2, hf2⟩
      have HS2 := Lib.hid hs2
      have HFR2 := Lib.hid ((HFR.out.trans HB1.out).trans hf2)
      have HO2 := Lib.hid hs2.off
      clear hs2 hf2
      go_wp2
      go_roundw
      case rel => exact Lib.hid ⟨f2, st2, by omega, HS2.out, HG2.out.2, by have := HG2.out.1; omega, HR2.out, HFR2.out⟩
      case measure => rw [HO.out, HO2.out]; have := HG2.out.1; have := HA.out; omega
end W
end Go.Proofs.YtcbdhheelddgeaaGreatDoor
namespace Go.Proofs.YtcbdhheelddgeaaGreatDoor
open Go.RowKit K
namespace W
set_option maxRecDepth 100000 in
/-- The deferred closure of a frame that returns. -/
theorem parse_idle (p q r : Addr) (w : World) :
  CallsD Tryz.prog 115 #[.pointer (some p), .pointer (some q), .pointer (some r)] .returning w fun e u' w' => e = .returned (.tuple #[]) ∧ u' = .returning ∧ w' = w := by
 refine callsD_of_wpS Tryz.func115 rfl fun c₀ cs hu => ?_
 apply wpS_seq
 apply wpS_region
 simp [wpOpsS, go_sem, recoverD, hu, Tryz.ntmps115, Exit.thenS]
 apply wpS_seq
 apply wpS_region
 simp [wpOpsS, go_sem, Exit.thenS]
 refine wpS_cond (t := false) (by simp [Act.eval, Array.replicate]) ?_
 simp only [Bool.false_eq_true, if_false]
 refine wpS_of_wp (wp_skip ?_)
 cases c₀
 simp_all [bodyPostS, results, Tryz.results115]
theorem assert_fault (v : Value) (xT : TypeId) (w : World) : (Instr.typeAssert (.iface 148 v) xT 148 true).run Tryz.prog w = .ok (.tuple #[v, .bool true]) w := by
 simp [Instr.typeAssert, run_underlying Tryz.underlying148, go_sem, Result.andThen]
set_option maxRecDepth 100000 in
set_option maxHeartbeats 2000000 in
/-- The deferred closure of a frame that panics with a fault. -/
theorem parse_caught (p q r B : Nat) (fl : WP.Flt) (w : World) (hB : B ≤ p) (hpq : p < q) (hqr : q < r) (hr : r < w.heap.size) (d0 : w.cell? ⟨p, 0, none⟩ = some (.slice none 0 0)) (d1 : w.cell? ⟨q, 0, none⟩ = some (.int .i64 0)) (d2 : w.cell? ⟨r, 0, none⟩ = some (.int .i64 0))
  (t0 : w.frozen? ⟨p, 0, none⟩ = false) (t1 : w.frozen? ⟨q, 0, none⟩ = false) (t2 : w.frozen? ⟨r, 0, none⟩ = false) :
  CallsD Tryz.prog 115 #[.pointer (some ⟨p, 0, none⟩), .pointer (some ⟨q, 0, none⟩), .pointer (some ⟨r, 0, none⟩)] (.panicking (faultP fl)) w fun e u' w' => e = .returned (.tuple #[]) ∧ (∃ x, u' = .panicking [{ v := x, recovered := true }]) ∧ w'.cell? ⟨p, 0, none⟩ = some (.slice none 0 0) ∧ w'.cell? ⟨q, 0, none⟩ = some (.int .i64 fl.1) ∧ w'.cell? ⟨r, 0, none⟩ = some (.int .i64 fl.2) ∧ Below B w w' := by
 obtain ⟨fa, fe⟩ := fl
 have hpq' : ¬ p = q := by omega
 have hqr' : ¬ q = r := by omega
 have hpr' : ¬ p = r := by omega
 have hB1 : B ≤ q := by omega
 have hB2 : B ≤ r := by omega
 have hta := fun v xT w => assert_fault v xT w
 obtain ⟨V, hV⟩ : ∃ V, V = (((w.setCell ⟨p, 0, none⟩ (.slice none 0 0)).setCell ⟨q, 0, none⟩ (.int .i64 0)).setCell ⟨r, 0, none⟩ (.int .i64 1)).alloc (.cells #[.int .i64 fa, .int .i64 fe] 148) := ⟨_, rfl⟩
 have hbs : Below (w.heap.size) (((w.setCell ⟨p, 0, none⟩ (.slice none 0 0)).setCell ⟨q, 0, none⟩ (.int .i64 0)).setCell ⟨r, 0, none⟩ (.int .i64 1)) V := by
  rw [hV]
  exact (Below.refl _ _).alloc (by simp) _
 have hbw : Below B w V := by
  rw [hV]
  exact ((((Below.refl _ _).setCell hB _).setCell hB1 _).setCell hB2 _).alloc (by simp; omega) _
 have hnew : V.heap[w.heap.size]? = some (.cells #[.int .i64 fa, .int .i64 fe] 148 (0, 0)) := by
  rw [hV]
  exact al_new' _ _ _ (by simp)
 have k0 : V.cell? ⟨p, 0, none⟩ = some (.slice none 0 0) := by
  rw [hbs.cell (p := ⟨p, 0, none⟩) (by show p < _; omega), set_far _ hpr', set_far _ hpq']
  exact set_same_of d0
 have k1 : V.cell? ⟨q, 0, none⟩ = some (.int .i64 0) := by
  rw [hbs.cell (p := ⟨q, 0, none⟩) (by show q < _; omega), set_far _ hqr']
  exact set_same_of (by rw [set_far _ (fun e => hpq' e.symm)]; exact d1)
 have k2 : V.cell? ⟨r, 0, none⟩ = some (.int .i64 1) := by
  rw [hbs.cell (p := ⟨r, 0, none⟩) (by show r < _; omega)]
  exact set_same_of (by rw [set_far _ (fun e => hqr' e.symm), set_far _ (fun e => hpr' e.symm)]; exact d2)
 have z1 : V.frozen? ⟨q, 0, none⟩ = false := by
  rw [hbs.frozen (p := ⟨q, 0, none⟩) (by show q < _; omega)]
  simpa using t1
 have z2 : V.frozen? ⟨r, 0, none⟩ = false := by
  rw [hbs.frozen (p := ⟨r, 0, none⟩) (by show r < _; omega)]
  simpa using t2
 have e0 : V.cell? ⟨w.heap.size, 0, none⟩ = some (.int .i64 fa) := Lib.cell_of_heap hnew 0
 have e1 : V.cell? ⟨w.heap.size, 1, none⟩ = some (.int .i64 fe) := Lib.cell_of_heap hnew 1
 have hqw : ¬ w.heap.size = q := by omega
 have hrw : ¬ w.heap.size = r := by omega
 have HV := Lib.hid hV
 have HBW := Lib.hid hbw
 clear hV hbs hbw hnew
 refine callsD_of_wpS Tryz.func115 rfl fun c₀ cs hu => ?_
 apply wpS_seq
 apply wpS_region
 simp [wpOpsS, go_sem, recoverD, hu, Tryz.ntmps115, Exit.thenS, faultP]
 apply wpS_seq
 apply wpS_region
 simp [wpOpsS, go_sem, Exit.thenS]
 refine wpS_cond (t := true) (by simp [Act.eval, Array.replicate]) ?_
 simp only [if_true]
 refine wpS_of_wp ?_
 clear hu
 change Code.wp _ _ _ { tmps := #[.pointer (some ⟨p, 0, none⟩), .pointer (some ⟨q, 0, none⟩), .pointer (some ⟨r, 0, none⟩), .iface 148 (.agg #[.int .i64 fa, .int .i64 fe]), undef, undef, .iface 148 (.agg #[.int .i64 fa, .int .i64 fe]), .iface 148 (.agg #[.int .i64 fa, .int .i64 fe]), .bool true, undef, undef, undef, undef, undef, undef, undef, undef, undef, undef], defers := [] } w
 go_wp2_with fail
 rw [← HV.out]
 go_region
 all_goals
  show bodyPostS _ _ _ _ _ _ _ _ _
  refine ⟨rfl, _, rfl, .tuple #[], by simp [results, Tryz.results115], rfl, ⟨_, rfl⟩, ?_, ?_, ?_, ?_⟩
 ·show ((V.setCell _ _).setCell _ _).cell? _ = _
  rw [set_far _ hpr', set_far _ hpq']
  exact k0
 ·show ((V.setCell _ _).setCell _ _).cell? _ = _
  rw [set_far _ hqr']
  exact set_same_of k1
 ·show ((V.setCell _ _).setCell _ _).cell? _ = _
  exact set_same_of (by rw [set_far _ (fun e => hqr' e.symm)]; exact k2)
 ·exact ((HBW.out.setCell hB1 _).setCell hB2 _).drew
/-- What words.parse gives: a slice of parts in new memory, or the error and its offset. -/
def ParseOut (W : World) : Except WP.Flt (List WP.Part) → Ending → World → Prop
 | .ok ps, e, W' => ∃ A cap, e = .returned (.tuple #[.slice A ps.length cap, .int .i64 0, .int .i64 0]) ∧ Below W.heap.size W W' ∧
   (ps = [] ∨ ∃ b cells, A = some ⟨b, 0, none⟩ ∧ W.heap.size ≤ b ∧ LRep W' (fun b => W.heap.size ≤ b) ps cells ∧ ∀ j u, cells[j]? = some u → W'.cell? ⟨b, j, none⟩ = some u)
 | .error f, e, W' => e = .returned (.tuple #[.slice none 0 0, .int .i64 f.1, .int .i64 f.2]) ∧ Below W.heap.size W W'
theorem rep_setO {B : Nat} {W' : World} {ps : List WP.Part} {A : Option Addr} {q i : Nat} {u : Value} (hq : q < B)
  (hr : ps = [] ∨ ∃ b cells, A = some ⟨b, 0, none⟩ ∧ B ≤ b ∧ LRep W' (fun b => B ≤ b) ps cells ∧ ∀ j u, cells[j]? = some u → W'.cell? ⟨b, j, none⟩ = some u) :
  ps = [] ∨ ∃ b cells, A = some ⟨b, 0, none⟩ ∧ B ≤ b ∧ LRep (W'.setCell ⟨q, i, none⟩ u) (fun b => B ≤ b) ps cells ∧ ∀ j v, cells[j]? = some v → (W'.setCell ⟨q, i, none⟩ u).cell? ⟨b, j, none⟩ = some v := by
 rcases hr with h | ⟨b, cells, h1, h2, h3, h4⟩
 ·exact .inl h
 ·exact .inr ⟨b, cells, h1, h2, LRep.mono (fun x hx _ => ⟨hx, Below.heap_setCell W' _ _ x (by dsimp only; omega)⟩) ps cells h3, fun j v hj => (set_far W' (by omega)).trans (h4 j v hj)⟩
theorem rep_baseO {B B' : Nat} {W' : World} {ps : List WP.Part} {A : Option Addr} (hq : B' ≤ B)
  (hr : ps = [] ∨ ∃ b cells, A = some ⟨b, 0, none⟩ ∧ B ≤ b ∧ LRep W' (fun b => B ≤ b) ps cells ∧ ∀ j u, cells[j]? = some u → W'.cell? ⟨b, j, none⟩ = some u) :
  ps = [] ∨ ∃ b cells, A = some ⟨b, 0, none⟩ ∧ B' ≤ b ∧ LRep W' (fun b => B' ≤ b) ps cells ∧ ∀ j u, cells[j]? = some u → W'.cell? ⟨b, j, none⟩ = some u := by
 rcases hr with h | ⟨b, cells, h1, h2, h3, h4⟩
 ·exact .inl h
 ·exact .inr ⟨b, cells, h1, by omega, LRep.mono (fun x hx _ => ⟨by omega, rfl⟩) ps cells h3, h4⟩
def partsOf (r : Except WP.Flt WP.St) : Except WP.Flt (List WP.Part) := match r with | .error x => .error x | .ok y => .ok y.ls
set_option maxRecDepth 100000 in
set_option maxHeartbeats 4000000 in
theorem wparse_any (hB : BrAll) (s : List UInt8) (pl : Nat) (w : World) (hs : s.length ≤ 100000) :
  Calls Tryz.prog 93 #[.string ⟨s.toArray⟩, .int .i64 pl] w (ParseOut w (WP.parse s pl)) := by
 have hmf : ∀ (fn : Fn) (first cap : Array Value) (w : World), (Instr.makeFunc fn first cap).run Tryz.prog w = .ok (.func fn first cap) w := fun _ _ _ _ => rfl
 obtain ⟨V, hV⟩ : ∃ V, V = ((w.alloc (.cells #[.slice none 0 0] 102)).alloc (.cells #[.int .i64 0] 3)).alloc (.cells #[.int .i64 0] 25) := ⟨_, rfl⟩
 have hb0 : V.heap[w.heap.size]? = some (.cells #[.slice none 0 0] 102 (0, 0)) := by
  rw [hV]
  exact (((balloc _ _).block _ (by simp; omega)).trans ((balloc _ _).block _ (by simp))).trans (al_new w _)
 have hb1 : V.heap[w.heap.size + 1]? = some (.cells #[.int .i64 0] 3 (0, 0)) := by
  rw [hV]
  exact ((balloc _ _).block _ (by simp)).trans (al_new' _ _ _ (by simp))
 have hb2 : V.heap[w.heap.size + 1 + 1]? = some (.cells #[.int .i64 0] 25 (0, 0)) := by
  rw [hV]
  exact al_new' _ _ _ (by simp)
 have hBV : Below w.heap.size w V := by
  rw [hV]
  exact btr (btr (balloc _ _) (balloc _ _)) (balloc _ _)
 have hVs : V.heap.size = w.heap.size + 1 + 1 + 1 := by rw [hV]; simp
 have HV := Lib.hid hV
 have HBV := Lib.hid hBV
 have HVS := Lib.hid hVs
 have HB0 := Lib.hid hb0
 have HB1 := Lib.hid hb1
 have HB2 := Lib.hid hb2
 have HBR := Lib.hid hB
 clear hV hBV hVs hb0 hb1 hb2 hB
 have HBACK := Lib.hid (fun (Y : World) (hY : Below V.heap.size V Y) => show Y.cell? ⟨w.heap.size, 0, none⟩ = some (.slice none 0 0) ∧ Y.cell? ⟨w.heap.size + 1, 0, none⟩ = some (.int .i64 0) ∧ Y.cell? ⟨w.heap.size + 1 + 1, 0, none⟩ = some (.int .i64 0) ∧ Y.frozen? ⟨w.heap.size, 0, none⟩ = false ∧ Y.frozen? ⟨w.heap.size + 1, 0, none⟩ = false ∧ Y.frozen? ⟨w.heap.size + 1 + 1, 0, none⟩ = false ∧ w.heap.size + 1 + 1 < Y.heap.size from by
  have hv := HVS.out
  have hsz := hY.size
  have y0 := (hY.block w.heap.size (by omega)).trans HB0.out
  have y1 := (hY.block (w.heap.size + 1) (by omega)).trans HB1.out
  have y2 := (hY.block (w.heap.size + 1 + 1) (by omega)).trans HB2.out
  exact ⟨Lib.cell_of_heap y0 0, Lib.cell_of_heap y1 0, Lib.cell_of_heap y2 0, Lib.frozen_of_heap y0 0, Lib.frozen_of_heap y1 0, Lib.frozen_of_heap y2 0, by omega⟩)
 by_cases hlong : 16384 < s.length
 ·have HR := Lib.hid (show WP.parse s pl = .error (0, 3) by unfold WP.parse; rw [if_pos hlong])
  rw [HR.out]
  have l1 : ((16384 : Int) < (s.length : Int)) = True := eq_true (by omega)
  clear hlong
  go_enter_defers Tryz.func93, Tryz.ntmps93
  go_wp2_with fail
  rw [← HV.out]
  refine (fail_any 0 3 V).mono ?_
  rintro e y ⟨rfl, rfl⟩
  refine leaves_cons (f := 115) (args := #[.pointer (some ⟨w.heap.size, 0, none⟩), .pointer (some ⟨w.heap.size + 1, 0, none⟩), .pointer (some ⟨w.heap.size + 1 + 1, 0, none⟩)]) (by simp) (by simp [go_sem]) ?_
  obtain ⟨d0, d1, d2, t0, t1, t2, hz⟩ := HBACK.out V (Below.refl _ _)
  refine (parse_caught w.heap.size (w.heap.size + 1) (w.heap.size + 1 + 1) w.heap.size (0, 3) V (Nat.le_refl _) (by omega) (by omega) hz d0 d1 d2 t0 t1 t2).mono ?_
  rintro e u' w'' ⟨rfl, ⟨x, rfl⟩, k0, k1, k2, hbw⟩
  dsimp only at k1 k2
  simp [Leaves, settle, results, Tryz.results93, go_sem, k0, k1, k2]
  exact ⟨rfl, HBV.out.trans hbw⟩
 ·obtain ⟨X, hX⟩ : ∃ X, X = (((w.alloc (.cells #[.slice none 0 0] 102)).alloc (.cells #[.int .i64 0] 3)).alloc (.cells #[.int .i64 0] 25)).alloc (.cells #[.string ⟨s.toArray⟩, .int .i64 0, .int .i64 pl, .bool false, .int .i64 1, .int .i64 (-1), .int .i64 0, .slice none 0 0, .slice none 0 0] 153) := ⟨_, rfl⟩
  have hgX : X.heap[w.heap.size + 1 + 1 + 1]? = some (.cells #[.string ⟨s.toArray⟩, .int .i64 0, .int .i64 pl, .bool false, .int .i64 1, .int .i64 (-1), .int .i64 0, .slice none 0 0, .slice none 0 0] 153 (0, 0)) := by
   rw [hX]
   exact al_new' _ _ _ (by simp)
  have HVX := Lib.hid (show Below V.heap.size V X by rw [hX, ← HV.out]; exact balloc _ _)
  have HX := Lib.hid hX
  have HSC := Lib.hid (show ScP X (w.heap.size + 1 + 1 + 1) ⟨s, pl, false, 1, -1⟩ ⟨0, 0, [], []⟩ from
   ⟨[], ⟨.slice none 0 0, .slice none 0 0, hgX, ⟨rfl, .inl ⟨rfl, rfl⟩⟩, ⟨rfl, .inl ⟨rfl, rfl⟩⟩⟩, by rw [LRep]⟩)
  have HP := Lib.hid (parse_run HBR.out (s.length + 1) X (w.heap.size + 1 + 1 + 1) ⟨s, pl, false, 1, -1⟩ ⟨0, 0, [], []⟩ ⟨Nat.zero_le _, by simp, Nat.le_refl _⟩ (by show s.length ≤ 20000; omega) (by show 1 ≤ 32; omega) HSC.out (by show s.length - 0 < _; omega))
  obtain ⟨R, hR⟩ : ∃ R, WP.run (s.length + 1) ⟨s, pl, false, 1, -1⟩ ⟨0, 0, [], []⟩ = R := ⟨_, rfl⟩
  have HR := Lib.hid (show WP.parse s pl = partsOf R by unfold WP.parse; rw [if_neg hlong, ← hR]; rfl)
  rw [hR] at HP
  rw [HR.out]
  have l1 : ((16384 : Int) < (s.length : Int)) = False := eq_false (by omega)
  clear hlong hX hgX hR
  cases R with
  | error x =>
   go_enter_defers Tryz.func93, Tryz.ntmps93
   go_wp2_with fail
   rw [← HX.out]
   refine HP.out.mono ?_
   rintro e y ⟨rfl, hby⟩
   have HVY := Lib.hid (show Below V.heap.size V y from HVX.out.trans (hby.mono (by have := HVS.out; omega)))
   refine leaves_cons (f := 115) (args := #[.pointer (some ⟨w.heap.size, 0, none⟩), .pointer (some ⟨w.heap.size + 1, 0, none⟩), .pointer (some ⟨w.heap.size + 1 + 1, 0, none⟩)]) (by simp) (by simp [go_sem]) ?_
   obtain ⟨d0, d1, d2, t0, t1, t2, hz⟩ := HBACK.out y HVY.out
   refine (parse_caught w.heap.size (w.heap.size + 1) (w.heap.size + 1 + 1) w.heap.size x y (Nat.le_refl _) (by omega) (by omega) hz d0 d1 d2 t0 t1 t2).mono ?_
   rintro e u' w'' ⟨rfl, ⟨x', rfl⟩, k0, k1, k2, hbw⟩
   simp [Leaves, settle, results, Tryz.results93, go_sem, k0, k1, k2]
   exact ⟨rfl, (HBV.out.trans (HVY.out.mono (by have := HVS.out; omega))).trans hbw⟩
  | ok y =>
   go_enter_defers Tryz.func93, Tryz.ntmps93
   go_wp2_with fail
   rw [← HX.out]
   refine HP.out.mono ?_
   rintro e Y ⟨rfl, hsc, hfr⟩
   have HVY := Lib.hid (show Below V.heap.size V Y from HVX.out.trans (hfr.below.mono (by have := HVS.out; omega)))
   obtain ⟨tx2, A, cap, hb2, hrep⟩ := own_rep (W := V) (by have := HVS.out; omega) hsc
   have HREP := Lib.hid hrep
   obtain ⟨-, -, -, -, -, -, -, -, c8⟩ := hb2.cells
   obtain ⟨d0, d1, d2, t0, t1, t2, hz⟩ := HBACK.out Y HVY.out
   have HBY := Lib.hid (HBV.out.trans (HVY.out.mono (by have := HVS.out; omega)))
   clear hb2 hrep hsc hfr hz
   go_wp2
   refine leaves_cons (f := 115) (args := #[.pointer (some ⟨w.heap.size, 0, none⟩), .pointer (some ⟨w.heap.size + 1, 0, none⟩), .pointer (some ⟨w.heap.size + 1 + 1, 0, none⟩)]) (by simp) (by simp [go_sem]) ?_
   refine (parse_idle ⟨w.heap.size, 0, none⟩ ⟨w.heap.size + 1, 0, none⟩ ⟨w.heap.size + 1 + 1, 0, none⟩ _).mono ?_
   rintro e u' w'' ⟨rfl, rfl, rfl⟩
   have hfin : Below w.heap.size w (((Y.setCell ⟨w.heap.size, 0, none⟩ (.slice A y.ls.length cap)).setCell ⟨w.heap.size + 1, 0, none⟩ (.int .i64 0)).setCell ⟨w.heap.size + 1 + 1, 0, none⟩ (.int .i64 0)) := ((HBY.out.setCell (by dsimp only; omega) _).setCell (by dsimp only; omega) _).setCell (by dsimp only; omega) _
   simp [Leaves, settle, results, Tryz.results93, go_sem, d0, d1, d2]
   refine ⟨A, cap, rfl, hfin, ?_⟩
   have hv := HVS.out
   exact rep_baseO (by omega) (rep_setO (by omega) (rep_setO (by omega) (rep_setO (by omega) HREP.out)))
/-- A slice of parts in new memory. -/
theorem Parse_any (hB : BrAll) (s : List UInt8) (w : World) (hs : s.length ≤ 100000) : Calls Tryz.prog 70 #[.string ⟨s.toArray⟩] w (ParseOut w (WP.parse s 0)) := by
 have HP := Lib.hid (show Calls Tryz.prog 93 #[.string ⟨s.toArray⟩, .int .i64 0] w (ParseOut w (WP.parse s 0)) from wparse_any hB s 0 w hs)
 cases hr : WP.parse s 0 with
 | error x =>
  rw [hr] at HP
  clear hr
  go_enter Tryz.func70, Tryz.ntmps70
  go_wp2_with fail
  refine HP.out.mono ?_
  rintro e Y ⟨rfl, hb⟩
  go_wp2
  exact bodyPost_ret (v := .tuple #[.slice none 0 0, .int .i64 x.1, .int .i64 x.2]) (by simp [results, Tryz.results70, go_sem]) rfl ⟨rfl, hb⟩
 | ok ps =>
  rw [hr] at HP
  clear hr
  have pn0 : (0 : Int) ≤ (ps.length : Int) := by omega
  go_enter Tryz.func70, Tryz.ntmps70
  go_wp2_with fail
  refine HP.out.mono ?_
  rintro e Y ⟨A, cap, rfl, hb, hrep⟩
  have HH := Lib.hid (And.intro hb hrep)
  clear hb hrep
  go_wp2
  exact bodyPost_ret (v := .tuple #[.slice A ps.length cap, .int .i64 0, .int .i64 0]) (by simp [results, Tryz.results70, go_sem]) rfl ⟨A, cap, rfl, HH.out⟩
end W
end Go.Proofs.YtcbdhheelddgeaaGreatDoor
