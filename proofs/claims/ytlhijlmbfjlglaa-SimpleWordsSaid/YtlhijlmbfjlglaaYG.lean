/- Chapter 12: several texts in one: W12k W12l. -/
import Derived.Test.YtlhijlmbfjlglaaYF
import Derived.Test.YtlhijlmbfjlglaaYC
import Derived.Test.YtlhijlmbfjlglaaYE
import Derived.Test.YtlhijlmbfjlglaaYA
import Derived.Deep.DeepCutAuto
namespace Go.Proofs.Ytlhijlmbfjlglaa
open Go.RowKit K
open WP (GP gp gpL)
namespace W
theorem SC.asg_len (s : List UInt8) : (SC.asg s).2.1.length ≤ s.length := by
  unfold SC.asg
  split
  · exact (cut_len1 s).2
  · exact Nat.zero_le _
theorem PS.fresh {W V : World} {g : Nat} {dl : Value} {pos : Int} {va vw vr : Value} {na nw nr : Nat} {ac wc rc : List Value} {A : Option Addr} {ps : List WP.Part} (h1 : NB W g pos va vw vr) (h2 : W.ownsRow (g + 1) 54 4 va na ac)
    (h3 : W.ownsRow (g + 1) 39 2 vw nw wc) (h4 : W.ownsRow (g + 1) 41 5 vr nr rc) (hdl : ∀ r, dl.ownBlock = some r → r < W.heap.size) (hb : Below W.heap.size W V) (h : PS V (fun b => W.heap.size ≤ b) A ps) : PS V (pb V g dl) A ps := by
  refine h.mono fun b hb1 _ => ⟨⟨by have := h1.lt; omega, fun e => ?_, fun e => ?_⟩, rfl⟩
  · rw [nown_same (hb.block g h1.lt), nown_iff h1] at e
    rcases e with e | e | e | e
    · have := h1.lt; omega
    · have := own_lt h2 _ e; omega
    · have := own_lt h3 _ e; omega
    · have := own_lt h4 _ e; omega
  · have := hdl b e; omega
theorem PS.go {W V : World} {B : Nat} {A : Option Addr} {ps : List WP.Part} (h : PS W (fun b => B ≤ b) A ps) (hb : Below W.heap.size W V) : PS V (fun b => B ≤ b) A ps := h.mono fun b h1 h2 => ⟨h1, hb.block b h2⟩
set_option maxRecDepth 100000 in
set_option maxHeartbeats 16000000 in
theorem cadd_any (hB : BrAll) {W : World} {g : Nat} {dl : Value} {pos : Int} {qs : List SC.As} {ws : List SC.Wd} {rs : List SC.Rd} (t : LX.Tok) (hw : Env W) (h : NS W g dl pos qs ws rs)
    (hdl : ∀ r, dl.ownBlock = some r → r < W.heap.size) (ha : qs.length ≤ 90000) (hn : ws.length ≤ 90000) (ht : t.text.length ≤ 16384) :
    Calls Try.prog 22 #[.pointer (some ⟨g, 0, none⟩), .agg #[.int .i64 t.kind, .int .i64 t.pos, .int .i64 t.stop, .string ⟨t.text.toArray⟩]] W (AddOut W g dl pos qs ws rs (SC.addR ws.length t)) := by
  obtain ⟨R, hR⟩ : ∃ R, SC.addR ws.length t = R := ⟨_, rfl⟩
  rw [hR]
  unfold SC.addR at hR
  obtain ⟨V0, hV0⟩ : ∃ V0, V0 = W.alloc (.cells #[.int .i64 t.kind, .int .i64 t.pos, .int .i64 t.stop, .string ⟨t.text.toArray⟩] 60) := ⟨_, rfl⟩
  have hb0 : Below W.heap.size W V0 := by rw [hV0]; exact balloc _ _
  have hx0 : V0.heap[W.heap.size]? = some (.cells #[.int .i64 t.kind, .int .i64 t.pos, .int .i64 t.stop, .string ⟨t.text.toArray⟩] 60 (0, 0)) := by rw [hV0]; exact al_new W _
  obtain ⟨⟨nm, vl, ok⟩, hA⟩ : ∃ q, SC.asg t.text = q := ⟨_, rfl⟩
  have HAS := Lib.hid (Assignment_any t.text V0 (hw.below hb0) (by omega) nm vl ok hA)
  have hvl : vl.length ≤ 16384 := by have := SC.asg_len t.text; rw [hA] at this; dsimp only at this; omega
  rw [hA] at hR
  dsimp only at hR
  have HV0 := Lib.hid hV0
  have HR := Lib.hid hR
  have HB0 := Lib.hid hb0
  have HX0 := Lib.hid hx0
  have HN0 := Lib.hid (h.below hb0)
  have HE0 := Lib.hid (hw.below hb0)
  have hg := h.lt
  have HDL := Lib.hid hdl
  clear hV0 hR hb0 hx0 h hw hA hdl
  go_enter Try.func22, Try.ntmps22
  go_wp2_with fail
  rw [← HV0.out]
  refine HAS.out.mono ?_
  rintro e V1 ⟨rfl, hb⟩
  have hs0 : W.heap.size < V0.heap.size := (Array.getElem?_eq_some_iff.1 HX0.out).1
  have HB1 := Lib.hid (btr HB0.out hb)
  have HE1 := Lib.hid (HE0.out.below hb)
  have HX1 := Lib.hid ((hb.block _ hs0).trans HX0.out)
  obtain ⟨va, vw, vr, ac, wc, rc, h1, h2, h3, h4, h5, h6, h7⟩ := HN0.out.below hb
  have hsb := hb.size
  obtain ⟨Aa, ca, rfl⟩ := row_val h2
  obtain ⟨Aw, cw, rfl⟩ := row_val h3
  have HN1 := Lib.hid h1
  have HRA := Lib.hid h2
  have HRW := Lib.hid h3
  have HRR := Lib.hid h4
  have HI5 := Lib.hid h5
  have HI6 := Lib.hid h6
  have HI7 := Lib.hid h7
  obtain ⟨-, -, -, -, n4, n5, -, -, -⟩ := h1.cells
  obtain ⟨c0, c1, c2, c3, -, -, -, -⟩ := blk4 HX1.out
  have HAL := Lib.hid ha
  have HNL := Lib.hid hn
  obtain ⟨k, hk⟩ : ∃ k, ws.length = k := ⟨_, rfl⟩
  have HK := Lib.hid hk
  rw [hk] at HR n5 hn
  have k0 : (0 : Int) ≤ (k : Int) := by omega
  have vl0 : (0 : Int) ≤ (vl.length : Int) := by omega
  have HTS := Lib.hid ht
  have HVL := Lib.hid hvl
  clear hb h1 h2 h3 h4 h5 h6 h7 hk ha hn ht hvl
  cases ok with
  | false =>
    have HRB := Lib.hid (show R = SC.addW k t (WP.parse t.text 0) from HR.out.symm.trans (if_neg (fun e => absurd e.1 (by decide))))
    have HP := Lib.hid (fun V => Parse_any hB t.text V (by have := HTS.out; omega))
    go_wp2_with fail
    refine (HP.out _).mono ?_
    intro e V2 ho
    cases hps : WP.parse t.text 0 with
    | error y =>
      rw [hps] at ho HRB
      obtain ⟨rfl, hb⟩ := ho
      have hy := WP.parse_code hps
      have hyn : ((y.2 : Int) == 0) = false := by rw [beq_eq_false_iff_ne]; omega
      have hym : ((y.2 : Int) != 0) = true := by simp [bne, hyn]
      obtain ⟨ev, hev⟩ : ∃ ev, IntKind.i64.wrap ((t.pos : Int) + (y.1 : Int)) = ev := ⟨_, rfl⟩
      have HRE := Lib.hid (show R = .err ev y.2 from by rw [← hev]; exact HRB.out)
      have HB2 := Lib.hid (btr HB1.out hb)
      have HX2 := Lib.hid ((hb.block _ (by omega)).trans HX1.out)
      clear hb c0 c1 c2 c3 n4 n5
      obtain ⟨c0, c1, c2, c3, -, -, -, -⟩ := blk4 HX2.out
      dsimp only
      go_wp2
      go_ret2
      rw [HRE.out]
      exact ⟨rfl, HB2.out⟩
    | ok ps =>
      rw [hps] at ho HRB
      obtain ⟨A, cap, rfl, hb, hrep⟩ := ho
      obtain ⟨wt1, wt2⟩ := WP.parse_wt hps
      have HWT := Lib.hid (And.intro wt1 wt2)
      have HB2 := Lib.hid (btr HB1.out hb)
      have HBV := Lib.hid hb
      have HE2 := Lib.hid (HE1.out.below hb)
      have HX2 := Lib.hid ((hb.block _ (by omega)).trans HX1.out)
      have HPS := Lib.hid (show PS V2 (fun b => V1.heap.size ≤ b) A ps from hrep)
      have hsv := hb.size
      obtain ⟨m, hm⟩ : ∃ m, ps.length = m := ⟨_, rfl⟩
      have HM := Lib.hid hm
      rw [hm]
      have m0 : (0 : Int) ≤ (m : Int) := by omega
      have n5 := (show V2.cell? ⟨g, 5, none⟩ = some (.slice Aw k cw) from by rw [← HK.out]; exact (HN1.out.kept (hb.block g HN1.out.lt)).cells.2.2.2.2.2.1)
      clear hb hrep hps c0 c1 c2 c3 n4 hm wt1 wt2
      obtain ⟨c0, c1, c2, c3, -, -, -, -⟩ := blk4 HX2.out
      by_cases hkz : k = 0
      case pos =>
        have hk1 : ((k : Int) == 0) = true := by rw [beq_iff_eq]; omega
        have HF := Lib.hid (first_any (.slice A m cap) (gpL ps) V2 HE2.out (by rw [← HM.out]; exact PS.gs cap HPS.out) (by have := HWT.out.1; have := len_cnt (gpL ps); have := HTS.out; omega) (by have := HWT.out.2; have := HTS.out; omega))
        obtain ⟨fb, hfb⟩ : ∃ fb, SC.first (gpL ps) = fb := ⟨_, rfl⟩
        rw [hfb] at HF
        cases fb with
        | false =>
          have HRE := Lib.hid (show R = .err t.pos 6 from HRB.out.trans (if_pos ⟨hkz, hfb⟩))
          clear hkz hfb
          go_wp2_with fail
          refine HF.out.mono ?_
          rintro e V3 ⟨rfl, hb⟩
          have HX3 := (hb.block _ (by omega)).trans HX2.out
          have HB3 := Lib.hid (btr HB2.out hb)
          clear hb c0 c1 c2 c3 n5
          obtain ⟨c0, c1, c2, c3, -, -, -, -⟩ := blk4 HX3
          clear HX3
          go_wp2
          go_ret2
          rw [HRE.out]
          exact ⟨rfl, HB3.out⟩
        | true =>
          have HRE := Lib.hid (show R = .word ⟨t.pos, ps⟩ from HRB.out.trans (if_neg (fun e => by rw [hfb] at e; exact absurd e.2 (by decide))))
          clear hkz hfb
          go_wp2_with fail
          refine HF.out.mono ?_
          rintro e X ⟨rfl, hb⟩
          have HX3 := (hb.block _ (by omega)).trans HX2.out
          have HBX := Lib.hid (HBV.out.trans (hb.mono hsv))
          have HPX := Lib.hid (PS.fresh HN1.out HRA.out HRW.out HRR.out (fun r hr => by have := HDL.out r hr; have := HB1.out.size; omega) HBX.out (HPS.out.go hb))
          clear hb c0 c1 c2 c3 n5
          obtain ⟨c0, c1, c2, c3, -, -, -, -⟩ := blk4 HX3
          clear HX3
          obtain ⟨i0, hi, hz0, hz1, hz2⟩ := info_parts infoWord
          have HXV := Lib.hid (show Below X.heap.size X ((X.alloc (.cells #[.int .i64 t.pos, .slice A m cap] 39)).drew) from (balloc _ _).drew)
          have hgx : g < X.heap.size := by have := HBX.out.size; have := HN1.out.lt; omega
          have HNX := Lib.hid (HN1.out.kept (HBX.out.block g HN1.out.lt))
          obtain ⟨v3, w3, hrun, hown3, hgrow3, -, hwhere⟩ := run_append_own_at (P := Try.prog) ((X.alloc (.cells #[.int .i64 t.pos, .slice A m cap] 39)).drew) (g + 1) 27 27 39 i0 _ 2 32 Try.underlying27 hi hz0 hz1 hz2 rfl (by decide) (.slice Aw ws.length cw) ws.length _ (row_below (row_below HRW.out HBX.out) HXV.out) ⟨X.heap.size, 0, none⟩ 1 1 [.int .i64 t.pos, .slice A m cap] rfl (cells_at2 X _ rfl _ _ _) (by intro u hu; simp at hu; rcases hu with rfl | rfl <;> rfl) (by have := HAL.out; have := HNL.out; unfold maxLen; omega) (by have := HAL.out; have := HNL.out; omega) (by have := hgx; simp; omega)
          obtain ⟨A3, cap3, rfl⟩ := row_val hown3
          have HFIN := Lib.hid (pushW (dl := dl) HNX.out (row_below HRA.out HBX.out) (row_below HRW.out HBX.out) (row_below HRR.out HBX.out) (HI5.out.mono (pb_mono (NFr.of_below HBX.out HN1.out.lt) (fun r hr => .inl hr))) (HI6.out.mono (pb_mono (NFr.of_below HBX.out HN1.out.lt) (fun r hr => .inl hr))) (HI7.out.mono (pb_mono (NFr.of_below HBX.out HN1.out.lt) (fun r hr => .inl hr))) HXV.out hgrow3 hwhere ⟨t.pos, ps⟩ A cap m HM.out.symm HPX.out hown3)
          have HRUN := Lib.hid hrun
          obtain ⟨-, -, -, -, n4, n5, -, -, -⟩ := HNX.out.cells
          have nf : X.frozen? ⟨g, 5, none⟩ = false := HNX.out.thaw 5
          have hw3g := hgrow3.block g (Nat.lt_of_lt_of_le hgx HXV.out.size) (fun e => by have := (HRW.out.lt g e.symm).1; omega)
          have hwt : w3.frozen? ⟨g, 5, none⟩ = false := by
            have : w3.heap[g]? = _ := hw3g.trans ((HXV.out.block g hgx).trans HNX.out)
            exact Lib.frozen_of_heap this 5
          have hwc := (show w3.cell? ⟨g, 5, none⟩ = some (.slice Aw k cw) from by
            have : w3.heap[g]? = _ := hw3g.trans ((HXV.out.block g hgx).trans HNX.out)
            exact by rw [← HK.out]; exact Lib.cell_of_heap this 5)
          rw [HK.out] at HRUN n5 HFIN
          clear hown3 hgrow3 hwhere hrun hi hz0 hz1 hz2 hw3g
          go_wp2_with fail
          apply merge
          case h =>
            intro hrest
            go_region_law (refine step_append_eq rfl _ _ 27 rfl 27 rfl _ _ rfl rfl HRUN.out ?_)
            all_goals (with_reducible exact hrest.out)
          case g =>
            go_wp2
            go_ret2
            rw [HRE.out]
            exact ⟨rfl, (NFr.of_below (btr HB1.out HBX.out) hg).trans HFIN.out.1, HFIN.out.2⟩
      have hkz : ¬ k = 0 := by assumption
      have hk1 : ((k : Int) == 0) = false := by rw [beq_eq_false_iff_ne]; omega
      have HRE := Lib.hid (show R = .word ⟨t.pos, ps⟩ from HRB.out.trans (if_neg (fun e => hkz e.1)))
      obtain ⟨X, hX⟩ : ∃ X, X = V2 := ⟨_, rfl⟩
      have HBX := Lib.hid (show Below V1.heap.size V1 X from by rw [hX]; exact HBV.out)
      have HPX := Lib.hid (show PS X (pb X g dl) A ps from PS.fresh HN1.out HRA.out HRW.out HRR.out (fun r hr => by have := HDL.out r hr; have := HB1.out.size; omega) HBX.out (by rw [hX]; exact HPS.out))
      clear hkz
      rw [← hX] at n5 c0 c1 c2 c3 ⊢
      clear hX
      obtain ⟨i0, hi, hz0, hz1, hz2⟩ := info_parts infoWord
      have HXV := Lib.hid (show Below X.heap.size X ((X.alloc (.cells #[.int .i64 t.pos, .slice A m cap] 39)).drew) from (balloc _ _).drew)
      have hgx : g < X.heap.size := by have := HBX.out.size; have := HN1.out.lt; omega
      have HNX := Lib.hid (HN1.out.kept (HBX.out.block g HN1.out.lt))
      obtain ⟨v3, w3, hrun, hown3, hgrow3, -, hwhere⟩ := run_append_own_at (P := Try.prog) ((X.alloc (.cells #[.int .i64 t.pos, .slice A m cap] 39)).drew) (g + 1) 27 27 39 i0 _ 2 32 Try.underlying27 hi hz0 hz1 hz2 rfl (by decide) (.slice Aw ws.length cw) ws.length _ (row_below (row_below HRW.out HBX.out) HXV.out) ⟨X.heap.size, 0, none⟩ 1 1 [.int .i64 t.pos, .slice A m cap] rfl (cells_at2 X _ rfl _ _ _) (by intro u hu; simp at hu; rcases hu with rfl | rfl <;> rfl) (by have := HAL.out; have := HNL.out; unfold maxLen; omega) (by have := HAL.out; have := HNL.out; omega) (by have := hgx; simp; omega)
      obtain ⟨A3, cap3, rfl⟩ := row_val hown3
      have HFIN := Lib.hid (pushW (dl := dl) HNX.out (row_below HRA.out HBX.out) (row_below HRW.out HBX.out) (row_below HRR.out HBX.out) (HI5.out.mono (pb_mono (NFr.of_below HBX.out HN1.out.lt) (fun r hr => .inl hr))) (HI6.out.mono (pb_mono (NFr.of_below HBX.out HN1.out.lt) (fun r hr => .inl hr))) (HI7.out.mono (pb_mono (NFr.of_below HBX.out HN1.out.lt) (fun r hr => .inl hr))) HXV.out hgrow3 hwhere ⟨t.pos, ps⟩ A cap m HM.out.symm HPX.out hown3)
      have HRUN := Lib.hid hrun
      obtain ⟨-, -, -, -, n4, n5, -, -, -⟩ := HNX.out.cells
      have nf : X.frozen? ⟨g, 5, none⟩ = false := HNX.out.thaw 5
      have hw3g := hgrow3.block g (Nat.lt_of_lt_of_le hgx HXV.out.size) (fun e => by have := (HRW.out.lt g e.symm).1; omega)
      have hwt : w3.frozen? ⟨g, 5, none⟩ = false := by
        have : w3.heap[g]? = _ := hw3g.trans ((HXV.out.block g hgx).trans HNX.out)
        exact Lib.frozen_of_heap this 5
      have hwc := (show w3.cell? ⟨g, 5, none⟩ = some (.slice Aw k cw) from by
        have : w3.heap[g]? = _ := hw3g.trans ((HXV.out.block g hgx).trans HNX.out)
        exact by rw [← HK.out]; exact Lib.cell_of_heap this 5)
      rw [HK.out] at HRUN n5 HFIN
      clear hown3 hgrow3 hwhere hrun hi hz0 hz1 hz2 hw3g
      go_wp2_with fail
      apply merge
      case h =>
        intro hrest
        go_region_law (refine step_append_eq rfl _ _ 27 rfl 27 rfl _ _ rfl rfl HRUN.out ?_)
        all_goals (with_reducible exact hrest.out)
      case g =>
        go_wp2
        go_ret2
        rw [HRE.out]
        exact ⟨rfl, (NFr.of_below (btr HB1.out HBX.out) hg).trans HFIN.out.1, HFIN.out.2⟩
  | true =>
    by_cases hkz : k = 0
    case neg =>
      have hkt : ((k : Int) == 0) = false := by rw [beq_eq_false_iff_ne]; omega
      have HRB := Lib.hid (show R = SC.addW k t (WP.parse t.text 0) from HR.out.symm.trans (if_neg (fun e => hkz e.2)))
      have HP := Lib.hid (fun V => Parse_any hB t.text V (by have := HTS.out; omega))
      go_wp2_with fail
      refine (HP.out _).mono ?_
      intro e V2 ho
      cases hps : WP.parse t.text 0 with
      | error y =>
        rw [hps] at ho HRB
        obtain ⟨rfl, hb⟩ := ho
        have hy := WP.parse_code hps
        have hyn : ((y.2 : Int) == 0) = false := by rw [beq_eq_false_iff_ne]; omega
        have hym : ((y.2 : Int) != 0) = true := by simp [bne, hyn]
        obtain ⟨ev, hev⟩ : ∃ ev, IntKind.i64.wrap ((t.pos : Int) + (y.1 : Int)) = ev := ⟨_, rfl⟩
        have HRE := Lib.hid (show R = .err ev y.2 from by rw [← hev]; exact HRB.out)
        have HB2 := Lib.hid (btr HB1.out hb)
        have HX2 := Lib.hid ((hb.block _ (by omega)).trans HX1.out)
        clear hb c0 c1 c2 c3 n4 n5
        obtain ⟨c0, c1, c2, c3, -, -, -, -⟩ := blk4 HX2.out
        dsimp only
        go_wp2
        go_ret2
        rw [HRE.out]
        exact ⟨rfl, HB2.out⟩
      | ok ps =>
        rw [hps] at ho HRB
        obtain ⟨A, cap, rfl, hb, hrep⟩ := ho
        obtain ⟨wt1, wt2⟩ := WP.parse_wt hps
        have HWT := Lib.hid (And.intro wt1 wt2)
        have HB2 := Lib.hid (btr HB1.out hb)
        have HBV := Lib.hid hb
        have HE2 := Lib.hid (HE1.out.below hb)
        have HX2 := Lib.hid ((hb.block _ (by omega)).trans HX1.out)
        have HPS := Lib.hid (show PS V2 (fun b => V1.heap.size ≤ b) A ps from hrep)
        have hsv := hb.size
        obtain ⟨m, hm⟩ : ∃ m, ps.length = m := ⟨_, rfl⟩
        have HM := Lib.hid hm
        rw [hm]
        have m0 : (0 : Int) ≤ (m : Int) := by omega
        have n5 := (show V2.cell? ⟨g, 5, none⟩ = some (.slice Aw k cw) from by rw [← HK.out]; exact (HN1.out.kept (hb.block g HN1.out.lt)).cells.2.2.2.2.2.1)
        clear hb hrep hps c0 c1 c2 c3 n4 hm wt1 wt2
        obtain ⟨c0, c1, c2, c3, -, -, -, -⟩ := blk4 HX2.out
        have hkz : ¬ k = 0 := by assumption
        have hk1 : ((k : Int) == 0) = false := by rw [beq_eq_false_iff_ne]; omega
        have HRE := Lib.hid (show R = .word ⟨t.pos, ps⟩ from HRB.out.trans (if_neg (fun e => hkz e.1)))
        obtain ⟨X, hX⟩ : ∃ X, X = V2 := ⟨_, rfl⟩
        have HBX := Lib.hid (show Below V1.heap.size V1 X from by rw [hX]; exact HBV.out)
        have HPX := Lib.hid (show PS X (pb X g dl) A ps from PS.fresh HN1.out HRA.out HRW.out HRR.out (fun r hr => by have := HDL.out r hr; have := HB1.out.size; omega) HBX.out (by rw [hX]; exact HPS.out))
        clear hkz
        rw [← hX] at n5 c0 c1 c2 c3 ⊢
        clear hX
        obtain ⟨i0, hi, hz0, hz1, hz2⟩ := info_parts infoWord
        have HXV := Lib.hid (show Below X.heap.size X ((X.alloc (.cells #[.int .i64 t.pos, .slice A m cap] 39)).drew) from (balloc _ _).drew)
        have hgx : g < X.heap.size := by have := HBX.out.size; have := HN1.out.lt; omega
        have HNX := Lib.hid (HN1.out.kept (HBX.out.block g HN1.out.lt))
        obtain ⟨v3, w3, hrun, hown3, hgrow3, -, hwhere⟩ := run_append_own_at (P := Try.prog) ((X.alloc (.cells #[.int .i64 t.pos, .slice A m cap] 39)).drew) (g + 1) 27 27 39 i0 _ 2 32 Try.underlying27 hi hz0 hz1 hz2 rfl (by decide) (.slice Aw ws.length cw) ws.length _ (row_below (row_below HRW.out HBX.out) HXV.out) ⟨X.heap.size, 0, none⟩ 1 1 [.int .i64 t.pos, .slice A m cap] rfl (cells_at2 X _ rfl _ _ _) (by intro u hu; simp at hu; rcases hu with rfl | rfl <;> rfl) (by have := HAL.out; have := HNL.out; unfold maxLen; omega) (by have := HAL.out; have := HNL.out; omega) (by have := hgx; simp; omega)
        obtain ⟨A3, cap3, rfl⟩ := row_val hown3
        have HFIN := Lib.hid (pushW (dl := dl) HNX.out (row_below HRA.out HBX.out) (row_below HRW.out HBX.out) (row_below HRR.out HBX.out) (HI5.out.mono (pb_mono (NFr.of_below HBX.out HN1.out.lt) (fun r hr => .inl hr))) (HI6.out.mono (pb_mono (NFr.of_below HBX.out HN1.out.lt) (fun r hr => .inl hr))) (HI7.out.mono (pb_mono (NFr.of_below HBX.out HN1.out.lt) (fun r hr => .inl hr))) HXV.out hgrow3 hwhere ⟨t.pos, ps⟩ A cap m HM.out.symm HPX.out hown3)
        have HRUN := Lib.hid hrun
        obtain ⟨-, -, -, -, n4, n5, -, -, -⟩ := HNX.out.cells
        have nf : X.frozen? ⟨g, 5, none⟩ = false := HNX.out.thaw 5
        have hw3g := hgrow3.block g (Nat.lt_of_lt_of_le hgx HXV.out.size) (fun e => by have := (HRW.out.lt g e.symm).1; omega)
        have hwt : w3.frozen? ⟨g, 5, none⟩ = false := by
          have : w3.heap[g]? = _ := hw3g.trans ((HXV.out.block g hgx).trans HNX.out)
          exact Lib.frozen_of_heap this 5
        have hwc := (show w3.cell? ⟨g, 5, none⟩ = some (.slice Aw k cw) from by
          have : w3.heap[g]? = _ := hw3g.trans ((HXV.out.block g hgx).trans HNX.out)
          exact by rw [← HK.out]; exact Lib.cell_of_heap this 5)
        rw [HK.out] at HRUN n5 HFIN
        clear hown3 hgrow3 hwhere hrun hi hz0 hz1 hz2 hw3g
        go_wp2_with fail
        apply merge
        case h =>
          intro hrest
          go_region_law (refine step_append_eq rfl _ _ 27 rfl 27 rfl _ _ rfl rfl HRUN.out ?_)
          all_goals (with_reducible exact hrest.out)
        case g =>
          go_wp2
          go_ret2
          rw [HRE.out]
          exact ⟨rfl, (NFr.of_below (btr HB1.out HBX.out) hg).trans HFIN.out.1, HFIN.out.2⟩
    have hkt : ((k : Int) == 0) = true := by rw [beq_iff_eq]; omega
    obtain ⟨p, hp⟩ : ∃ p, IntKind.i64.wrap ((t.stop : Int) - (vl.length : Int)) = p := ⟨_, rfl⟩
    have HRB := Lib.hid (show R = SC.addA t nm p (WP.parse vl 0) from by rw [← hp]; exact HR.out.symm.trans (if_pos ⟨rfl, hkz⟩))
    have HP := Lib.hid (fun V => Parse_any hB vl V (by have := HVL.out; omega))
    clear hkz
    go_wp2_with fail
    refine (HP.out _).mono ?_
    intro e V2 ho
    cases hps : WP.parse vl 0 with
    | error y =>
      rw [hps] at ho HRB
      obtain ⟨rfl, hb⟩ := ho
      have hy := WP.parse_code hps
      have hyn : ((y.2 : Int) == 0) = false := by rw [beq_eq_false_iff_ne]; omega
      have hym : ((y.2 : Int) != 0) = true := by simp [bne, hyn]
      obtain ⟨ev, hev⟩ : ∃ ev, IntKind.i64.wrap (p + (y.1 : Int)) = ev := ⟨_, rfl⟩
      have HRE := Lib.hid (show R = .err ev y.2 from by rw [← hev]; exact HRB.out)
      have HB2 := Lib.hid (btr HB1.out hb)
      clear hb c0 c1 c2 c3 n4 n5
      dsimp only
      go_wp2
      go_ret2
      rw [HRE.out]
      exact ⟨rfl, HB2.out⟩
    | ok ps =>
      rw [hps] at ho HRB
      obtain ⟨A, cap, rfl, hb, hrep⟩ := ho
      have HRE := Lib.hid (show R = .asg ⟨t.pos, nm, p, ps⟩ from HRB.out)
      have HX2 := Lib.hid ((hb.block _ (by omega)).trans HX1.out)
      obtain ⟨m, hm⟩ : ∃ m, ps.length = m := ⟨_, rfl⟩
      have HM := Lib.hid hm
      rw [hm]
      have m0 : (0 : Int) ≤ (m : Int) := by omega
      obtain ⟨X, hX⟩ : ∃ X, X = V2 := ⟨_, rfl⟩
      rw [← hX] at hb HX2 hrep ⊢
      have HBX := Lib.hid hb
      have HPX := Lib.hid (PS.fresh (dl := dl) HN1.out HRA.out HRW.out HRR.out (fun r hr => by have := HDL.out r hr; have := HB1.out.size; omega) hb hrep)
      clear hb hrep hps hX c0 c1 c2 c3 n4 n5 hm
      obtain ⟨c0, c1, c2, c3, -, -, -, -⟩ := blk4 HX2.out
      obtain ⟨i0, hi, hz0, hz1, hz2⟩ := info_parts infoAsg
      have HXV := Lib.hid (show Below X.heap.size X ((X.alloc (.cells #[.int .i64 t.pos, .string ⟨nm.toArray⟩, .int .i64 p, .slice A m cap] 54)).drew) from (balloc _ _).drew)
      have hgx : g < X.heap.size := by have := HBX.out.size; have := HN1.out.lt; omega
      have HNX := Lib.hid (HN1.out.kept (HBX.out.block g HN1.out.lt))
      obtain ⟨v3, w3, hrun, hown3, hgrow3, -, hwhere⟩ := run_append_own_at (P := Try.prog) ((X.alloc (.cells #[.int .i64 t.pos, .string ⟨nm.toArray⟩, .int .i64 p, .slice A m cap] 54)).drew) (g + 1) 26 26 54 i0 _ 4 56 Try.underlying26 hi hz0 hz1 hz2 rfl (by decide) (.slice Aa qs.length ca) qs.length _ (row_below (row_below HRA.out HBX.out) HXV.out) ⟨X.heap.size, 0, none⟩ 1 1 [.int .i64 t.pos, .string ⟨nm.toArray⟩, .int .i64 p, .slice A m cap] rfl (cells_at4 X _ rfl _ _ _ _ _) (by intro u hu; simp at hu; rcases hu with rfl | rfl | rfl | rfl <;> rfl) (by have := HAL.out; have := HNL.out; unfold maxLen; omega) (by have := HAL.out; have := HNL.out; omega) (by have := hgx; simp; omega)
      obtain ⟨A3, cap3, rfl⟩ := row_val hown3
      have HFIN := Lib.hid (pushA (dl := dl) HNX.out (row_below HRA.out HBX.out) (row_below HRW.out HBX.out) (row_below HRR.out HBX.out) (HI5.out.mono (pb_mono (NFr.of_below HBX.out HN1.out.lt) (fun r hr => .inl hr))) (HI6.out.mono (pb_mono (NFr.of_below HBX.out HN1.out.lt) (fun r hr => .inl hr))) (HI7.out.mono (pb_mono (NFr.of_below HBX.out HN1.out.lt) (fun r hr => .inl hr))) HXV.out hgrow3 hwhere ⟨t.pos, nm, p, ps⟩ A cap m HM.out.symm HPX.out hown3)
      have HRUN := Lib.hid hrun
      obtain ⟨-, -, -, -, n4, n5, -, -, -⟩ := HNX.out.cells
      have nf : X.frozen? ⟨g, 4, none⟩ = false := HNX.out.thaw 4
      have hw3g := hgrow3.block g (Nat.lt_of_lt_of_le hgx HXV.out.size) (fun e => by have := (HRA.out.lt g e.symm).1; omega)
      have hwt : w3.frozen? ⟨g, 4, none⟩ = false := by
        have : w3.heap[g]? = _ := hw3g.trans ((HXV.out.block g hgx).trans HNX.out)
        exact Lib.frozen_of_heap this 4
      have hwc := (show w3.cell? ⟨g, 4, none⟩ = some (.slice Aa qs.length ca) from by
        have : w3.heap[g]? = _ := hw3g.trans ((HXV.out.block g hgx).trans HNX.out)
        exact Lib.cell_of_heap this 4)
      skip
      clear hown3 hgrow3 hwhere hrun hi hz0 hz1 hz2 hw3g
      go_wp2_with fail
      apply merge
      case h =>
        intro hrest
        go_region_law (refine step_append_eq rfl _ _ 26 rfl 26 rfl _ _ rfl rfl HRUN.out ?_)
        all_goals (with_reducible exact hrest.out)
      case g =>
        go_wp2
        go_ret2
        rw [HRE.out]
        exact ⟨rfl, (NFr.of_below (btr HB1.out HBX.out) hg).trans HFIN.out.1, HFIN.out.2⟩
end W
end Go.Proofs.Ytlhijlmbfjlglaa
namespace Go.Proofs.Ytlhijlmbfjlglaa
open Go.RowKit K
open WP (GP gp gpL)
namespace W
/-- append whose run is known. -/
theorem wpList_append_eq {P : Program} {w w' : World} {ops : Array Oper} {rest : List Oper} {o : Oper} {a : Act} {Q : Exit → Act → World → Prop} (hgd : o.guard = none) (s x : Operand) (t : TypeId)
    (ho : o.op = .call { callee := .builtin .append, args := #[s, x], argTypes := #[t, t] }) (v u v' : Value) (hs : a.eval s = v) (hx : a.eval x = u)
    (hr : (Builtin.append_ #[t, t] o.type #[v, u]).run P w = .ok v' w') (h : wpList P ops Q rest (a.put o.dst v') w') : wpList P ops Q (o :: rest) a w := by
  refine wpList_plain hgd fun K hK => ?_
  unfold Oper.wp execOp
  simp only [ho, resolve, invoke, builtin, Sem.run_bind, Sem.run_pure, Result.andThen_ok, List.map_toArray, List.map_cons, List.map_nil, hs, hx, hr]
  exact hK _ _ h
theorem row_base {w : World} {B B' : Nat} {e : TypeId} {k : Nat} {v : Value} {n : Nat} {xs : List Value} (h : w.ownsRow B e k v n xs) (hb : B' ≤ B) : w.ownsRow B' e k v n xs := by
  refine ⟨h.1, ?_⟩
  rcases h.2 with e | ⟨q, cap, cur, h1, h2, h3⟩
  · exact .inl e
  · exact .inr ⟨q, cap, cur, h1, by omega, h3⟩
/-- A command under way, in memory: the result's box at B, the node's behind it, the delimiters' row. -/
structure CW (w wr : World) (dl : Value) (pos : Int) (qs : List SC.As) (ws : List SC.Wd) (rs : List SC.Rd) (ds : List SC.Dl) : Prop where
  below : Below w.heap.size w wr
  res : wr.heap[w.heap.size]? = some (.cells #[.int .i64 0, .int .i64 0, .string ⟨#[]⟩, .bool false, .slice none 0 0, .slice none 0 0, .slice none 0 0, .slice none 0 0, .slice none 0 0] 32 (0, 0))
  node : NS wr (w.heap.size + 1) dl pos qs ws rs
  row : wr.ownsRow (w.heap.size + 1 + 1) 56 3 dl ds.length (ds.flatMap dlC)
section
variable {w wr V U : World} {dl : Value} {pos : Int} {qs : List SC.As} {ws : List SC.Wd} {rs : List SC.Rd} {ds : List SC.Dl}
theorem CW.lt (h : CW w wr dl pos qs ws rs ds) : w.heap.size + 1 < wr.heap.size := h.node.lt
theorem CW.dlt (h : CW w wr dl pos qs ws rs ds) : ∀ r, dl.ownBlock = some r → r < wr.heap.size := own_lt h.row
theorem CW.go (h : CW w wr dl pos qs ws rs ds) (hb : Below wr.heap.size wr V) : CW w V dl pos qs ws rs ds :=
  ⟨btr h.below hb, (hb.block _ (by have := h.lt; omega)).trans h.res, h.node.below hb, row_below h.row hb⟩
/-- Behind what turns the node's own blocks alone. -/
theorem CW.nfr {pos' : Int} {qs' : List SC.As} {ws' : List SC.Wd} {rs' : List SC.Rd} (h : CW w wr dl pos qs ws rs ds) (hf : NFr (w.heap.size + 1) wr V) (hn : NS V (w.heap.size + 1) dl pos' qs' ws' rs') : CW w V dl pos' qs' ws' rs' ds :=
  ⟨h.below.trans (hf.below.mono (by omega)), (hf.below.block _ (by omega)).trans h.res, hn, row_nfr hf h.node h.row⟩
theorem CW.set1 (h : CW w wr dl pos qs ws rs ds) (p : Int) : CW w (wr.setCell ⟨w.heap.size + 1, 1, none⟩ (.int .i64 p)) dl p qs ws rs ds :=
  h.nfr (h.node.set1 p).2 (h.node.set1 p).1
/-- A block made behind the command is none of its own. -/
theorem CW.apart (h : CW w wr dl pos qs ws rs ds) (hb : Below wr.heap.size wr V) {q : Nat} (hq : wr.heap.size ≤ q) : ¬ nown V (w.heap.size + 1) q ∧ dl.ownBlock ≠ some q := by
  obtain ⟨va, vw, vr, ac, wc, rc, h1, h2, h3, h4, -⟩ := h.node
  refine ⟨fun e => ?_, fun e => ?_⟩
  · rw [nown_same (hb.block _ h1.lt), nown_iff h1] at e
    rcases e with e | e | e | e
    · have := h1.lt; omega
    · have := own_lt h2 _ e; omega
    · have := own_lt h3 _ e; omega
    · have := own_lt h4 _ e; omega
  · have := h.dlt q e; omega
theorem CW.parts (h : CW w wr dl pos qs ws rs ds) (hb : Below wr.heap.size wr V) {A : Option Addr} {ps : List WP.Part} (hp : PS V (fun b => wr.heap.size ≤ b) A ps) : PS V (pb V (w.heap.size + 1) dl) A ps :=
  hp.mono fun b hb1 _ => ⟨⟨by have := h.lt; omega, h.apart hb hb1⟩, rfl⟩
theorem cells_at5 (w : World) (k : Nat) (hk : k = w.heap.size) (a b c d e : Value) (T : TypeId) : ∀ (j : Nat) (u : Value), [a, b, c, d, e][j]? = some u → (w.alloc (.cells #[a, b, c, d, e] T)).cell? ((⟨k, 0, none⟩ : Addr).add j) = some u := by
  subst hk
  intro j u hj
  match j, hj with
  | 0, hj => simp at hj; subst hj; simp [Addr.add]
  | 1, hj => simp at hj; subst hj; simp [Addr.add]
  | 2, hj => simp at hj; subst hj; simp [Addr.add]
  | 3, hj => simp at hj; subst hj; simp [Addr.add]
  | 4, hj => simp at hj; subst hj; simp [Addr.add]
  | n + 5, hj => simp at hj
/-- Region 15: a redirection appended. -/
theorem CW.appR (h : CW w V dl pos qs ws rs ds) (r : SC.Rd) (A : Option Addr) (n cap : Nat) (hn : n = r.parts.length) (hp : PS V (pb V (w.heap.size + 1) dl) A r.parts) (hl : rs.length ≤ 90000) :
    ∃ Ar cr A3 c3 w3, V.cell? ⟨w.heap.size + 1, 6, none⟩ = some (.slice Ar rs.length cr) ∧
      (Builtin.append_ #[28, 28] 28 #[.slice Ar rs.length cr, .slice (some ⟨V.heap.size, 0, none⟩) 1 1]).run Try.prog (V.alloc (.cells #[.int .i64 r.pos, .int .i64 r.fd, .int .i64 r.op, .int .i64 r.wpos, .slice A n cap] 41)) = .ok (.slice A3 (rs.length + 1) c3) w3 ∧
      w3.cell? ⟨w.heap.size + 1, 6, none⟩ = some (.slice Ar rs.length cr) ∧ w3.frozen? ⟨w.heap.size + 1, 6, none⟩ = false ∧ NFr (w.heap.size + 1) V (w3.setCell ⟨w.heap.size + 1, 6, none⟩ (.slice A3 (rs.length + 1) c3)) ∧
      CW w (w3.setCell ⟨w.heap.size + 1, 6, none⟩ (.slice A3 (rs.length + 1) c3)) dl pos qs ws (rs ++ [r]) ds := by
  obtain ⟨va, vw, vr, ac, wc, rc, h1, h2, h3, h4, h5, h6, h7⟩ := h.node
  obtain ⟨Ar, cr, rfl⟩ := row_val h4
  obtain ⟨i0, hi, hz0, hz1, hz2⟩ := info_parts infoRedir
  have hx : Below V.heap.size V (V.alloc (.cells #[.int .i64 r.pos, .int .i64 r.fd, .int .i64 r.op, .int .i64 r.wpos, .slice A n cap] 41)) := balloc _ _
  have hg := h1.lt
  obtain ⟨v3, w3, hrun, hown3, hgrow3, -, hwhere⟩ := run_append_own_at (P := Try.prog) (V.alloc (.cells #[.int .i64 r.pos, .int .i64 r.fd, .int .i64 r.op, .int .i64 r.wpos, .slice A n cap] 41)) (w.heap.size + 1 + 1) 28 28 41 i0 _ 5 56 Try.underlying28 hi hz0 hz1 hz2 rfl (by decide) (.slice Ar rs.length cr) rs.length _ (row_below h4 hx) ⟨V.heap.size, 0, none⟩ 1 1 [.int .i64 r.pos, .int .i64 r.fd, .int .i64 r.op, .int .i64 r.wpos, .slice A n cap] rfl (cells_at5 V _ rfl _ _ _ _ _ _) (by intro u hu; simp at hu; rcases hu with rfl | rfl | rfl | rfl | rfl <;> rfl) (by unfold maxLen; omega) (by omega) (by simp; omega)
  obtain ⟨A3, c3, rfl⟩ := row_val hown3
  have hfin := pushR (dl := dl) h1 h2 h3 h4 h5 h6 h7 hx hgrow3 hwhere r A cap n hn hp hown3
  have hw3 : w3.heap[w.heap.size + 1]? = _ := (hgrow3.block _ (Nat.lt_of_lt_of_le hg hx.size) (fun e => by have := (h4.lt _ e.symm).1; omega)).trans ((hx.block _ hg).trans h1)
  exact ⟨Ar, cr, A3, c3, w3, Lib.cell_of_heap h1 6, hrun, Lib.cell_of_heap hw3 6, Lib.frozen_of_heap hw3 6, hfin.1, h.nfr hfin.1 hfin.2⟩
theorem cells_of3 {w : World} {q : Nat} {a b c : Value} {T : TypeId} (h : w.heap[q]? = some (.cells #[a, b, c] T (0, 0))) : ∀ (j : Nat) (u : Value), [a, b, c][j]? = some u → w.cell? ((⟨q, 0, none⟩ : Addr).add j) = some u := by
  have h0 := Lib.cell_of_heap h 0
  have h1 := Lib.cell_of_heap h 1
  have h2 := Lib.cell_of_heap h 2
  intro j u hj
  match j, hj with
  | 0, hj => simp at hj; subst hj; simpa [Addr.add] using h0
  | 1, hj => simp at hj; subst hj; simpa [Addr.add] using h1
  | 2, hj => simp at hj; subst hj; simpa [Addr.add] using h2
  | n + 3, hj => simp at hj
/-- Region 16: a delimiter appended. -/
theorem CW.appD {Ad : Option Addr} {cd : Nat} (h : CW w V (.slice Ad ds.length cd) pos qs ws rs ds) (d : SC.Dl) (q : Nat) (hq : V.heap[q]? = some (.cells #[.string ⟨d.text.toArray⟩, .bool d.strip, .bool d.quoted] 56 (0, 0))) (hl : ds.length ≤ 90000) :
    ∃ A3 c3 w3, (Builtin.append_ #[33, 33] 33 #[.slice Ad ds.length cd, .slice (some ⟨q, 0, none⟩) 1 1]).run Try.prog V = .ok (.slice A3 (ds.length + 1) c3) w3 ∧
      CW w w3 (.slice A3 (ds.length + 1) c3) pos qs ws rs (ds ++ [d]) := by
  obtain ⟨i0, hi, hz0, hz1, hz2⟩ := info_parts infoDelim
  have hg := h.lt
  obtain ⟨v3, w3, hrun, hown3, hgrow3, -, hwhere⟩ := run_append_own_at (P := Try.prog) V (w.heap.size + 1 + 1) 33 33 56 i0 _ 3 24 Try.underlying33 hi hz0 hz1 hz2 rfl (by decide) (.slice Ad ds.length cd) ds.length _ h.row ⟨q, 0, none⟩ 1 1 [.string ⟨d.text.toArray⟩, .bool d.strip, .bool d.quoted] rfl (cells_of3 hq) (by intro u hu; simp at hu; rcases hu with rfl | rfl | rfl <;> rfl) (by unfold maxLen; omega) (by omega) (by omega)
  obtain ⟨A3, c3, rfl⟩ := row_val hown3
  have hlo : ∀ r, (Value.slice Ad ds.length cd).ownBlock = some r → w.heap.size + 1 + 1 ≤ r := fun r hr => (h.row.lt r hr).1
  refine ⟨A3, c3, w3, hrun, h.below.grown hgrow3 (by omega) (fun r hr => by have := hlo r hr; omega), (hgrow3.block _ (by omega) (fun e => by have := hlo _ e.symm; omega)).trans h.res, h.node.push_d h.row (Below.refl _ _) hgrow3 hwhere, ?_⟩
  rw [List.length_append, List.length_singleton, List.flatMap_append, show [d].flatMap dlC = [.string ⟨d.text.toArray⟩, .bool d.strip, .bool d.quoted] by simp [dlC]]
  exact hown3
/-- The end: what the node holds, and the result's box. -/
theorem CW.fin {Ad : Option Addr} {cd : Nat} (h : CW w V (.slice Ad ds.length cd) pos qs ws rs ds) (a : Int) : ∃ Aa ca Aw cw Ar cr, NB V (w.heap.size + 1) pos (.slice Aa qs.length ca) (.slice Aw ws.length cw) (.slice Ar rs.length cr) ∧
    ∀ U, U = set9 V w.heap.size (.int .i64 1) (.int .i64 pos) (.string ⟨#[]⟩) (.bool false) (.slice Aa qs.length ca) (.slice Aw ws.length cw) (.slice Ar rs.length cr) (.slice none 0 0) (.slice none 0 0) →
      U.heap[w.heap.size]? = some (.cells #[.int .i64 1, .int .i64 pos, .string ⟨#[]⟩, .bool false, .slice Aa qs.length ca, .slice Aw ws.length cw, .slice Ar rs.length cr, .slice none 0 0, .slice none 0 0] 32 (0, 0)) ∧
      Below w.heap.size w U ∧ CmdOk U w.heap.size (.slice Aa qs.length ca) (.slice Aw ws.length cw) (.slice Ar rs.length cr) (.slice Ad ds.length cd) ⟨pos, qs, ws, rs, ds, a⟩ := by
  obtain ⟨va, vw, vr, ac, wc, rc, h1, h2, h3, h4, h5, h6, h7⟩ := h.node
  obtain ⟨Aa, ca, rfl⟩ := row_val h2
  obtain ⟨Aw, cw, rfl⟩ := row_val h3
  obtain ⟨Ar, cr, rfl⟩ := row_val h4
  refine ⟨Aa, ca, Aw, cw, Ar, cr, h1, ?_⟩
  rintro U rfl
  have hk : ∀ q, q ≠ w.heap.size → (set9 V w.heap.size (.int .i64 1) (.int .i64 pos) (.string ⟨#[]⟩) (.bool false) (.slice Aa qs.length ca) (.slice Aw ws.length cw) (.slice Ar rs.length cr) (.slice none 0 0) (.slice none 0 0)).heap[q]? = V.heap[q]? := fun q hq => set9_far hq _ _ _ _ _ _ _ _ _
  have hr : ∀ {T k v n xs}, V.ownsRow (w.heap.size + 1 + 1) T k v n xs → (set9 V w.heap.size (.int .i64 1) (.int .i64 pos) (.string ⟨#[]⟩) (.bool false) (.slice Aa qs.length ca) (.slice Aw ws.length cw) (.slice Ar rs.length cr) (.slice none 0 0) (.slice none 0 0)).ownsRow w.heap.size T k v n xs := by
    intro T k v n xs ho
    refine ⟨ho.1, ?_⟩
    rcases ho.2 with e | ⟨q, cap, cur, e1, e2, e3, e4⟩
    · exact .inl e
    · exact .inr ⟨q, cap, cur, e1, by omega, (hk q (by omega)).trans e3, e4⟩
  have hm : ∀ b, pb V (w.heap.size + 1) (.slice Ad ds.length cd) b → b < V.heap.size → True ∧ (set9 V w.heap.size (.int .i64 1) (.int .i64 pos) (.string ⟨#[]⟩) (.bool false) (.slice Aa qs.length ca) (.slice Aw ws.length cw) (.slice Ar rs.length cr) (.slice none 0 0) (.slice none 0 0)).heap[b]? = V.heap[b]? := fun b hb _ => ⟨trivial, hk b (by have := hb.1; omega)⟩
  exact ⟨set9_heap h.res _ _ _ _ _ _ _ _ _, set9_below h.below (Nat.le_refl _) _ _ _ _ _ _ _ _ _, ac, wc, rc, hr h2, hr h3, hr h4, hr h.row, h5.mono hm, h6.mono hm, h7.mono hm⟩
end
end W
end Go.Proofs.Ytlhijlmbfjlglaa
