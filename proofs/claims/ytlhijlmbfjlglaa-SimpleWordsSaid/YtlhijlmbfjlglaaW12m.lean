/- Chapter 12: Command walked. -/
import Derived.Test.YtlhijlmbfjlglaaYG
import Derived.Test.YtlhijlmbfjlglaaYD
import Derived.Test.YtlhijlmbfjlglaaP12c
import Derived.Deep.DeepCutAuto
import Derived.Deep.LoopGhost
namespace Go.Proofs.Ytlhijlmbfjlglaa
open Go.RowKit K
open WP (GP gp gpL)
namespace W
set_option maxRecDepth 100000 in
set_option maxHeartbeats 16000000 in
theorem Command_any (hB : BrAll) (s : List UInt8) (z : Int) (w : World) (hw : Env w) (hl : s.length ≤ 16384) (hRed : ∀ (y : Int) (V : World), Calls Try.prog 10 #[.string ⟨s.toArray⟩, .int .i64 y] V (RedOut V (SC.redir s y))) :
    Calls Try.prog 9 #[.string ⟨s.toArray⟩, .int .i64 z] w (CmdOut w (SC.command s z)) := by
  have HNX := Lib.hid (fun (y : Int) (t : LX.Tok) (x : Int) V (h : LX.next s (LX.clamp s y) = (t, x)) => Next_any s y V t.kind t.pos t.stop t.text x (by omega) h)
  have HRX := Lib.hid hRed
  have HM := Lib.hid (fun (t : LX.Tok) V => missing_run t V)
  have HE := Lib.hid hw
  have HL := Lib.hid hl
  obtain ⟨R, hR⟩ : ∃ R, SC.command s z = R := ⟨_, rfl⟩
  rw [hR]
  have HR0 := Lib.hid (show R = SC.cmd s (s.length + 1) 0 ⟨0, [], [], [], [], z⟩ from hR.symm)
  obtain ⟨V0, hV0⟩ : ∃ V0, V0 = (w.alloc (.cells #[.int .i64 0, .int .i64 0, .string ⟨#[]⟩, .bool false, .slice none 0 0, .slice none 0 0, .slice none 0 0, .slice none 0 0, .slice none 0 0] 32)).alloc (.cells #[.int .i64 1, .int .i64 0, .string ⟨#[]⟩, .bool false, .slice none 0 0, .slice none 0 0, .slice none 0 0, .slice none 0 0, .slice none 0 0] 32) := ⟨_, rfl⟩
  have HC0 := Lib.hid (show CW w V0 (.slice none 0 0) 0 [] [] [] [] from by
    rw [hV0]
    exact ⟨btr (balloc _ _) (balloc _ _), ((balloc _ _).block _ (by simp)).trans (al_new w _), ⟨.slice none 0 0, .slice none 0 0, .slice none 0 0, [], [], [], al_new' _ _ _ (by simp), ⟨rfl, .inl ⟨rfl, rfl⟩⟩, ⟨rfl, .inl ⟨rfl, rfl⟩⟩, ⟨rfl, .inl ⟨rfl, rfl⟩⟩, rfl, rfl, rfl⟩, ⟨rfl, .inl ⟨rfl, rfl⟩⟩⟩)
  have HV0 := Lib.hid hV0
  clear hR hV0 hw hl hRed
  go_enter Try.func9, Try.ntmps9
  go_wp2
  rw [← HV0.out]
  go_loopg [1, 9, 10] (s.length - LX.clamp s z) (fun k u d c wr => ∃ (n : Nat) (pos : Int) (qs : List SC.As) (ws : List SC.Wd) (rs : List SC.Rd) (ds : List SC.Dl) (a : Int), u = .int .i64 a ∧ c = .int .i64 n ∧
    Hid (k = s.length - LX.clamp s a ∧ n ≤ LX.clamp s a ∧ qs.length ≤ n ∧ ws.length ≤ n ∧ rs.length ≤ n ∧ ds.length ≤ n) ∧ Hid (∃ f, s.length < f + LX.clamp s a ∧ R = SC.cmd s f n ⟨pos, qs, ws, rs, ds, a⟩) ∧ Hid (CW w wr d pos qs ws rs ds))
  case atStart => exact ⟨0, 0, [], [], [], [], z, rfl, rfl, Lib.hid ⟨rfl, Nat.zero_le _, Nat.le_refl _, Nat.le_refl _, Nat.le_refl _, Nat.le_refl _⟩, Lib.hid ⟨s.length + 1, by omega, HR0.out⟩, HC0⟩
  case round =>
    obtain ⟨n, pos, qs, ws, rs, ds, a, rfl, rfl, HN, HF, HC⟩ := hrel
    clear HR0 HC0 HV0
    obtain ⟨Ad, cd, rfl⟩ := row_val HC.out.row
    obtain ⟨f, hf, hR⟩ := HF.out
    have hcl := LX.clamp_le s a
    obtain ⟨f, rfl⟩ : ∃ f', f = f' + 1 := ⟨f - 1, by omega⟩
    obtain ⟨t, x, ht⟩ : ∃ t x, LX.next s (LX.clamp s a) = (t, x) := ⟨_, _, rfl⟩
    have hR2 : R = if x = 0 then SC.stepA (SC.cmd s f (n + 1)) n (if n = 0 then ⟨t.pos, qs, ws, rs, ds, a⟩ else ⟨pos, qs, ws, rs, ds, a⟩) t (SC.redir s a) else .err t.pos x := by
      rw [hR, SC.cmd]
      dsimp only
      rw [ht]
    have HT := Lib.hid (HNX.out a t x wr ht)
    have HTT := Lib.hid (tok_text ht)
    have HTQ := Lib.hid ht
    have HFU := Lib.hid hf
    have HRR := Lib.hid hR2
    have n0 : (0 : Int) ≤ (n : Int) := by omega
    have n1 : (n : Int) ≤ 16384 := by have := HN.out.2.1; have := HL.out; omega
    obtain ⟨d0, hd0⟩ : ∃ d0, d0 = ds.length := ⟨_, rfl⟩
    have HD0 := Lib.hid hd0
    rw [← hd0] at HC ⊢
    have d1 : (0 : Int) ≤ (d0 : Int) := by omega
    clear hR hf hcl ht hR2 HF hd0
    go_wp2_with fail
    refine HT.out.mono ?_
    rintro e V1 ⟨rfl, hb⟩
    obtain ⟨V2, hV2⟩ : ∃ V2, V2 = V1.alloc (.cells #[.int .i64 t.kind, .int .i64 t.pos, .int .i64 t.stop, .string ⟨t.text.toArray⟩] 60) := ⟨_, rfl⟩
    obtain ⟨q1, hq1⟩ : ∃ q1, q1 = V1.heap.size := ⟨_, rfl⟩
    have hb2 : Below wr.heap.size wr V2 := by rw [hV2]; exact btr hb (balloc _ _)
    have HC2 := Lib.hid (HC.out.go hb2)
    have HX2 := Lib.hid (show V2.heap[q1]? = some (.cells #[.int .i64 t.kind, .int .i64 t.pos, .int .i64 t.stop, .string ⟨t.text.toArray⟩] 60 (0, 0)) by rw [hV2, hq1]; exact al_new V1 _)
    have hqw : w.heap.size + 1 < q1 := by rw [hq1]; exact Nat.lt_of_lt_of_le HC.out.lt hb.size
    have HA2 := Lib.hid ((HC.out.apart hb2 (show wr.heap.size ≤ q1 by rw [hq1]; exact hb.size)).1)
    have HV2 := Lib.hid hV2
    have HQ1 := Lib.hid hq1
    clear hb hb2 hV2 hq1 HC HT
    go_upto_if 29 with (fail)
    rw [← HV2.out, ← HQ1.out]
    by_cases hx : x = 0
    case neg =>
      have hxn : (x == 0) = false := by rw [beq_eq_false_iff_ne]; exact hx
      have hxm : (x != 0) = true := by simp [bne, hxn]
      have HRE := Lib.hid (HRR.out.trans (if_neg hx))
      obtain ⟨r0, r1, r2, r3, r4, r5, r6, r7, r8, rf0, rf1, rf2, rf3, rf4, rf5, rf6, rf7, rf8⟩ := blk9 HC2.out.res
      obtain ⟨c0, c1, c2, c3, -, -, -, -⟩ := blk4 HX2.out
      have hkerr := 0
      go_wp2_with fail
      go_region
      repeat go_step
      refine bodyPost_ret (v := .tuple #[.agg #[.int .i64 0, .int .i64 0, .string ⟨#[]⟩, .bool false, .slice none 0 0, .slice none 0 0, .slice none 0 0, .slice none 0 0, .slice none 0 0], .slice none 0 0, .int .i64 t.pos, .int .i64 x]) (by simp [results, Try.results9, go_sem, r0, r1, r2, r3, r4, r5, r6, r7, r8]) rfl ?_
      rw [HRE.out]
      exact ⟨rfl, (set9_below HC2.out.below (Nat.le_refl _) _ _ _ _ _ _ _ _ _).drew⟩
    subst hx
    have HR1 := Lib.hid (HRR.out.trans (if_pos rfl))
    have HTF := Lib.hid (LX.next_far (LX.clamp_le s a) HTQ.out)
    clear HRR
    go_upto_if 35 with (fail)
    go_cut [] (fun wx => ∃ p : Int, Hid (R = SC.stepA (SC.cmd s f (n + 1)) n ⟨p, qs, ws, rs, ds, a⟩ t (SC.redir s a)) ∧ Hid (CW w wx (.slice Ad d0 cd) p qs ws rs ds) ∧ Hid (wx.heap[q1]? = some (.cells #[.int .i64 t.kind, .int .i64 t.pos, .int .i64 t.stop, .string ⟨t.text.toArray⟩] 60 (0, 0))) ∧ Hid (¬ nown wx (w.heap.size + 1) q1))
    case first =>
      have hkfirst := 0
      by_cases hn : n = 0
      case pos =>
        have hn0 : ((n : Int) == 0) = true := by rw [beq_iff_eq]; omega
        have HRE := Lib.hid (HR1.out.trans (by rw [if_pos hn]))
        obtain ⟨c0, c1, c2, c3, -, -, -, -⟩ := blk4 HX2.out
        obtain ⟨va, vw, vr, -, -, -, hnb, -⟩ := HC2.out.node
        have m1 := hnb.cells.2.1
        have mf := hnb.thaw 1
        clear hnb hn
        go_wp2_with fail
        go_meet
        exact ⟨t.pos, HRE, Lib.hid (HC2.out.set1 _), Lib.hid ((Below.heap_setCell _ _ _ _ (by dsimp only; omega)).trans HX2.out), Lib.hid (fun e => HA2.out ((HC2.out.node.set1 t.pos).2.own q1 (Array.getElem?_eq_some_iff.1 HX2.out).1 e))⟩
      case neg =>
        have hn0 : ((n : Int) == 0) = false := by rw [beq_eq_false_iff_ne]; omega
        have HRE := Lib.hid (HR1.out.trans (by rw [if_neg hn]))
        clear hn
        go_wp2_with fail
        go_meet
        exact ⟨pos, HRE, HC2, HX2, HA2⟩
    case rest =>
      obtain ⟨p, HRO, HCC, HXC, HAC⟩ := hcut
      clear HR1 HC2 HX2 HV2 HA2
      have hkall := 0
      have HFA := Lib.hid (SC.redir_far s a)
      have HRC := Lib.hid (HRX.out a wc)
      have hqc : q1 < wc.heap.size := (Array.getElem?_eq_some_iff.1 HXC.out).1
      go_wp2_with fail
      refine HRC.out.mono ?_
      intro e V5 ho
      cases hrr : SC.redir s a with
      | err pe xe =>
        have hkrerr := 0
        rw [hrr] at ho
        obtain ⟨rfl, hb⟩ := ho
        have hxe : xe ≠ 0 := by have := HFA.out; rw [hrr] at this; exact this
        have hxn : (xe == 0) = false := by rw [beq_eq_false_iff_ne]; exact hxe
        have hxm : (xe != 0) = true := by simp [bne, hxn]
        have HRE := Lib.hid (show R = .err pe xe from by have := HRO.out; rw [hrr] at this; exact this)
        obtain ⟨V6, hV6⟩ : ∃ V6, V6 = V5.alloc (.cells #[.int .i64 0, .int .i64 0, .int .i64 0, .int .i64 0, .slice none 0 0] 41) := ⟨_, rfl⟩
        have HC6 := Lib.hid (show CW w V6 (.slice Ad d0 cd) p qs ws rs ds from by rw [hV6]; exact HCC.out.go (btr hb (balloc _ _)))
        have HV6 := Lib.hid hV6
        obtain ⟨r0, r1, r2, r3, r4, r5, r6, r7, r8, rf0, rf1, rf2, rf3, rf4, rf5, rf6, rf7, rf8⟩ := blk9 HC6.out.res
        clear hb hrr hV6 hxe
        go_upto_if 51 with (fail)
        rw [← HV6.out]
        repeat go_step
        refine bodyPost_ret (v := .tuple #[.agg #[.int .i64 0, .int .i64 0, .string ⟨#[]⟩, .bool false, .slice none 0 0, .slice none 0 0, .slice none 0 0, .slice none 0 0, .slice none 0 0], .slice none 0 0, .int .i64 pe, .int .i64 xe]) (by simp [results, Try.results9, go_sem, r0, r1, r2, r3, r4, r5, r6, r7, r8]) rfl ?_
        rw [HRE.out]
        exact ⟨rfl, set9_below HC6.out.below (Nat.le_refl _) _ _ _ _ _ _ _ _ _⟩
      | no =>
        rw [hrr] at ho
        obtain ⟨rfl, hb⟩ := ho
        have hRN := HRO.out
        rw [hrr] at hRN
        obtain ⟨V6, hV6⟩ : ∃ V6, V6 = V5.alloc (.cells #[.int .i64 0, .int .i64 0, .int .i64 0, .int .i64 0, .slice none 0 0] 41) := ⟨_, rfl⟩
        have hb6 : Below wc.heap.size wc V6 := by rw [hV6]; exact btr hb (balloc _ _)
        have HC6 := Lib.hid (HCC.out.go hb6)
        have HX6 := Lib.hid ((hb6.block _ hqc).trans HXC.out)
        have HA6 := Lib.hid (show ¬ nown V6 (w.heap.size + 1) q1 from fun e => HAC.out ((nown_same (hb6.block _ HCC.out.lt) q1).1 e))
        have HV6 := Lib.hid hV6
        have HRN := Lib.hid hRN
        obtain ⟨c0, c1, c2, c3, -, -, -, -⟩ := blk4 HX6.out
        clear hb hrr hV6 hb6 hRN HRC
        go_upto_if 51 with (fail)
        rw [← HV6.out]
        by_cases hk : t.kind = 1
        case pos =>
          have hkadd := 0
          have hk1 : ((t.kind : Int) == 1) = true := by rw [beq_iff_eq]; omega
          have HRB := Lib.hid (show R = SC.stepB (SC.cmd s f (n + 1)) ⟨p, qs, ws, rs, ds, a⟩ t (SC.addR ws.length t) from HRN.out.trans (if_pos hk))
          have HK := Lib.hid hk
          clear hk
          have HAD := Lib.hid (cadd_any hB t (HE.out.below HC6.out.below) HC6.out.node HC6.out.dlt (by have := HN.out; omega) (by have := HN.out; omega) (by have := HTT.out; have := HL.out; omega))
          go_wp2_with fail
          refine HAD.out.mono ?_
          intro e V7 ho
          obtain ⟨AR, hAR⟩ : ∃ AR, SC.addR ws.length t = AR := ⟨_, rfl⟩
          have hRB := HRB.out
          rw [hAR] at ho hRB
          replace HRB := Lib.hid hRB
          clear hRB HAD c0 c1 c2 c3
          cases AR with
          | err pe xe =>
            obtain ⟨rfl, hb⟩ := ho
            have hxn : (xe == 0) = false := by rw [beq_eq_false_iff_ne]; exact SC.addR_ne hAR
            have hxm : (xe != 0) = true := by simp [bne, hxn]
            have HRE := Lib.hid (show R = .err pe xe from HRB.out)
            have HC7 := Lib.hid (HC6.out.go hb)
            obtain ⟨r0, r1, r2, r3, r4, r5, r6, r7, r8, rf0, rf1, rf2, rf3, rf4, rf5, rf6, rf7, rf8⟩ := blk9 HC7.out.res
            clear hb hAR
            go_upto_if 79 with (fail)
            repeat go_step
            refine bodyPost_ret (v := .tuple #[.agg #[.int .i64 0, .int .i64 0, .string ⟨#[]⟩, .bool false, .slice none 0 0, .slice none 0 0, .slice none 0 0, .slice none 0 0, .slice none 0 0], .slice none 0 0, .int .i64 pe, .int .i64 xe]) (by simp [results, Try.results9, go_sem, r0, r1, r2, r3, r4, r5, r6, r7, r8]) rfl ?_
            rw [HRE.out]
            exact ⟨rfl, set9_below HC7.out.below (Nat.le_refl _) _ _ _ _ _ _ _ _ _⟩
          | asg y =>
            obtain ⟨rfl, hfr, hns⟩ := ho
            obtain ⟨j1, j2⟩ := HTF.out.resolve_left (by have := HK.out; omega)
            have HC7 := Lib.hid (HC6.out.nfr hfr hns)
            have HX7 := (hfr.keep q1 (Array.getElem?_eq_some_iff.1 HX6.out).1 HA6.out).trans HX6.out
            obtain ⟨c0, c1, c2, c3, -, -, -, -⟩ := blk4 HX7
            clear hfr hns hAR HX7
            have HJ := Lib.hid (And.intro j1 j2)
            clear j1 j2
            go_wp2_with fail
            go_roundg (s.length - t.stop)
            case measure => have := HJ.out; have := HN.out; omega
            case rel =>
              exact ⟨n + 1, p, qs ++ [y], ws, rs, ds, t.stop, rfl, by go_num, Lib.hid (by have := HJ.out; have := HN.out; rw [LX.clamp_nat HJ.out.2]; simp; omega), Lib.hid ⟨f, by have := HJ.out; have := HFU.out; rw [LX.clamp_nat HJ.out.2]; omega, HRB.out⟩, HC7⟩
          | word y =>
            obtain ⟨rfl, hfr, hns⟩ := ho
            obtain ⟨j1, j2⟩ := HTF.out.resolve_left (by have := HK.out; omega)
            have HC7 := Lib.hid (HC6.out.nfr hfr hns)
            have HX7 := (hfr.keep q1 (Array.getElem?_eq_some_iff.1 HX6.out).1 HA6.out).trans HX6.out
            obtain ⟨c0, c1, c2, c3, -, -, -, -⟩ := blk4 HX7
            clear hfr hns hAR HX7
            have HJ := Lib.hid (And.intro j1 j2)
            clear j1 j2
            go_wp2_with fail
            go_roundg (s.length - t.stop)
            case measure => have := HJ.out; have := HN.out; omega
            case rel =>
              exact ⟨n + 1, p, qs, ws ++ [y], rs, ds, t.stop, rfl, by go_num, Lib.hid (by have := HJ.out; have := HN.out; rw [LX.clamp_nat HJ.out.2]; simp; omega), Lib.hid ⟨f, by have := HJ.out; have := HFU.out; rw [LX.clamp_nat HJ.out.2]; omega, HRB.out⟩, HC7⟩
        case neg =>
          have hk1 : ((t.kind : Int) == 1) = false := by rw [beq_eq_false_iff_ne]; omega
          by_cases hn : n = 0
          case pos =>
            have hkmiss := 0
            have hn0 : ((n : Int) == 0) = true := by rw [beq_iff_eq]; omega
            have HRE := Lib.hid (show R = .err t.pos (SCmiss t) from HRN.out.trans ((if_neg hk).trans (if_pos hn)))
            have HMT := Lib.hid (HM.out t)
            obtain ⟨r0, r1, r2, r3, r4, r5, r6, r7, r8, rf0, rf1, rf2, rf3, rf4, rf5, rf6, rf7, rf8⟩ := blk9 HC6.out.res
            have hq6 : q1 < V6.heap.size := (Array.getElem?_eq_some_iff.1 HX6.out).1
            have hws : w.heap.size < V6.heap.size := by omega
            have hws1 : w.heap.size + 1 < V6.heap.size := by omega
            obtain ⟨Y, hY⟩ : ∃ Y, Y = (set9 V6 w.heap.size (.int .i64 0) (.int .i64 0) (.string ⟨#[]⟩) (.bool false) (.slice none 0 0) (.slice none 0 0) (.slice none 0 0) (.slice none 0 0) (.slice none 0 0)).alloc (.cells #[.int .i64 t.kind, .int .i64 t.pos, .int .i64 t.stop, .string ⟨t.text.toArray⟩] 60) := ⟨_, rfl⟩
            have HYR := Lib.hid (show Y.heap[w.heap.size]? = some (.cells #[.int .i64 0, .int .i64 0, .string ⟨#[]⟩, .bool false, .slice none 0 0, .slice none 0 0, .slice none 0 0, .slice none 0 0, .slice none 0 0] 32 (0, 0)) by rw [hY]; exact ycells (set9_heap HC6.out.res _ _ _ _ _ _ _ _ _) (balloc _ _))
            have HYB := Lib.hid (show Below w.heap.size w Y by rw [hY]; exact btr (set9_below HC6.out.below (Nat.le_refl _) _ _ _ _ _ _ _ _ _) (balloc _ _))
            unfold set9 at hY
            have HYE := Lib.hid hY
            clear hY hn hk
            go_wp2_with fail
            apply merge
            case h =>
              intro hrest
              apply merge
              case h =>
                intro hrest2
                go_region_with ((go_at_call 23; refine (HMT.out _).mono ?_; rintro e Y ⟨rfl, rfl⟩))
                all_goals first | (with_reducible exact hrest.out) | (with_reducible exact hrest2.out)
              case g =>
                rw [← HYE.out]
                obtain ⟨y0, y1, y2, y3, y4, y5, y6, y7, y8, -⟩ := blk9 HYR.out
                clear r0 r1 r2 r3 r4 r5 r6 r7 r8 rf0 rf1 rf2 rf3 rf4 rf5 rf6 rf7 rf8
                repeat go_step
                refine bodyPost_ret (v := .tuple #[.agg #[.int .i64 0, .int .i64 0, .string ⟨#[]⟩, .bool false, .slice none 0 0, .slice none 0 0, .slice none 0 0, .slice none 0 0, .slice none 0 0], .slice none 0 0, .int .i64 t.pos, .int .i64 (SCmiss t)]) (by simp [results, Try.results9, go_sem, y0, y1, y2, y3, y4, y5, y6, y7, y8]) rfl ?_
                rw [HRE.out]
                first | exact ⟨rfl, HYB.out⟩ | exact ⟨rfl, HYB.out.drew⟩
            case g =>
              rw [← HYE.out]
              obtain ⟨y0, y1, y2, y3, y4, y5, y6, y7, y8, -⟩ := blk9 HYR.out
              clear r0 r1 r2 r3 r4 r5 r6 r7 r8 rf0 rf1 rf2 rf3 rf4 rf5 rf6 rf7 rf8
              repeat go_step
              refine bodyPost_ret (v := .tuple #[.agg #[.int .i64 0, .int .i64 0, .string ⟨#[]⟩, .bool false, .slice none 0 0, .slice none 0 0, .slice none 0 0, .slice none 0 0, .slice none 0 0], .slice none 0 0, .int .i64 t.pos, .int .i64 (SCmiss t)]) (by simp [results, Try.results9, go_sem, y0, y1, y2, y3, y4, y5, y6, y7, y8]) rfl ?_
              rw [HRE.out]
              first | exact ⟨rfl, HYB.out⟩ | exact ⟨rfl, HYB.out.drew⟩
          case neg =>
            have hkret := 0
            have hn0 : ((n : Int) == 0) = false := by rw [beq_eq_false_iff_ne]; omega
            have HRE := Lib.hid (show R = .ok ⟨p, qs, ws, rs, ds, a⟩ from HRN.out.trans ((if_neg hk).trans (if_neg hn)))
            obtain ⟨r0, r1, r2, r3, r4, r5, r6, r7, r8, rf0, rf1, rf2, rf3, rf4, rf5, rf6, rf7, rf8⟩ := blk9 HC6.out.res
            have hC6 := HC6.out
            rw [HD0.out] at hC6
            obtain ⟨Aa, ca, Aw, cw, Ar, cr, hnb, hfin⟩ := hC6.fin a
            obtain ⟨la, hla⟩ : ∃ la, qs.length = la := ⟨_, rfl⟩
            obtain ⟨lw, hlw⟩ : ∃ lw, ws.length = lw := ⟨_, rfl⟩
            obtain ⟨lr, hlr⟩ : ∃ lr, rs.length = lr := ⟨_, rfl⟩
            rw [hla, hlw, hlr] at hnb
            rw [hla, hlw, hlr, ← HD0.out] at hfin
            obtain ⟨m0, m1, m2, m3, m4, m5, m6, m7, m8⟩ := hnb.cells
            have HFIN := Lib.hid hfin
            clear hk hn hfin hC6 hnb hla hlw hlr
            repeat go_step
            refine bodyPost_ret (v := .tuple #[.agg #[.int .i64 1, .int .i64 p, .string ⟨#[]⟩, .bool false, .slice Aa la ca, .slice Aw lw cw, .slice Ar lr cr, .slice none 0 0, .slice none 0 0], .slice Ad d0 cd, .int .i64 a, .int .i64 0]) (by simp [results, Try.results9, go_sem, r0, r1, r2, r3, r4, r5, r6, r7, r8]) rfl ?_
            rw [HRE.out]
            obtain ⟨-, hU1, hU2⟩ := HFIN.out _ rfl
            exact ⟨_, _, _, _, rfl, hU1, hU2⟩
      | plain rpos fd op wpos stop ps =>
        have hkplain := 0
        rw [hrr] at ho
        obtain ⟨A, cap, rfl, hb, hrep⟩ := ho
        obtain ⟨k, rfl, hk1, hk2, hk3⟩ := (show RR.far s _ _ from by have := HFA.out; rw [hrr] at this; exact this)
        have HKK := Lib.hid (And.intro hk1 hk2)
        have hRN := HRO.out
        rw [hrr] at hRN
        have HRN := Lib.hid (show R = SC.cmd s f (n + 1) ⟨p, qs, ws, rs ++ [⟨rpos, fd, op, wpos, ps⟩], ds, k⟩ from hRN)
        obtain ⟨m, hm⟩ : ∃ m, ps.length = m := ⟨_, rfl⟩
        have HMM := Lib.hid hm
        rw [hm]
        have m0 : (0 : Int) ≤ (m : Int) := by omega
        obtain ⟨V6, hV6⟩ : ∃ V6, V6 = V5.alloc (.cells #[.int .i64 rpos, .int .i64 fd, .int .i64 op, .int .i64 wpos, .slice A m cap] 41) := ⟨_, rfl⟩
        have hb6 : Below wc.heap.size wc V6 := by rw [hV6]; exact btr hb (balloc _ _)
        obtain ⟨q5, hq5⟩ : ∃ q5, q5 = V5.heap.size := ⟨_, rfl⟩
        have HC6 := Lib.hid (HCC.out.go hb6)
        have hx6 : V6.heap[q5]? = some (.cells #[.int .i64 rpos, .int .i64 fd, .int .i64 op, .int .i64 wpos, .slice A m cap] 41 (0, 0)) := by rw [hV6, hq5]; exact al_new V5 _
        obtain ⟨x0, x1, x2, x3, x4, -, -, -, -, -⟩ := blkR hx6
        have hqq : w.heap.size + 1 < q5 := by rw [hq5]; have := hb.size; omega
        have hpp : PS V6 (pb V6 (w.heap.size + 1) (.slice Ad d0 cd)) A ps := HCC.out.parts hb6 (by rw [hV6]; exact PS.mono (fun b _ hl => ⟨by assumption, (balloc V5 _).block b hl⟩) (show PS V5 (fun b => wc.heap.size ≤ b) A ps from hrep))
        obtain ⟨Ar, cr, A3, c3, w3, n6, hrun, hc6, hf6, hnfr, hcw⟩ := HC6.out.appR ⟨rpos, fd, op, wpos, ps⟩ A m cap hm.symm hpp (by have := HN.out; omega)
        have hrun2 := run_append_owned_none (P := Try.prog) (w := w3.setCell ⟨w.heap.size + 1, 6, none⟩ (.slice A3 (rs.length + 1) c3)) (w.heap.size + 1 + 1) 33 33 56 _ 3 Try.underlying33 (info_parts infoDelim).choose_spec.1 (.slice Ad d0 cd) ds.length _ hcw.row
        obtain ⟨lr, hlr⟩ : ∃ lr, rs.length = lr := ⟨_, rfl⟩
        have HLR := Lib.hid hlr
        rw [hlr] at n6 hc6 hrun hrun2 hcw
        have l0 : (0 : Int) ≤ (lr : Int) := by omega
        have HCW := Lib.hid hcw
        have HRUN := Lib.hid hrun
        have HRUN2 := Lib.hid hrun2
        have HV6 := Lib.hid hV6
        have HQ5 := Lib.hid hq5
        clear hb hrr hV6 hb6 hRN HRC hq5 hx6 hk1 hk2 hlr hnfr hrun hrun2 hk3 hrep hpp hm hcw
        go_upto_if 51 with (fail)
        rw [← HV6.out, ← HQ5.out]
        go_wp2_with (first | (at_builtin; refine wpList_append_eq rfl _ _ 28 rfl _ _ _ rfl rfl HRUN.out ?_) | (at_builtin; refine wpList_append_eq rfl _ _ 33 rfl _ _ _ rfl rfl HRUN2.out ?_))
        go_roundg (s.length - k)
        case measure => have := HKK.out; have := HN.out; omega
        case rel =>
          exact ⟨n + 1, p, qs, ws, rs ++ [⟨rpos, fd, op, wpos, ps⟩], ds, k, rfl, by go_num, Lib.hid (by have := HKK.out; have := HN.out; rw [LX.clamp_nat HKK.out.2]; simp; omega), Lib.hid ⟨f, by have := HKK.out; have := HFU.out; rw [LX.clamp_nat HKK.out.2]; omega, HRN.out⟩, HCW⟩
      | here rpos fd tx st qb stop =>
        have hkhere := 0
        rw [hrr] at ho
        obtain ⟨q, rfl, hb, hq, hqd⟩ := ho
        obtain ⟨k, rfl, hk1, hk2⟩ := (show RR.far s _ _ from by have := HFA.out; rw [hrr] at this; exact this)
        have HKK := Lib.hid (And.intro hk1 hk2)
        have hRN := HRO.out
        rw [hrr] at hRN
        have HRN := Lib.hid (show R = SC.cmd s f (n + 1) ⟨p, qs, ws, rs ++ [⟨rpos, fd, 8, 0, []⟩], ds ++ [⟨tx, st, qb⟩], k⟩ from hRN)
        obtain ⟨V6, hV6⟩ : ∃ V6, V6 = V5.alloc (.cells #[.int .i64 rpos, .int .i64 fd, .int .i64 8, .int .i64 0, .slice none 0 0] 41) := ⟨_, rfl⟩
        have hb6 : Below wc.heap.size wc V6 := by rw [hV6]; exact btr hb (balloc _ _)
        obtain ⟨q5, hq5⟩ : ∃ q5, q5 = V5.heap.size := ⟨_, rfl⟩
        have HC6 := Lib.hid (HCC.out.go hb6)
        have hx6 : V6.heap[q5]? = some (.cells #[.int .i64 rpos, .int .i64 fd, .int .i64 8, .int .i64 0, .slice none 0 0] 41 (0, 0)) := by rw [hV6, hq5]; exact al_new V5 _
        obtain ⟨x0, x1, x2, x3, x4, -, -, -, -, -⟩ := blkR hx6
        have hqq : w.heap.size + 1 < q5 := by rw [hq5]; have := hb.size; omega
        obtain ⟨Ar, cr, A3, c3, w3, n6, hrun, hc6, hf6, hnfr, hcw⟩ := HC6.out.appR ⟨rpos, fd, 8, 0, []⟩ none 0 0 rfl (.inl rfl) (by have := HN.out; omega)
        have hqs : q < V5.heap.size := (Array.getElem?_eq_some_iff.1 hqd).1
        have hq6 : V6.heap[q]? = some (.cells #[.string ⟨tx.toArray⟩, .bool st, .bool qb] 56 (0, 0)) := by rw [hV6]; exact ((balloc V5 _).block q hqs).trans hqd
        have hq7 := (hnfr.keep q (Array.getElem?_eq_some_iff.1 hq6).1 (HCC.out.apart hb6 hq).1).trans hq6
        rw [HD0.out] at hcw
        obtain ⟨A4, c4, w4, hrun2, hcw4⟩ := hcw.appD ⟨tx, st, qb⟩ q hq7 (by have := HN.out; omega)
        rw [← HD0.out] at hrun2 hcw4
        obtain ⟨lr, hlr⟩ : ∃ lr, rs.length = lr := ⟨_, rfl⟩
        have HLR := Lib.hid hlr
        rw [hlr] at n6 hc6 hrun hrun2
        have l0 : (0 : Int) ≤ (lr : Int) := by omega
        have HCW := Lib.hid hcw4
        have HRUN := Lib.hid hrun
        have HRUN2 := Lib.hid hrun2
        have HV6 := Lib.hid hV6
        have HQ5 := Lib.hid hq5
        clear hb hrr hV6 hb6 hRN HRC hq5 hx6 hk1 hk2 hlr hnfr hrun hrun2 hqs hq6 hq7 hqd hcw hcw4
        go_upto_if 51 with (fail)
        rw [← HV6.out, ← HQ5.out]
        go_wp2_with (first | (at_builtin; refine wpList_append_eq rfl _ _ 28 rfl _ _ _ rfl rfl HRUN.out ?_) | (at_builtin; refine wpList_append_eq rfl _ _ 33 rfl _ _ _ rfl rfl HRUN2.out ?_))
        go_roundg (s.length - k)
        case measure => have := HKK.out; have := HN.out; omega
        case rel =>
          exact ⟨n + 1, p, qs, ws, rs ++ [⟨rpos, fd, 8, 0, []⟩], ds ++ [⟨tx, st, qb⟩], k, rfl, by go_num, Lib.hid (by have := HKK.out; have := HN.out; rw [LX.clamp_nat HKK.out.2]; simp; omega), Lib.hid ⟨f, by have := HKK.out; have := HFU.out; rw [LX.clamp_nat HKK.out.2]; omega, HRN.out⟩, HCW⟩
end W
end Go.Proofs.Ytlhijlmbfjlglaa
