/- Chapter 9: the reference's step, at a token that is passed. -/
import Derived.Test.YtcbdhheelddgeaaGreatDoorRC
import Derived.Test.YtcbdhheelddgeaaGreatDoorZD
import Derived.Test.YtcbdhheelddgeaaGreatDoorPC
import Derived.Deep.DeepCutAuto
import Derived.Deep.RegionHeld3
namespace Go.Proofs.YtcbdhheelddgeaaGreatDoor
open Go.RowKit K
namespace W
set_option maxRecDepth 100000
set_option maxHeartbeats 16000000 in
theorem step_pass (r r' : AY.R) (l : List AL.Al) (rn rc hn hc an ac B : Nat) (RA HA AA : Option Addr) (w : World) (kd ps st : Nat) (tx : List UInt8) (hl : r.s.length ≤ 16384) (ha : r.at_ ≤ r.s.length) (hr : LX.next r.s r.at_ = (⟨kd, ps, st, tx⟩, 0)) (h5 : ¬ kd = 5)
  (hRV : RV 3 encG w (.slice RA rn rc) r.regs) (hgl : r.regs.length ≤ 1000000) (hOR : OR 3 encD 89 B w (.slice HA hn hc) r.heres) (hBw : B ≤ w.heap.size) (hnl : r.heres.length ≤ 1000000) (hAS : AS w (.slice AA an ac) l) (hll : l.length ≤ 1000000)
  (hv : AY.valueR l (AY.restR ps r.regs) (r.place || AY.blankR ps r.regs) kd ps tx = none) (hgo : AY.stepR AY.litR l r ⟨kd, ps, st, tx⟩ 0 = .go r') :
  Calls Tryz.prog 18 #[.agg #[.string ⟨r.s.toArray⟩, .int .i64 r.at_, .bool r.place, .slice RA rn rc, .slice HA hn hc, .string ⟨r.here.toArray⟩, .bool false, .int .i64 0], .slice AA an ac] w (SOut B w r') := by
 obtain ⟨s, at_, place, regs, heres, here⟩ := r
 dsimp only at *
 obtain ⟨hs2, hhs2⟩ : ∃ hs2, AY.addD heres (AY.dOf here kd tx) = hs2 := ⟨_, rfl⟩
 have hst : st ≤ s.length := ((LX.next_cases ha hr).resolve_left h5).2.2.2.2.1
 obtain ⟨plb, hplb⟩ : ∃ plb, AY.opensR kd tx (place || AY.blankR ps regs) = plb := ⟨_, rfl⟩
 have hfin : r' = if kd = 3 then ⟨s, AY.skipL s hs2 st, plb, AY.restR ps regs, [], []⟩ else ⟨s, st, plb, AY.restR ps regs, hs2, if kd = 2 ∧ (tx = [60, 60] ∨ tx = [60, 60, 45]) then tx else []⟩ := by
  unfold AY.stepR at hgo
  rw [if_neg (by simp), if_neg h5] at hgo
  dsimp only at hgo
  rw [hv] at hgo
  dsimp only at hgo
  rw [AY.lines_addD, hhs2, hplb] at hgo
  by_cases h3 : kd = 3
  ·rw [if_pos h3] at hgo ⊢
   injection hgo with hgo
   exact hgo.symm
  ·rw [if_neg h3] at hgo ⊢
   injection hgo with hgo
   exact hgo.symm
 have hh2 : hs2.length ≤ 2000000 := by
  have := AY.addD_len heres (AY.dOf here kd tx)
  rw [hhs2] at this
  omega
 have HN := Lib.hid (fun v => Next_ref s at_ v kd ps st tx 0 (by omega) ha hr)
 obtain ⟨X, hX⟩ : ∃ X, X = (w.alloc (.cells #[.string ⟨s.toArray⟩, .int .i64 at_, .bool place, .slice RA rn rc, .slice HA hn hc, .string ⟨here.toArray⟩, .bool false, .int .i64 0] 57)).alloc (.cells #[.string ⟨#[]⟩, .int .i64 0, .bool false, .slice none 0 0, .slice none 0 0, .string ⟨#[]⟩, .bool false, .int .i64 0] 57) := ⟨_, rfl⟩
 have HJ := Lib.hid (show SJ w _ X by rw [hX]; exact SJ.of w _)
 have HX := Lib.hid hX
 have k5 : ((kd : Int) == 5) = false := by rw [beq_eq_false_iff_ne]; omega
 have HRV := Lib.hid hRV
 have HAS := Lib.hid hAS
 have HG := Lib.hid (fun V (h : Below w.heap.size w V) => Get_ref l tx (.slice AA an ac) V (hAS.go h) hll)
 have HP := Lib.hid (fun V (h : Below w.heap.size w V) => passed_ref regs ps (.slice RA rn rc) V (hRV.below h) hgl)
 obtain ⟨bk, hbk⟩ : ∃ bk, AY.blankR ps regs = bk := ⟨_, rfl⟩
 obtain ⟨rs, hrs⟩ : ∃ rs, AY.restR ps regs = rs := ⟨_, rfl⟩
 have hrl : rs.length ≤ 1000000 := by rw [← hrs]; exact Nat.le_trans (List.length_filter_le _ _) hgl
 rw [hbk, hrs] at hv HP
 obtain ⟨gv, hgv⟩ : ∃ gv, AL.get l tx = gv := ⟨_, rfl⟩
 rw [hgv] at HG
 obtain ⟨ab, hab⟩ : ∃ ab, AY.activeR rs tx ps = ab := ⟨_, rfl⟩
 have HAB := Lib.hid hab
 obtain ⟨pl, hpl⟩ : ∃ pl, (place || bk) = pl := ⟨_, rfl⟩
 have HV := Lib.hid (show ¬ (pl = true ∧ kd = 1 ∧ ab = false ∧ gv.isSome = true) from fun h => by
  unfold AY.valueR at hv
  rw [hpl, hab, if_pos ⟨h.1, h.2.1, h.2.2.1⟩, hgv] at hv
  rw [hv] at h
  exact absurd h.2.2.2 (by simp))
 have HPL := Lib.hid hpl
 obtain ⟨⟨x0, x1, -⟩, -⟩ := blk8 HJ.out.st
 have htx : tx.length ≤ 16384 := by
  obtain ⟨-, -, g3, -, -, -⟩ := (LX.next_cases ha hr).resolve_left h5
  dsimp only at g3
  rw [g3, cut_length]
  omega
 have HD := Lib.hid (fun V => delimiter_ref kd ps st tx here V AY.rpw htx)
 obtain ⟨dv, hdv⟩ : ∃ dv, AY.dOf here kd tx = dv := ⟨_, rfl⟩
 rw [hdv] at HD hhs2
 rw [hbk, hpl] at hplb
 rw [hrs] at hfin
 have HFIN := Lib.hid hfin
 have HHS := Lib.hid hhs2
 have HH2 := Lib.hid hh2
 have HNL := Lib.hid hnl
 have HOPS := Lib.hid (fun V => opens_ref kd ps st tx pl V)
 rw [hplb] at HOPS
 obtain ⟨hA0, hc0, he0⟩ := hOR.val
 injection he0 with he1 he2 he3
 subst he1 he2 he3
 have HOR := Lib.hid hOR
 have HBW := Lib.hid hBw
 have HSK := Lib.hid (fun v V (h : RV 3 encD V v hs2) => contents_ref s st hs2 v V h hst (by omega) (by omega))
 have HSKL := Lib.hid ((AY.skipL_good s hs2 st hst).2)
 have HSL := Lib.hid hl
 clear hX hr ha hl hRV hAS hv hbk hrs hgv hab h5 hpl htx hdv hgo hfin hhs2 hh2 hnl hplb hOR hBw hst
 go_enter Tryz.func18, Tryz.ntmps18
 go_upto_region 1 with (fail)
 rw [← HX.out]
 go_wp2_with fail
 refine (HN.out _).mono ?_
 rintro e w1 ⟨rfl, hb1⟩
 obtain ⟨Y, hY⟩ : ∃ Y, Y = w1.alloc (.cells #[.int .i64 kd, .int .i64 ps, .int .i64 st, .string ⟨tx.toArray⟩] 46) := ⟨_, rfl⟩
 have HJY := Lib.hid (HJ.out.late (show Below X.heap.size X Y by rw [hY]; exact btr hb1 (balloc _ _)))
 obtain ⟨z, hz⟩ : ∃ z, z = w1.heap.size := ⟨_, rfl⟩
 have HT := Lib.hid (show Y.heap[z]? = some (.cells #[.int .i64 kd, .int .i64 ps, .int .i64 st, .string ⟨tx.toArray⟩] 46 (0, 0)) by rw [hY, hz]; exact al_new w1 _)
 have y0 := Lib.cell_of_heap HT.out 0
 have y1 := Lib.cell_of_heap HT.out 1
 have HY := Lib.hid hY
 have HZ := Lib.hid hz
 have HZW := Lib.hid (show w.heap.size + 1 < z by rw [hz]; exact Nat.lt_of_lt_of_le (Array.getElem?_eq_some_iff.1 HJ.out.re).1 hb1.size)
 clear hY hb1 x0 x1 hz
 go_upto_region 2 with (fail)
 rw [← HY.out, ← HZ.out]
 obtain ⟨-, -, -, z3, -, -, -, -⟩ := (blk8 HJY.out.st).1
 go_upto_region 5 with (fail)
 go_wp2_with fail
 refine (HP.out _ HJY.out.bel).mono ?_
 rintro e w2 ⟨v1, rfl, ho1, hb2⟩
 obtain ⟨A1, c1, rfl⟩ := ho1.val
 have HO1 := Lib.hid ho1
 have hyl := (Array.getElem?_eq_some_iff.1 HJY.out.st).1
 have hac := active_ref rs tx ps (.slice A1 rs.length c1) (w2.setCell ⟨w.heap.size, 3, none⟩ (.slice A1 rs.length c1)) (ho1.cellR encG_len w.heap.size 3 hyl _) (by omega)
 rw [HAB.out] at hac
 have HJ2 := Lib.hid (HJY.out.late hb2)
 have HT2 := Lib.hid ((hb2.block z (Array.getElem?_eq_some_iff.1 HT.out).1).trans HT.out)
 clear ho1 hb2 z3 y0 y1
 go_upto_region 6 with (fail)
 have f3 := (blk8 HJ2.out.st).2.2.2.2.1
 have z3 := (blk8 HJ2.out.st).1.2.2.2.1
 obtain ⟨U, hU⟩ : ∃ U, U = w2.setCell ⟨w.heap.size, 3, none⟩ (.slice A1 rs.length c1) := ⟨_, rfl⟩
 have HU := Lib.hid hU
 rw [← hU] at hac
 have HAC := Lib.hid hac
 clear hac hyl
 have HBU := Lib.hid (show Below w.heap.size w U by rw [hU]; exact HJ2.out.bel.setCell (Nat.le_refl _) _)
 have hu1 : U.heap[w.heap.size]? = some (.cells #[.string ⟨s.toArray⟩, .int .i64 at_, .bool place, .slice A1 rs.length c1, .slice HA heres.length hc, .string ⟨here.toArray⟩, .bool false, .int .i64 0] 57 (0, 0)) := by
  rw [hU]; exact heap_setCell_same w2 w.heap.size 3 _ _ _ HJ2.out.st
 have hu2 : U.heap[w.heap.size + 1]? = some (.cells #[.string ⟨#[]⟩, .int .i64 0, .bool false, .slice none 0 0, .slice none 0 0, .string ⟨#[]⟩, .bool false, .int .i64 0] 57 (0, 0)) := by
  rw [hU]; exact (Below.heap_setCell _ _ _ _ (by dsimp only; omega)).trans HJ2.out.re
 have hu3 : U.heap[z]? = some (.cells #[.int .i64 kd, .int .i64 ps, .int .i64 st, .string ⟨tx.toArray⟩] 46 (0, 0)) := by
  rw [hU]; exact (Below.heap_setCell _ _ _ _ (by dsimp only; have := HZW.out; omega)).trans HT2.out
 have HRO := Lib.hid (show OR 3 encG 87 (w.heap.size + 2) U (.slice A1 rs.length c1) rs by
  rw [hU]
  exact ownsRow_setCell_below (own_le HO1.out (Nat.lt_of_lt_of_le HZW.out (Nat.le_of_lt (Array.getElem?_eq_some_iff.1 HT.out).1))) (show w.heap.size < w.heap.size + 2 by omega) _)
 have HU1 := Lib.hid hu1
 have HU2 := Lib.hid hu2
 have HU3 := Lib.hid hu3
 have hg2 := HG.out U HBU.out
 have HG2 := Lib.hid hg2
 clear hU hu1 hu2 hu3 hg2
 go_upto_region 7 with (fail)
 rw [← HU.out]
 obtain ⟨⟨c0, c1', c2, c3, c4, c5, c6, c7⟩, -⟩ := blk8 HU1.out
 have t0 := Lib.cell_of_heap HU3.out 0
 have t1 := Lib.cell_of_heap HU3.out 1
 have t2 := Lib.cell_of_heap HU3.out 2
 have t3 := Lib.cell_of_heap HU3.out 3
 clear z3 f3
 have HK1 := Lib.hid (show ((kd : Int) == 1) = true → pl = true → gv.isSome = true → ab = true from fun h1 h2 h3 => by
  have h4 : kd = 1 := by have := beq_iff_eq.1 h1; omega
  cases ab with
  | true => rfl
  | false => exact absurd ⟨h2, h4, rfl, h3⟩ HV.out)
 obtain ⟨k1, hk1⟩ : ∃ k1, ((kd : Int) == 1) = k1 := ⟨_, rfl⟩
 rw [hk1] at HK1
 obtain ⟨fd, hfd⟩ : ∃ fd, gv.isSome = fd := ⟨_, rfl⟩
 rw [hfd] at HG2 HK1
 generalize gv.getD [] = gt at HG2
 clear HV HG HN HP HRV
 have HG2' := HG2
 go_cut [9] (fun p wx => p = .bool pl ∧ U = wx)
 case first =>
  as_aux_lemma =>
   cases place
   all_goals
    have h := HPL.out
    go_wp2_with fail
    go_meet
    exact ⟨by first | (rw [← h]; done) | (rw [← h]; rfl), rfl⟩
 case rest =>
  obtain ⟨rfl, rfl⟩ := hcut
  go_upto_region 9 with (go_at_call 41; refine HG2.out.mono ?_; rintro e w' ⟨rfl, rfl⟩)
  go_cut [71] (fun p wx => p = .bool false ∧ U = wx)
  case first =>
   as_aux_lemma =>
    cases pl with
    | false =>
     go_wp2_with (go_at_call 42; refine HAC.out.mono ?_; rintro e w' ⟨rfl, rfl⟩)
     go_meet
     exact ⟨rfl, rfl⟩
    | true =>
     cases k1 with
     | false =>
      go_wp2_with (go_at_call 42; refine HAC.out.mono ?_; rintro e w' ⟨rfl, rfl⟩)
      go_meet
      exact ⟨rfl, rfl⟩
     | true =>
      cases fd with
      | false =>
       go_wp2_with (go_at_call 42; refine HAC.out.mono ?_; rintro e w' ⟨rfl, rfl⟩)
       go_meet
       exact ⟨rfl, rfl⟩
      | true =>
       obtain rfl : ab = true := HK1.out rfl rfl rfl
       go_wp2_with (go_at_call 42; refine HAC.out.mono ?_; rintro e w' ⟨rfl, rfl⟩)
       go_meet
       exact ⟨rfl, rfl⟩
  case rest =>
   obtain ⟨rfl, rfl⟩ := hcut
   have HTA := Lib.hid (show TA B w.heap.size z kd ps st tx s at_ place (.slice A1 rs.length c1) (.slice HA heres.length hc) here rs heres w U from
    ⟨HU1.out, HU2.out, HU3.out, HRO.out, own_same HOR.out (fun q hq => HBU.out.block q (HOR.out.lt q hq).2), HBU.out.mono HBW.out, HZW.out, HBW.out⟩)
   clear HU1 HU2 HU3 HRO HOR HG2 HAC HK1 HJ HJY HJ2 HT HT2 HO1 HAS HAB HX HY HZ HPL
   go_upto_region 19 with (fail)
   go_wp2_with fail
   refine (HD.out _).mono ?_
   rintro e w3 ⟨rfl, hb3⟩
   obtain ⟨V, hV⟩ : ∃ V, V = w3.alloc (.cells #[.string ⟨(dv.getD ([], false)).1.toArray⟩, .bool (dv.getD ([], false)).2, .bool false] 89) := ⟨_, rfl⟩
   have HTV := Lib.hid (HTA.out.late (show Below U.heap.size U V by rw [hV]; exact btr hb3 (balloc _ _)))
   have HVA := Lib.hid hV
   have hdd := (show V.heap[w3.heap.size]? = some (.cells #[.string ⟨(dv.getD ([], false)).1.toArray⟩, .bool (dv.getD ([], false)).2, .bool false] 89 (0, 0)) by rw [hV]; exact al_new w3 _)
   obtain ⟨v0, v1, v2, -, -, -⟩ := blk3 hdd
   clear c0 c1' c2 c3 c4 c5 c6 c7 t0 t1 t2 t3 hV hb3 hdd HTA HD
   go_upto_if 138 with (fail)
   rw [← HVA.out]
   clear HVA
   go_cut [9] (fun p wx => p = .bool pl ∧ ∃ (HA2 : Option Addr) (hc2 : Nat) (VX : World), Hid (TA B w.heap.size z kd ps st tx s at_ place (.slice A1 rs.length c1) (.slice HA2 hs2.length hc2) here rs hs2 w VX) ∧ VX = wx)
   case first =>
    as_aux_lemma =>
     cases dv with
     | none =>
      obtain rfl : heres = hs2 := HHS.out
      go_wp2_with fail
      go_meet
      exact ⟨rfl, HA, hc, V, HTV, rfl⟩
     | some d =>
      obtain rfl : heres ++ [d] = hs2 := HHS.out
      obtain ⟨i0, hi, hz0, hz1, hz2⟩ := info_parts infoD
      rw [show (some d).getD ([], false) = d from rfl] at v0 v1
      have HHL := Lib.hid (show (heres ++ [d]).length = heres.length + 1 by rw [List.length_append]; rfl)
      obtain ⟨⟨-, -, -, -, k4, -, -, -⟩, -⟩ := blk8 HTV.out.box
      go_wp2_with (at_builtin; refine wpList_append_own_at _ rfl _ _ 55 rfl B 89 i0 _ 3 24 Tryz.underlying55 hi hz0 hz1 hz2 rfl (by decide) _ heres.length _ rfl (row_below HTV.out.heres (balloc _ _)) ⟨V.heap.size, 0, none⟩ 1 1 [.string ⟨d.1.toArray⟩, .bool d.2, .bool false] rfl rfl (cells3 _ _ _ _ _) (encD_one d) (by have := HNL.out; unfold maxLen; omega) (by have := HNL.out; omega) (by have := HTV.out.hB; have := HTV.out.box.lt; simp; omega) ?_)
      intro v9 W9 ho9 hg9 _ _
      obtain ⟨HA9, hc9, rfl⟩ := row_val ho9
      obtain ⟨⟨-, -, -, -, l4, -, -, -⟩, -, -, -, -, j4, -, -, -⟩ := blk8 (HTV.out.appB (balloc V (.cells #[.string ⟨d.1.toArray⟩, .bool d.2, .bool false] 89)) hg9)
      have HT9 := Lib.hid (HTV.out.app (d := d) (balloc V (.cells #[.string ⟨d.1.toArray⟩, .bool d.2, .bool false] 89)) ho9 hg9)
      clear v0 v1 v2 k4 ho9 hg9
      go_wp2_with fail
      go_meet
      exact ⟨rfl, HA9, hc9, _, by rw [HHL.out]; exact HT9, rfl⟩
   case rest =>
    obtain ⟨rfl, HA2, hc2, V2, HT2, rfl⟩ := hcut
    clear HTV v0 v1 v2
    obtain ⟨⟨-, -, -, -, -, v5, -, -⟩, -, -, -, -, -, g5, -, -⟩ := blk8 HT2.out.box
    have HT5 := Lib.hid (HT2.out.set5 [])
    obtain ⟨V5, hV5⟩ : ∃ V5, V5 = V2.setCell ⟨w.heap.size, 5, none⟩ (.string ⟨([] : List UInt8).toArray⟩) := ⟨_, rfl⟩
    rw [← hV5] at HT5
    have HV5 := Lib.hid hV5
    clear hV5
    go_upto_region 23 with (fail)
    rw [← HV5.out]
    clear v5 g5 HV5 HT2
    have t0 := Lib.cell_of_heap HT5.out.tok 0
    have t3 := Lib.cell_of_heap HT5.out.tok 3
    obtain ⟨k2, hk2⟩ : ∃ k2, ((kd : Int) == 2) = k2 := ⟨_, rfl⟩
    obtain ⟨b1, hb1⟩ : ∃ b1, (tx == [60, 60]) = b1 := ⟨_, rfl⟩
    obtain ⟨b2, hb2⟩ : ∃ b2, (tx == [60, 60, 45]) = b2 := ⟨_, rfl⟩
    go_cut [158] (fun c wx => c = .bool (k2 && (b1 || b2)) ∧ V5 = wx)
    case first =>
     as_aux_lemma =>
      cases k2 with
      | false =>
       go_wp2_with fail
       go_meet
       exact ⟨rfl, rfl⟩
      | true =>
       cases b1 with
       | true =>
        go_wp2_with fail
        go_meet
        exact ⟨rfl, rfl⟩
       | false =>
        cases b2 with
        | true =>
         go_wp2_with fail
         go_meet
         exact ⟨rfl, rfl⟩
        | false =>
         go_wp2_with fail
         go_meet
         exact ⟨rfl, rfl⟩
    case rest =>
     obtain ⟨rfl, rfl⟩ := hcut
     obtain ⟨op, hop⟩ : ∃ op, (k2 && (b1 || b2)) = op := ⟨_, rfl⟩
     rw [hop]
     obtain ⟨h9, hh9⟩ : ∃ h9 : List UInt8, (if kd = 2 ∧ (tx = [60, 60] ∨ tx = [60, 60, 45]) then tx else []) = h9 := ⟨_, rfl⟩
     have HH9 := Lib.hid (show (if op = true then tx else []) = h9 by
      rw [← hh9, ← AY.here_op, ← hop, ← hk2, ← hb1, ← hb2])
     have HF := HFIN.out
     rw [hh9] at HF
     have HFIN2 := Lib.hid HF
     have HNO := Lib.hid (show kd = 3 → h9 = [] from fun h => by rw [← hh9, if_neg (fun h2 => by omega)])
     clear hk2 hb1 hb2 hop hh9 HF HFIN
     go_upto_if 158 with (fail)
     go_cut [9] (fun p wx => p = .bool pl ∧ ∃ VX : World, Hid (TA B w.heap.size z kd ps st tx s at_ place (.slice A1 rs.length c1) (.slice HA2 hs2.length hc2) h9 rs hs2 w VX) ∧ VX = wx)
     case first =>
      as_aux_lemma =>
       cases op with
       | false =>
        obtain rfl : [] = h9 := HH9.out
        go_wp2_with fail
        go_meet
        exact ⟨rfl, V5, HT5, rfl⟩
       | true =>
        obtain rfl : tx = h9 := HH9.out
        obtain ⟨⟨-, -, -, -, -, v5, -, -⟩, -, -, -, -, -, g5, -, -⟩ := blk8 HT5.out.box
        go_wp2_with fail
        go_meet
        exact ⟨rfl, _, Lib.hid (HT5.out.set5 tx), rfl⟩
     case rest =>
      obtain ⟨rfl, V6, HT6, rfl⟩ := hcut
      clear t0 t3 HT5 HH9
      have HSU := Lib.hid (show ∀ VX, Below V6.heap.size V6 VX → VX.cell? ⟨z, 0, none⟩ = some (.int .i64 kd) ∧ VX.cell? ⟨z, 1, none⟩ = some (.int .i64 ps) ∧ VX.cell? ⟨z, 2, none⟩ = some (.int .i64 st) ∧ VX.cell? ⟨z, 3, none⟩ = some (.string ⟨tx.toArray⟩) from fun VX hb => by
       obtain ⟨q0, q1, q2, q3, -⟩ := blk4 ((hb.block z (Array.getElem?_eq_some_iff.1 HT6.out.tok).1).trans HT6.out.tok)
       exact ⟨q0, q1, q2, q3⟩)
      have HSV := Lib.hid (show ∀ (VX : World) (o : Nat) (u : Value), (VX.cell? ⟨z, 0, none⟩ = some (.int .i64 kd) ∧ VX.cell? ⟨z, 1, none⟩ = some (.int .i64 ps) ∧ VX.cell? ⟨z, 2, none⟩ = some (.int .i64 st) ∧ VX.cell? ⟨z, 3, none⟩ = some (.string ⟨tx.toArray⟩)) → (VX.setCell ⟨w.heap.size, o, none⟩ u).cell? ⟨z, 0, none⟩ = some (.int .i64 kd) ∧ (VX.setCell ⟨w.heap.size, o, none⟩ u).cell? ⟨z, 1, none⟩ = some (.int .i64 ps) ∧ (VX.setCell ⟨w.heap.size, o, none⟩ u).cell? ⟨z, 2, none⟩ = some (.int .i64 st) ∧ (VX.setCell ⟨w.heap.size, o, none⟩ u).cell? ⟨z, 3, none⟩ = some (.string ⟨tx.toArray⟩) from fun VX o u h => by
       have hz := HT6.out.hz
       exact ⟨cell_far h.1 (by omega), cell_far h.2.1 (by omega), cell_far h.2.2.1 (by omega), cell_far h.2.2.2 (by omega)⟩)
      obtain ⟨-, -, g1, g2, -⟩ := blk8 HT6.out.box
      go_upto_region 25 with (fail)
      go_cut [9] (fun p wx => p = .bool pl ∧ ∃ VX : World, Hid (TA B w.heap.size z kd ps st tx s st plb (.slice A1 rs.length c1) (.slice HA2 hs2.length hc2) h9 rs hs2 w VX) ∧ VX = wx)
      case first =>
       as_aux_lemma =>
        go_region_held3 (fun w' => w'.cell? ⟨z, 0, none⟩ = some (.int .i64 kd) ∧ w'.cell? ⟨z, 1, none⟩ = some (.int .i64 ps) ∧ w'.cell? ⟨z, 2, none⟩ = some (.int .i64 st) ∧ w'.cell? ⟨z, 3, none⟩ = some (.string ⟨tx.toArray⟩))
         (first | exact HSU.out _ (Below.refl _ _).drew | exact HSU.out _ (Below.refl _ _) | exact HSU.out _ (by assumption) | exact HSV.out _ _ _ (HSU.out _ (by assumption)) | exact HSV.out _ _ _ (HSV.out _ _ _ (HSU.out _ (by assumption))) | fail)
         ((go_at_call 46; refine (HOPS.out _).mono ?_; rintro e' Y ⟨rfl, hb⟩; replace hb : Below V6.heap.size V6 Y := btr (Below.refl V6.heap.size V6).drew hb; obtain ⟨⟨-, j1, j2, -⟩, -, j3, j4, -⟩ := blk8 (HT6.out.late hb).box))
        go_wp2_with fail
        go_meet
        exact ⟨rfl, _, Lib.hid (((HT6.out.late (by assumption)).set1 st).set2 plb), rfl⟩
      case rest =>
       obtain ⟨rfl, V7, HT7, rfl⟩ := hcut
       clear HT6 HSU HSV g1 g2
       have t0 := Lib.cell_of_heap HT7.out.tok 0
       have t2 := Lib.cell_of_heap HT7.out.tok 2
       by_cases h3 : kd = 3
       ·have k3 : ((kd : Int) == 3) = true := by rw [beq_iff_eq]; omega
        obtain rfl : h9 = [] := HNO.out h3
        have HCN := Lib.hid (HSK.out _ V7 (HT7.out.heres.rv encD_len))
        have HKL := HSKL.out
        obtain ⟨e1, he1⟩ : ∃ e1, AY.skipL s hs2 st = e1 := ⟨_, rfl⟩
        rw [he1] at HCN
        obtain ⟨V9, hV9⟩ : ∃ V9, V9 = (V7.setCell ⟨w.heap.size, 1, none⟩ (.int .i64 e1)).setCell ⟨w.heap.size, 4, none⟩ (.slice none 0 0) := ⟨_, rfl⟩
        have HT9 := Lib.hid (show TA B w.heap.size z kd ps st tx s e1 plb (.slice A1 rs.length c1) (.slice none 0 0) [] rs [] w V9 by rw [hV9]; exact (HT7.out.set1 e1).nil4)
        have HFE := Lib.hid (show r' = ⟨s, e1, plb, rs, [], []⟩ by rw [HFIN2.out.trans (if_pos h3), he1])
        have HV9 := Lib.hid hV9
        obtain ⟨⟨c0, q1, -, -, c4, -, -, -⟩, -, f1, -, -, f4, -⟩ := blk8 HT7.out.box
        clear hV9 h3 HKL he1 HSK HSKL HFIN2 HNO
        go_upto_region 29 with (go_at_call 47; refine HCN.out.mono ?_; rintro e w' ⟨rfl, rfl⟩)
        rw [← HV9.out]
        clear c0 q1 c4 f1 f4 t0 t2 HV9 HT7 HCN
        obtain ⟨⟨c0, c1', c2, c3, c4, c5, c6, c7⟩, -⟩ := blk8 HT9.out.box
        obtain ⟨⟨d0, d1, d2, d3, d4, d5, d6, d7⟩, e0, e1', e2, e3, e4, e5, e6, e7⟩ := blk8 HT9.out.res
        repeat go_step
        exact bodyPost_ret (v := .agg #[.string ⟨s.toArray⟩, .int .i64 e1, .bool plb, .slice A1 rs.length c1, .slice none 0 0, .string ⟨([] : List UInt8).toArray⟩, .bool false, .int .i64 0]) (by simp [results, Tryz.results18, go_sem, d0, d1, d2, d3, d4, d5, d6, d7]) rfl (by rw [HFE.out]; exact HT9.out.out _ _ _ _ _ _ _ _)
       ·have k3 : ((kd : Int) == 3) = false := by rw [beq_eq_false_iff_ne]; omega
        have HFE := Lib.hid (HFIN2.out.trans (if_neg h3))
        clear h3 HSK HSKL HFIN2 HNO t2
        go_upto_region 29 with (fail)
        obtain ⟨⟨c0, c1', c2, c3, c4, c5, c6, c7⟩, -⟩ := blk8 HT7.out.box
        obtain ⟨⟨d0, d1, d2, d3, d4, d5, d6, d7⟩, e0, e1', e2, e3, e4, e5, e6, e7⟩ := blk8 HT7.out.res
        clear t0
        repeat go_step
        exact bodyPost_ret (v := .agg #[.string ⟨s.toArray⟩, .int .i64 st, .bool plb, .slice A1 rs.length c1, .slice HA2 hs2.length hc2, .string ⟨h9.toArray⟩, .bool false, .int .i64 0]) (by simp [results, Tryz.results18, go_sem, d0, d1, d2, d3, d4, d5, d6, d7]) rfl (by rw [HFE.out]; exact HT7.out.out _ _ _ _ _ _ _ _)
end W
end Go.Proofs.YtcbdhheelddgeaaGreatDoor
