/- Chapter 9: the reference's step, at a token whose value is put in its place. -/
import Derived.Test.YtcbdhheelddgeaaGreatDoorRC
import Derived.Test.YtcbdhheelddgeaaGreatDoorZD
import Derived.Test.YtcbdhheelddgeaaGreatDoorPC
import Derived.Deep.DeepCutAuto
import Derived.Deep.RegionHeldLaw
import Derived.StillTailTactics
namespace Go.Proofs.YtcbdhheelddgeaaGreatDoor
open Go.RowKit K
namespace W
set_option maxRecDepth 100000
theorem step_append_own9 {P : Program} {ops : Array Oper} {o : Oper} {a : Act} {w : World} {K : Act → World → Prop} {Q : Exit → Act → World → Prop} {E : Prop}
  (hg : o.guard = none) (s x : Operand) (t : TypeId) (hop : o.op = Op.call { callee := Callee.builtin Builtin.append, args := #[s, x], argTypes := #[t, t] })
  (base : Nat) (e : TypeId) (i : TypeInfo) (z : Value) (size bytes : Nat) (ht : P.underlying t = some (.slice e)) (hi : P.info? e = some i) (hz : i.zero = some z)
  (hsize : i.size = size) (hby : i.bytes = bytes) (hzs : z.cells.size = size) (hsz : 0 < size)
  (v : Value) (n : Nat) (xs : List Value) (hs : a.eval s = v) (hown : w.ownsRow base e size v n xs)
  (ad : Addr) (m c : Nat) (news : List Value) (hx : a.eval x = .slice (some ad) m c) (hl : news.length = m * size) (hnews : ∀ j u, news[j]? = some u → w.cell? (ad.add j) = some u) (h1 : ∀ u ∈ news, u.oneCell' = true)
  (h63 : n + m ≤ maxLen) (hbytes : (n + m) * bytes ≤ 140737488355328) (hbase : base ≤ w.heap.size)
  (hK : ∀ v' w', w'.ownsRow base e size v' (n + m) (xs ++ news) → w.grownBy w' v.ownBlock → K (a.put o.dst v') w') :
  if Region.wanted o (yielded ops a.tmps) = true then Oper.wp P o a w K Q else E := by
 have hw : Region.wanted o (yielded ops a.tmps) = true := by simp [Region.wanted, hg]
 rw [if_pos hw]
 obtain ⟨v', w', hr, h2, h3, _⟩ := run_append_own (P := P) w base t o.type e i z size bytes ht hi hz hsize hby hzs hsz v n xs hown ad m c news hl hnews h1 h63 hbytes hbase
 unfold Oper.wp
 simp [execOp, hop, resolve, invoke, builtin, hs, hx, hr, Result.andThen]
 exact hK v' w' h2 h3
set_option maxHeartbeats 16000000 in
theorem step_put (r : AY.R) (l : List AL.Al) (rn rc hn hc an ac B : Nat) (RA HA AA : Option Addr) (w : World) (kd ps st : Nat) (tx v : List UInt8) (hl : r.s.length ≤ 16384) (ha : r.at_ ≤ r.s.length) (hr : LX.next r.s r.at_ = (⟨kd, ps, st, tx⟩, 0)) (h5 : ¬ kd = 5)
  (hRV : RV 3 encG w (.slice RA rn rc) r.regs) (hgl : r.regs.length ≤ 1000000) (hOR : OR 3 encD 89 B w (.slice HA hn hc) r.heres) (hBw : B ≤ w.heap.size) (hAS : AS w (.slice AA an ac) l) (hll : l.length ≤ 1000000)
  (hv : AY.valueR l (AY.restR ps r.regs) (r.place || AY.blankR ps r.regs) kd ps tx = some v) (hvl : v.length ≤ 10000) (hez : ∀ g ∈ r.regs, -1000000000000 ≤ g.e ∧ g.e ≤ 1000000000000) :
  Calls Tryz.prog 18 #[.agg #[.string ⟨r.s.toArray⟩, .int .i64 r.at_, .bool r.place, .slice RA rn rc, .slice HA hn hc, .string ⟨r.here.toArray⟩, .bool false, .int .i64 0], .slice AA an ac] w (StepO B w r
   (if 16384 < (r.s.take ps ++ v ++ r.s.drop st).length then .long
   else .go ⟨r.s.take ps ++ v ++ r.s.drop st, ps, true, AY.movedR (AY.restR ps r.regs) ((v.length : Int) - ((st : Int) - ps)) ++ [⟨tx, (ps : Int) + v.length, AX.blank v⟩], r.heres, r.here⟩)) := by
 obtain ⟨s, at_, place, regs, heres, here⟩ := r
 dsimp only at *
 obtain ⟨O, hO⟩ : ∃ O : AY.O, O = (if 16384 < (s.take ps ++ v ++ s.drop st).length then AY.O.long else AY.O.go ⟨s.take ps ++ v ++ s.drop st, ps, true, AY.movedR (AY.restR ps regs) ((v.length : Int) - ((st : Int) - ps)) ++ [⟨tx, (ps : Int) + v.length, AX.blank v⟩], heres, here⟩) := ⟨_, rfl⟩
 rw [← hO]
 have HN := Lib.hid (fun v => Next_ref s at_ v kd ps st tx 0 (by omega) ha hr)
 obtain ⟨X, hX⟩ : ∃ X, X = (w.alloc (.cells #[.string ⟨s.toArray⟩, .int .i64 at_, .bool place, .slice RA rn rc, .slice HA hn hc, .string ⟨here.toArray⟩, .bool false, .int .i64 0] 57)).alloc (.cells #[.string ⟨#[]⟩, .int .i64 0, .bool false, .slice none 0 0, .slice none 0 0, .string ⟨#[]⟩, .bool false, .int .i64 0] 57) := ⟨_, rfl⟩
 have HJ := Lib.hid (show SJ w _ X by rw [hX]; exact SJ.of w _)
 have HX := Lib.hid hX
 have k5 : ((kd : Int) == 5) = false := by rw [beq_eq_false_iff_ne]; omega
 have HRV := Lib.hid hRV
 have HAS := Lib.hid hAS
 have HG := Lib.hid (fun V (h : Below w.heap.size w V) => Get_ref l tx (.slice AA an ac) V (hAS.go h) hll)
 have HP := Lib.hid (fun V (h : Below w.heap.size w V) => passed_ref regs ps (.slice RA rn rc) V (hRV.below h) hgl)
 obtain ⟨bk, hbk⟩ : ∃ bk, AY.blankR ps regs = bk := ⟨_, rfl⟩
 obtain ⟨rs, hrs⟩ : ∃ rs, AY.restR ps regs = rs := ⟨_, rfl⟩
 have hrl : rs.length ≤ 1000000 := by rw [← hrs]; exact Nat.le_trans (List.length_filter_le _ _) hgl
 rw [hbk, hrs] at hv HP
 have hpos := (LX.next_cases ha hr).resolve_left h5
 obtain ⟨-, hps, -, hpst, hst, -⟩ := hpos
 dsimp only at hps hpst hst
 unfold AY.valueR at hv
 obtain ⟨pl, hpl⟩ : ∃ pl, (place || bk) = pl := ⟨_, rfl⟩
 rw [hpl] at hv
 split at hv
 case isFalse => cases hv
 rename_i hcc
 obtain ⟨rfl, hkd, hab⟩ := hcc
 have k1 : ((kd : Int) == 1) = true := by rw [beq_iff_eq]; omega
 have HAB := Lib.hid hab
 rw [hv] at HG
 simp only [Option.getD_some, Option.isSome_some] at HG
 have HPL := Lib.hid hpl
 obtain ⟨⟨x0, x1, -⟩, -⟩ := blk8 HJ.out.st
 obtain ⟨hA0, hc0, he0⟩ := hOR.val
 injection he0 with he1 he2 he3
 subst he1 he2 he3
 have HOR := Lib.hid hOR
 have HBW := Lib.hid hBw
 have HEZ := Lib.hid (show ∀ g ∈ rs, -1000000000000 ≤ g.e ∧ g.e ≤ 1000000000000 from fun g hg => hez g (by rw [← hrs] at hg; exact (List.mem_filter.1 hg).1))
 obtain ⟨s2, hs2⟩ : ∃ s2, cut s 0 ps ++ v ++ cut s st s.length = s2 := ⟨_, rfl⟩
 rw [hrs, show s.take ps ++ v ++ s.drop st = s2 by rw [← hs2, cut_end]; rfl] at hO
 have HOO := Lib.hid hO
 have a1 := str_add (cut s 0 ps) v (cut s 0 ps ++ v) rfl (by simp; omega) (by omega)
 have a2 := str_add (cut s 0 ps ++ v) (cut s st s.length) s2 hs2 (by simp; omega) (by simp; omega)
 have hsl2 : s2.length ≤ 100000 := by rw [← hs2]; simp; omega
 have HPS := Lib.hid (show ps < s.length ∧ ps < st ∧ st ≤ s.length ∧ s.length ≤ 16384 from ⟨hps, hpst, hst, hl⟩)
 clear hX hr ha hl hRV hAS hv hbk hrs hab h5 hpl hOR hBw hst hps hpst hez hs2 hO hkd
 go_enter Tryz.func18, Tryz.ntmps18
 go_upto_region 1 with (fail)
 rw [← HX.out]
 go_wp2_with fail
 refine (HN.out _).mono ?_
 rintro e w1 ⟨rfl, hb1⟩
 obtain ⟨Y, hY⟩ : ∃ Y, Y = w1.alloc (.cells #[.int .i64 kd, .int .i64 ps, .int .i64 st, .string ⟨tx.toArray⟩] 46) := ⟨_, rfl⟩
 have HJY := Lib.hid (HJ.out.late (show Below X.heap.size X Y by rw [hY]; exact btr hb1 (balloc _ _)))
 obtain ⟨z, hz⟩ : ∃ z, z = w1.heap.size := ⟨_, rfl⟩
 have HT := Lib.hid (show Y.heap[z]? = some (.cells #[.int .i64 kd, .int .i64 ps, .int .i64 st, .string ⟨tx.toArray⟩] 46 (0, 0)) by rw [hY, hz]; exact al_new w1 _)
 have y0 := Lib.cell_of_heap HT.out 0
 have y1 := Lib.cell_of_heap HT.out 1
 have HY := Lib.hid hY
 have HZ := Lib.hid hz
 have HZW := Lib.hid (show w.heap.size + 1 < z by rw [hz]; exact Nat.lt_of_lt_of_le (Array.getElem?_eq_some_iff.1 HJ.out.re).1 hb1.size)
 clear hY hb1 x0 x1 hz
 go_upto_region 2 with (fail)
 rw [← HY.out, ← HZ.out]
 obtain ⟨-, -, -, z3, -, -, -, -⟩ := (blk8 HJY.out.st).1
 go_upto_region 5 with (fail)
 go_wp2_with fail
 refine (HP.out _ HJY.out.bel).mono ?_
 rintro e w2 ⟨v1, rfl, ho1, hb2⟩
 obtain ⟨A1, c1, rfl⟩ := ho1.val
 have HO1 := Lib.hid ho1
 have hyl := (Array.getElem?_eq_some_iff.1 HJY.out.st).1
 have hac := active_ref rs tx ps (.slice A1 rs.length c1) (w2.setCell ⟨w.heap.size, 3, none⟩ (.slice A1 rs.length c1)) (ho1.cellR encG_len w.heap.size 3 hyl _) (by omega)
 rw [HAB.out] at hac
 have HJ2 := Lib.hid (HJY.out.late hb2)
 have HT2 := Lib.hid ((hb2.block z (Array.getElem?_eq_some_iff.1 HT.out).1).trans HT.out)
 clear ho1 hb2 z3 y0 y1
 go_upto_region 6 with (fail)
 have f3 := (blk8 HJ2.out.st).2.2.2.2.1
 have z3 := (blk8 HJ2.out.st).1.2.2.2.1
 obtain ⟨U, hU⟩ : ∃ U, U = w2.setCell ⟨w.heap.size, 3, none⟩ (.slice A1 rs.length c1) := ⟨_, rfl⟩
 have HU := Lib.hid hU
 rw [← hU] at hac
 have HAC := Lib.hid hac
 clear hac hyl
 have HBU := Lib.hid (show Below w.heap.size w U by rw [hU]; exact HJ2.out.bel.setCell (Nat.le_refl _) _)
 have hu1 : U.heap[w.heap.size]? = some (.cells #[.string ⟨s.toArray⟩, .int .i64 at_, .bool place, .slice A1 rs.length c1, .slice HA heres.length hc, .string ⟨here.toArray⟩, .bool false, .int .i64 0] 57 (0, 0)) := by
  rw [hU]; exact heap_setCell_same w2 w.heap.size 3 _ _ _ HJ2.out.st
 have hu2 : U.heap[w.heap.size + 1]? = some (.cells #[.string ⟨#[]⟩, .int .i64 0, .bool false, .slice none 0 0, .slice none 0 0, .string ⟨#[]⟩, .bool false, .int .i64 0] 57 (0, 0)) := by
  rw [hU]; exact (Below.heap_setCell _ _ _ _ (by dsimp only; omega)).trans HJ2.out.re
 have hu3 : U.heap[z]? = some (.cells #[.int .i64 kd, .int .i64 ps, .int .i64 st, .string ⟨tx.toArray⟩] 46 (0, 0)) := by
  rw [hU]; exact (Below.heap_setCell _ _ _ _ (by dsimp only; have := HZW.out; omega)).trans HT2.out
 have HRO := Lib.hid (show OR 3 encG 87 (w.heap.size + 2) U (.slice A1 rs.length c1) rs by
  rw [hU]
  exact ownsRow_setCell_below (own_le HO1.out (Nat.lt_of_lt_of_le HZW.out (Nat.le_of_lt (Array.getElem?_eq_some_iff.1 HT.out).1))) (show w.heap.size < w.heap.size + 2 by omega) _)
 have HU1 := Lib.hid hu1
 have HU2 := Lib.hid hu2
 have HU3 := Lib.hid hu3
 have hg2 := HG.out U HBU.out
 have HG2 := Lib.hid hg2
 clear hU hu1 hu2 hu3 hg2
 go_upto_region 7 with (fail)
 rw [← HU.out]
 obtain ⟨⟨c0, c1', c2, c3, c4, c5, c6, c7⟩, -⟩ := blk8 HU1.out
 have t0 := Lib.cell_of_heap HU3.out 0
 have t1 := Lib.cell_of_heap HU3.out 1
 have t2 := Lib.cell_of_heap HU3.out 2
 have t3 := Lib.cell_of_heap HU3.out 3
 clear z3 f3
 clear HN HP HRV
 obtain ⟨f0, -⟩ := (blk8 HU1.out).2
 have HTA := Lib.hid (show TA B w.heap.size z kd ps st tx s at_ place (.slice A1 rs.length c1) (.slice HA heres.length hc) here rs heres w U from
  ⟨HU1.out, HU2.out, HU3.out, HRO.out, own_same HOR.out (fun q hq => HBU.out.block q (HOR.out.lt q hq).2), HBU.out.mono HBW.out, HZW.out, HBW.out⟩)
 go_cut [9] (fun p wx => p = .bool true ∧ U = wx)
 case first =>
  cases place
  all_goals
   have h := HPL.out
   go_wp2_with fail
   go_meet
   exact ⟨by first | (rw [← h]; done) | (rw [← h]; rfl), rfl⟩
 case rest =>
  obtain ⟨rfl, rfl⟩ := hcut
  go_upto_region 10 with (first | (go_at_call 41; refine HG2.out.mono ?_; rintro e w' ⟨rfl, rfl⟩) | (go_at_call 42; refine HAC.out.mono ?_; rintro e w' ⟨rfl, rfl⟩))
  obtain ⟨g1, g2, g3, g4⟩ := HPS.out
  have p0 : (0 : Int) ≤ (ps : Int) := by omega
  have p1 : (ps : Int) ≤ (s.length : Int) := by omega
  have p2 : (0 : Int) ≤ (st : Int) := by omega
  have p3 : (st : Int) ≤ (s.length : Int) := by omega
  clear g1 g2 g3 g4
  go_still_tail 14, (by kernel_rfl)
  change wpList _ _ _ _ _ U.drew
  go_upto_region 11 with (fail)
  obtain ⟨U2, hU2⟩ : ∃ U2, U2 = (U.setCell ⟨w.heap.size, 0, none⟩ (.string ⟨s2.toArray⟩)).drew := ⟨_, rfl⟩
  have HT2 := Lib.hid (show TA B w.heap.size z kd ps st tx s2 at_ place (.slice A1 rs.length c1) (.slice HA heres.length hc) here rs heres w U2 by rw [hU2]; exact (HTA.out.set0 s2).late (Below.refl _ _).drew)
  rw [← hU2]
  clear hU2 HTA a1 a2 c0 c1' c2 c3 c4 c5 c6 c7 t0 t1 t2 t3 f0 HU HU1 HU2 HU3 HRO HOR HG2 HAC
  obtain ⟨⟨c0, -, -, -, -, -, c6, c7⟩, f⟩ := blk8 HT2.out.box
  by_cases hlen : 16384 < s2.length
  ·have h6 : ((16384 : Int) < (s2.length : Int)) = True := eq_true (by omega)
   have h7 : decide ((16384 : Int) < (s2.length : Int)) = true := decide_eq_true (by omega)
   obtain rfl : O = .long := HOO.out.trans (if_pos hlen)
   obtain ⟨-, -, -, -, -, -, f6, f7⟩ := f
   clear hlen
   obtain ⟨V9, hV9⟩ : ∃ V9, V9 = (U2.setCell ⟨w.heap.size, 7, none⟩ (.int .i64 3)).setCell ⟨w.heap.size, 6, none⟩ (.bool true) := ⟨_, rfl⟩
   have HT9 := Lib.hid (show StB V9 w.heap.size s2 at_ place (.slice A1 rs.length c1) (.slice HA heres.length hc) here true 3 by rw [hV9]; exact (HT2.out.box.set7 3).set6 true)
   have HR9 := Lib.hid (show StB V9 (w.heap.size + 1) [] 0 false (.slice none 0 0) (.slice none 0 0) [] false 0 by rw [hV9]; exact far (far HT2.out.res (by omega)) (by omega))
   have HB9 := Lib.hid (show Below B w V9 by rw [hV9]; exact (HT2.out.bel.setCell HT2.out.hB _).setCell HT2.out.hB _)
   have HV9 := Lib.hid hV9
   have HBB := Lib.hid HT2.out.hB
   clear hV9
   go_upto_region 14 with (fail)
   rw [← HV9.out]
   clear c0 c6 c7 f6 f7 HV9 HT2
   obtain ⟨⟨c0, c1', c2, c3, c4, c5, c6, c7⟩, -⟩ := blk8 HT9.out
   obtain ⟨⟨d0, d1, d2, d3, d4, d5, d6, d7⟩, e0, e1', e2, e3, e4, e5, e6, e7⟩ := blk8 HR9.out
   repeat go_step
   exact bodyPost_ret (v := .agg #[.string ⟨s2.toArray⟩, .int .i64 at_, .bool place, .slice A1 rs.length c1, .slice HA heres.length hc, .string ⟨here.toArray⟩, .bool true, .int .i64 3]) (by simp [results, Tryz.results18, go_sem, d0, d1, d2, d3, d4, d5, d6, d7]) rfl ⟨s2, at_, place, A1, HA, rs.length, c1, heres.length, hc, here, rfl, below8 HB9.out _ (Nat.le_succ_of_le HBB.out) _ _ _ _ _ _ _ _⟩
  ·have h6 : ((16384 : Int) < (s2.length : Int)) = False := eq_false (by omega)
   have h7 : decide ((16384 : Int) < (s2.length : Int)) = false := decide_eq_false (by omega)
   have hO2 := HOO.out.trans (if_neg hlen)
   obtain ⟨d, hd⟩ : ∃ d, (v.length : Int) - ((st : Int) - (ps : Int)) = d := ⟨_, rfl⟩
   obtain ⟨en, hen⟩ : ∃ en, (ps : Int) + (v.length : Int) = en := ⟨_, rfl⟩
   obtain ⟨bl, hbl⟩ : ∃ bl, AX.blank v = bl := ⟨_, rfl⟩
   rw [hd, hen, hbl] at hO2
   obtain rfl := hO2
   have HBL := Lib.hid hbl
   obtain ⟨g1, g2, g3, g4⟩ := HPS.out
   have w1 : IntKind.i64.wrap ((st : Int) - (ps : Int)) = (st : Int) - (ps : Int) := IntWalk.i64_in _ (by omega)
   have w2' : IntKind.i64.wrap ((v.length : Int) - ((st : Int) - (ps : Int))) = d := by rw [IntWalk.i64_in _ (by omega)]; exact hd
   have w3 : IntKind.i64.wrap ((ps : Int) + (v.length : Int)) = en := by rw [IntWalk.i64_in _ (by omega)]; exact hen
   have hd2 : -1000000000000 ≤ d ∧ d ≤ 1000000000000 := by omega
   have HMV := Lib.hid (fun V (h : Below U2.heap.size U2 V) => moved_ref rs d (.slice A1 rs.length c1) V ((HT2.out.late h).regs.rv encG_len) hrl hd2 HEZ.out)
   clear hlen hd hen hbl hd2 g1 g2 g3 g4 HOO
   go_upto_region 15 with (fail)
   clear c0 c6 c7 f h6 h7
   go_cut [12] (fun p wx => p = .bool bl ∧ U2 = wx)
   case first =>
    by_cases hv0 : v = []
    ·subst hv0
     obtain rfl : false = bl := HBL.out
     go_wp2_with fail
     go_meet
     exact ⟨rfl, rfl⟩
    ·obtain ⟨m, hm⟩ : ∃ m, v.length = m + 1 := ⟨v.length - 1, by have := List.length_pos_iff.2 hv0; omega⟩
     have x1 : IntKind.i64.wrap ((v.length : Int) - 1) = (m : Int) := by rw [IntWalk.i64_in _ (by omega)]; omega
     have x2 : (m : Int) < (v.length : Int) := by omega
     have x3 : (0 : Int) ≤ (m : Int) := by omega
     have x4 : ((0 : Int) < (v.length : Int)) = True := eq_true (by omega)
     have x5 : decide ((0 : Int) < (v.length : Int)) = true := decide_eq_true (by omega)
     have HX := Lib.hid (show P.bl (bt v m) = bl by rw [← HBL.out, AY.blank_bt hm])
     clear hm hv0
     go_wp2_with (go_at_call 43; refine (rx_blank _ _).mono ?_; rintro e w' ⟨rfl, rfl⟩; rw [HX.out])
     go_meet
     exact ⟨rfl, rfl⟩
   case rest =>
    obtain ⟨rfl, rfl⟩ := hcut
    obtain ⟨i0, hi, hz0, hz1, hz2⟩ := info_parts infoG
    obtain ⟨n, hn⟩ : ∃ n, n = (AY.movedR rs d).length := ⟨_, rfl⟩
    have hn2 : n ≤ 1000000 := by rw [hn]; unfold AY.movedR; rw [List.length_map]; exact hrl
    have HNN := Lib.hid hn
    have HSV := Lib.hid (show ∀ (VX : World) (o : Nat) (u : Value), (VX.cell? ⟨z, 1, none⟩ = some (.int .i64 ps) ∧ VX.cell? ⟨z, 2, none⟩ = some (.int .i64 st) ∧ VX.cell? ⟨z, 3, none⟩ = some (.string ⟨tx.toArray⟩)) → (VX.setCell ⟨w.heap.size, o, none⟩ u).cell? ⟨z, 1, none⟩ = some (.int .i64 ps) ∧ (VX.setCell ⟨w.heap.size, o, none⟩ u).cell? ⟨z, 2, none⟩ = some (.int .i64 st) ∧ (VX.setCell ⟨w.heap.size, o, none⟩ u).cell? ⟨z, 3, none⟩ = some (.string ⟨tx.toArray⟩) from fun VX o u h => by
     have hz := HT2.out.hz
     exact ⟨cell_far h.1 (by omega), cell_far h.2.1 (by omega), cell_far h.2.2 (by omega)⟩)
    have HEL := Lib.hid (fun VX (hb : Below (U2.alloc (.cells #[.string ⟨tx.toArray⟩, .int .i64 en, .bool bl] 87)).drew.heap.size (U2.alloc (.cells #[.string ⟨tx.toArray⟩, .int .i64 en, .bool bl] 87)).drew VX) => show ∀ (j : Nat) (u : Value), [.string ⟨tx.toArray⟩, .int .i64 en, .bool bl][j]? = some u → VX.cell? ((⟨U2.heap.size, 0, none⟩ : Addr).add j) = some u from fun j u hj => by
     have h1 := cells3 U2 (.string ⟨tx.toArray⟩) (.int .i64 en) (.bool bl) 87 j u hj
     have e : (⟨U2.heap.size, 0, none⟩ : Addr).add j = ⟨U2.heap.size, j, none⟩ := by unfold Addr.add; split <;> simp_all
     rw [e] at h1 ⊢
     exact (hb.cell (p := ⟨U2.heap.size, j, none⟩) (by show U2.heap.size < (U2.alloc (.cells #[.string ⟨tx.toArray⟩, .int .i64 en, .bool bl] 87)).drew.heap.size; simp)).trans h1)
    have HSU := Lib.hid (show ∀ VX, Below U2.heap.size U2 VX → VX.cell? ⟨z, 1, none⟩ = some (.int .i64 ps) ∧ VX.cell? ⟨z, 2, none⟩ = some (.int .i64 st) ∧ VX.cell? ⟨z, 3, none⟩ = some (.string ⟨tx.toArray⟩) from fun VX hb => by
     obtain ⟨q0, q1, q2, q3, -⟩ := blk4 (HT2.out.late hb).tok
     exact ⟨q1, q2, q3⟩)
    clear hn
    go_upto_region 16 with (fail)
    go_cut [12] (fun p wx => p = .bool bl ∧ ∃ (A3 : Option Addr) (c3 : Nat) (VX : World), Hid (TA B w.heap.size z kd ps st tx s2 at_ place (.slice A3 (n + 1) c3) (.slice HA heres.length hc) here (AY.movedR rs d ++ [⟨tx, en, bl⟩]) heres w VX) ∧ VX = wx)
    case first =>
     go_region_held_law (fun w' => w'.cell? ⟨z, 1, none⟩ = some (.int .i64 ps) ∧ w'.cell? ⟨z, 2, none⟩ = some (.int .i64 st) ∧ w'.cell? ⟨z, 3, none⟩ = some (.string ⟨tx.toArray⟩))
      (first | exact HSU.out _ (Below.refl _ _).drew | exact HSU.out _ (balloc _ _).drew | exact HSU.out _ (by assumption) | exact HSU.out _ (btr (by assumption) (balloc _ _)) | exact HSV.out _ _ _ (HSU.out _ (by assumption)) | fail)
      (first
       | (go_at_call 44; refine (HMV.out _ (Below.refl _ _).drew).mono ?_; rintro e' Y ⟨v', rfl, ho, hb⟩; obtain ⟨mA, mc, rfl⟩ := ho.val; replace hb : Below U2.heap.size U2 Y := btr (Below.refl U2.heap.size U2).drew hb; have hk1 : True := trivial)
       | (go_at_call 44; refine (HMV.out _ (balloc _ _).drew).mono ?_; rintro e' Y ⟨v', rfl, ho, hb⟩; obtain ⟨mA, mc, rfl⟩ := ho.val; have hel := HEL.out _ hb; replace ho := own_le ho (balloc U2 (.cells #[.string ⟨tx.toArray⟩, .int .i64 en, .bool bl] 87)).drew.size; replace hb : Below U2.heap.size U2 Y := btr (balloc U2 (.cells #[.string ⟨tx.toArray⟩, .int .i64 en, .bool bl] 87)).drew hb)
       | (have hk2 := hel; (refine step_append_own9 rfl _ _ 54 rfl U2.heap.size 87 i0 _ 3 32 Tryz.underlying54 hi hz0 hz1 hz2 rfl (by decide) _ (AY.movedR rs d).length _ rfl ho ⟨U2.heap.size, 0, none⟩ 1 1 [.string ⟨tx.toArray⟩, .int .i64 en, .bool bl] rfl rfl hel (encG_one ⟨tx, en, bl⟩) (by have := HNN.out; unfold maxLen; omega) (by have := HNN.out; omega) (by first | exact hb.size | (have := hb.size; simp; omega)) ?_; intro v3 W3 hown3 hgrow3; obtain ⟨A3, c3, rfl⟩ := row_val hown3; have hbw3 : Below U2.heap.size U2 W3 := hb.grown hgrow3 hb.size (fun q hq => own_geR ho q hq); obtain ⟨⟨-, -, -, j1, -⟩, -, -, -, j2, -⟩ := blk8 (HT2.out.late hbw3).box))
       | (have hk2 := hk1; (refine step_append_own9 rfl _ _ 54 rfl U2.heap.size 87 i0 _ 3 32 Tryz.underlying54 hi hz0 hz1 hz2 rfl (by decide) _ (AY.movedR rs d).length _ rfl (row_below ho (balloc Y (.cells #[.string ⟨tx.toArray⟩, .int .i64 en, .bool bl] 87))) ⟨Y.heap.size, 0, none⟩ 1 1 [.string ⟨tx.toArray⟩, .int .i64 en, .bool bl] rfl rfl (cells3 Y _ _ _ _) (encG_one ⟨tx, en, bl⟩) (by have := HNN.out; unfold maxLen; omega) (by have := HNN.out; omega) (by first | exact hb.size | (have := hb.size; simp; omega)) ?_; intro v3 W3 hown3 hgrow3; obtain ⟨A3, c3, rfl⟩ := row_val hown3; have hbw3 : Below U2.heap.size U2 W3 := (btr hb (balloc Y (.cells #[.string ⟨tx.toArray⟩, .int .i64 en, .bool bl] 87))).grown hgrow3 (by have := hb.size; simp; omega) (fun q hq => own_geR ho q hq); obtain ⟨⟨-, -, -, j1, -⟩, -, -, -, j2, -⟩ := blk8 (HT2.out.late hbw3).box))
       | fail)
     all_goals
      go_wp2_with fail
      go_meet
      exact ⟨rfl, A3, c3, _, Lib.hid (by rw [HNN.out]; exact HT2.out.reg (by assumption) (OR.snocR (enc := encG) (l := AY.movedR rs d) (x := ⟨tx, en, bl⟩) (by assumption))), rfl⟩
    case rest =>
     obtain ⟨rfl, A3, c3', V3, HT3, rfl⟩ := hcut
     clear HT2 HSU HMV
     have t1 := Lib.cell_of_heap HT3.out.tok 1
     obtain ⟨⟨-, c1', c2, -⟩, -, f1, f2, -⟩ := blk8 HT3.out.box
     obtain ⟨V9, hV9⟩ : ∃ V9, V9 = (V3.setCell ⟨w.heap.size, 1, none⟩ (.int .i64 ps)).setCell ⟨w.heap.size, 2, none⟩ (.bool true) := ⟨_, rfl⟩
     have HT9 := Lib.hid (show TA B w.heap.size z kd ps st tx s2 ps true (.slice A3 (n + 1) c3') (.slice HA heres.length hc) here (AY.movedR rs d ++ [⟨tx, en, bl⟩]) heres w V9 by rw [hV9]; exact (HT3.out.set1 ps).set2 true)
     have HV9 := Lib.hid hV9
     clear hV9
     go_upto_region 18 with (fail)
     rw [← HV9.out]
     clear t1 c1' c2 f1 f2 HV9 HT3
     obtain ⟨⟨c0, c1', c2, c3, c4, c5, c6, c7⟩, -⟩ := blk8 HT9.out.box
     obtain ⟨⟨d0, d1, d2, d3, d4, d5, d6, d7⟩, e0, e1', e2, e3, e4, e5, e6, e7⟩ := blk8 HT9.out.res
     repeat go_step
     exact bodyPost_ret (v := .agg #[.string ⟨s2.toArray⟩, .int .i64 ps, .bool true, .slice A3 (n + 1) c3', .slice HA heres.length hc, .string ⟨here.toArray⟩, .bool false, .int .i64 0]) (by simp [results, Tryz.results18, go_sem, d0, d1, d2, d3, d4, d5, d6, d7]) rfl (HT9.out.out _ _ _ _ _ _ _ _)
end W
end Go.Proofs.YtcbdhheelddgeaaGreatDoor
