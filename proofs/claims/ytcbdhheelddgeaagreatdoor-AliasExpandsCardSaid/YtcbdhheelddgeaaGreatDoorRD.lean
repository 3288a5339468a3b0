/- Several texts in one: R09l R09m. -/
import Derived.Test.YtcbdhheelddgeaaGreatDoorR09i
import Derived.Test.YtcbdhheelddgeaaGreatDoorR09k
import Derived.BigQuiet
namespace Go.Proofs.YtcbdhheelddgeaaGreatDoor
open Go.RowKit K
namespace W
theorem Step_any (r : AY.R) (l : List AL.Al) (N rn rc hn hc an ac B : Nat) (RA HA AA : Option Addr) (w : World) (h : AY.RI l N r) (hN : N ≤ 5000000) (hll : l.length ≤ 1000000) (hz : ∀ a ∈ l, a.1.length ≤ 10000 ∧ a.2.length ≤ 10000)
  (hRV : RV 3 encG w (.slice RA rn rc) r.regs) (hOR : OR 3 encD 89 B w (.slice HA hn hc) r.heres) (hBw : B ≤ w.heap.size) (hAS : AS w (.slice AA an ac) l) :
  Calls Tryz.prog 18 #[.agg #[.string ⟨r.s.toArray⟩, .int .i64 r.at_, .bool r.place, .slice RA rn rc, .slice HA hn hc, .string ⟨r.here.toArray⟩, .bool false, .int .i64 0], .slice AA an ac] w (StepO B w r (AY.stepR AY.litR l r (LX.next r.s r.at_).1 (LX.next r.s r.at_).2)) := by
 have hsl := h.sl
 have hat := h.at_
 have hfew := h.few
 have hnh := h.nh
 obtain ⟨nx, hnx⟩ : ∃ nx, LX.next r.s r.at_ = nx := ⟨_, rfl⟩
 rw [hnx]
 obtain ⟨⟨kd, ps, st, tx⟩, x⟩ := nx
 dsimp only
 by_cases ho : x ≠ 0 ∨ kd = 5
 ·have he : AY.stepR AY.litR l r ⟨kd, ps, st, tx⟩ x = .over := by
   unfold AY.stepR
   rcases ho with ho | ho
   ·rw [if_pos ho]
   ·by_cases hx : x ≠ 0
    ·rw [if_pos hx]
    ·rw [if_neg hx, if_pos ho]
  rw [he]
  refine (step_over r.s r.here r.at_ r.place RA HA rn rc hn hc an ac AA w kd ps st tx x (by omega) hat hnx ho).mono ?_
  rintro e w' ⟨rfl, hb⟩
  exact ⟨r.at_, r.place, RA, HA, rn, rc, hn, hc, r.here, rfl, hb.mono hBw⟩
 ·have hx : x = 0 := Classical.byContradiction fun hx => ho (.inl hx)
  have h5 : ¬ kd = 5 := fun h5 => ho (.inr h5)
  subst hx
  cases hv : AY.valueR l (AY.restR ps r.regs) (r.place || AY.blankR ps r.regs) kd ps tx with
  | none =>
   obtain ⟨r', hr'⟩ : ∃ r', AY.stepR AY.litR l r ⟨kd, ps, st, tx⟩ 0 = .go r' := by
    unfold AY.stepR
    rw [if_neg (by simp), if_neg h5]
    dsimp only
    rw [hv]
    dsimp only
    split
    ·exact ⟨_, rfl⟩
    ·exact ⟨_, rfl⟩
   rw [hr']
   exact step_pass r r' l rn rc hn hc an ac B RA HA AA w kd ps st tx hsl hat hnx h5 hRV (by omega) hOR hBw (by omega) hAS hll hv hr'
  | some v =>
   have hvl : v.length ≤ 10000 := by
    unfold AY.valueR at hv
    split at hv
    ·exact (hz _ (AY.get_mem hv)).2
    ·cases hv
   have he : AY.stepR AY.litR l r ⟨kd, ps, st, tx⟩ 0 = (if 16384 < (r.s.take ps ++ v ++ r.s.drop st).length then .long
     else .go ⟨r.s.take ps ++ v ++ r.s.drop st, ps, true, AY.movedR (AY.restR ps r.regs) ((v.length : Int) - ((st : Int) - ps)) ++ [⟨tx, (ps : Int) + v.length, AX.blank v⟩], r.heres, r.here⟩) := by
    unfold AY.stepR
    rw [if_neg (by simp), if_neg h5]
    dsimp only
    rw [hv]
   rw [he]
   exact step_put r l rn rc hn hc an ac B RA HA AA w kd ps st tx v hsl hat hnx h5 hRV (by omega) hOR hBw hAS hll hv hvl (fun g hg => by have := h.eb g hg; omega)
end W
end Go.Proofs.YtcbdhheelddgeaaGreatDoor
namespace Go.Proofs.YtcbdhheelddgeaaGreatDoor
open Go.RowKit K
namespace W
set_option maxRecDepth 100000
/-- What the loop of Expand keeps: at its end, or ahead of a round. -/
def XRel (l : List AL.Al) (M n B : Nat) (res : List UInt8 × Int) (ov : Bool) (E : Int) (s2 : List UInt8) (a : Nat) (p : Bool) (rv hv : Value) (here : List UInt8) (V : World) : Prop :=
 (ov = true ∧ res = if E = 0 then (s2, 0) else ([], E)) ∨ (ov = false ∧ E = 0 ∧ ∃ r : AY.R, r.s = s2 ∧ r.at_ = a ∧ r.place = p ∧ r.here = here ∧ AY.RI l n r ∧ OR 3 encG 87 B V rv r.regs ∧ OR 3 encD 89 B V hv r.heres ∧ AY.runR AY.litR l (M - n) r = res)
theorem StB.set8 {V : World} {g : Nat} {s : List UInt8} {n : Int} {pl : Bool} {rv hv : Value} {here : List UInt8} {o : Bool} {e : Int} (h : StB V g s n pl rv hv here o e) (s' : List UInt8) (n' : Int) (pl' : Bool) (rv' hv' : Value) (here' : List UInt8) (o' : Bool) (e' : Int) :
  StB ((((((((V.setCell ⟨g, 0, none⟩ (.string ⟨s'.toArray⟩)).setCell ⟨g, 1, none⟩ (.int .i64 n')).setCell ⟨g, 2, none⟩ (.bool pl')).setCell ⟨g, 3, none⟩ rv').setCell ⟨g, 4, none⟩ hv').setCell ⟨g, 5, none⟩ (.string ⟨here'.toArray⟩)).setCell ⟨g, 6, none⟩ (.bool o')).setCell ⟨g, 7, none⟩ (.int .i64 e')) g s' n' pl' rv' hv' here' o' e' :=
 (((((((h.set0 s').set1 n').set2 pl').set3 rv').set4 hv').set5 here').set6 o').set7 e'
theorem own8 {T : TypeId} {V : World} {q B m n : Nat} {v : Value} {xs : List Value} (h : V.ownsRow B T m v n xs) (hk : v.ownBlock ≠ some q) (v0 v1 v2 v3 v4 v5 v6 v7 : Value) : ((((((((V.setCell ⟨q, 0, none⟩ v0).setCell ⟨q, 1, none⟩ v1).setCell ⟨q, 2, none⟩ v2).setCell ⟨q, 3, none⟩ v3).setCell ⟨q, 4, none⟩ v4).setCell ⟨q, 5, none⟩ v5).setCell ⟨q, 6, none⟩ v6).setCell ⟨q, 7, none⟩ v7).ownsRow B T m v n xs :=
 ownsRow_setCell_other (ownsRow_setCell_other (ownsRow_setCell_other (ownsRow_setCell_other (ownsRow_setCell_other (ownsRow_setCell_other (ownsRow_setCell_other (ownsRow_setCell_other h hk v0) hk v1) hk v2) hk v3) hk v4) hk v5) hk v6) hk v7
def afterR (l : List AL.Al) (m : Nat) (r : AY.R) : AY.O → List UInt8 × Int
 | .over => (r.s, 0)
 | .long => ([], 3)
 | .go r' => AY.runR AY.litR l m r'
theorem runR_step {l : List AL.Al} {M n : Nat} {r : AY.R} {o : AY.O} (hn : n < M) (ho : AY.stepR AY.litR l r (LX.next r.s r.at_).1 (LX.next r.s r.at_).2 = o) :
  AY.runR AY.litR l (M - n) r = afterR l (M - (n + 1)) r o := by
 rw [show M - n = (M - (n + 1)) + 1 by omega, AY.runR, ho]
 cases o <;> rfl
set_option maxHeartbeats 8000000 in
theorem Expand_ref (l : List AL.Al) (s : List UInt8) (v : Value) (w : World) (hA : AS w v l) (hll : l.length ≤ 1000000) (hz : ∀ a ∈ l, a.1.length ≤ 10000 ∧ a.2.length ≤ 10000) (hs : s.length ≤ 100000) :
  Calls Tryz.prog 7 #[.string ⟨s.toArray⟩, v] w fun e w' => e = .returned (.tuple #[.string ⟨(AY.expandR AY.litR l 4260100 s).1.toArray⟩, .int .i64 (AY.expandR AY.litR l 4260100 s).2]) ∧ Below w.heap.size w w' := by
 obtain ⟨A, c, rfl⟩ := hA.slice
 have HV := Lib.hid (Valid_ref l _ w hA hz)
 obtain ⟨M, hM⟩ : ∃ M : Nat, M = 4260100 := ⟨_, rfl⟩
 rw [← hM]
 obtain ⟨R, hR⟩ : ∃ R, AY.expandR AY.litR l M s = R := ⟨_, rfl⟩
 rw [hR]
 unfold AY.expandR at hR
 by_cases hv0 : AL.valid l ≠ 0
 ·rw [if_pos hv0] at hR
  obtain rfl := hR
  have n1 : (AL.valid l != 0) = true := by rw [bne_iff_ne]; exact hv0
  generalize AL.valid l = va at HV n1
  clear hv0 hA hM hz
  go_enter Tryz.func7, Tryz.ntmps7
  go_wp2_with fail
  refine HV.out.mono ?_
  rintro e w1 ⟨rfl, hb1⟩
  go_wp2
  go_ret2
  exact ⟨rfl, hb1⟩
 rw [if_neg hv0] at hR
 have hv1 : AL.valid l = 0 := Classical.byContradiction hv0
 rw [hv1] at HV
 have n1 : ((0 : Int) != 0) = false := rfl
 clear hv0
 by_cases hlen : 16384 < s.length
 ·have h6 : ((16384 : Int) < (s.length : Int)) = True := eq_true (by omega)
  have h7 : decide ((16384 : Int) < (s.length : Int)) = true := decide_eq_true (by omega)
  rw [if_pos hlen] at hR
  obtain rfl := hR
  clear hA hM hz hlen hv1
  go_enter Tryz.func7, Tryz.ntmps7
  go_wp2_with fail
  refine HV.out.mono ?_
  rintro e w1 ⟨rfl, hb1⟩
  go_wp2
  go_ret2
  exact ⟨rfl, hb1⟩
 have h6 : ((16384 : Int) < (s.length : Int)) = False := eq_false (by omega)
 have h7 : decide ((16384 : Int) < (s.length : Int)) = false := decide_eq_false (by omega)
 rw [if_neg hlen] at hR
 have HI := Lib.hid (AY.RI.start l (s := s) (by omega))
 have HR := Lib.hid hR
 have HM := Lib.hid hM
 have HA := Lib.hid hA
 have HZ := Lib.hid hz
 clear hA hM hz hlen hv1 hR
 go_enter Tryz.func7, Tryz.ntmps7
 go_wp2_with fail
 refine HV.out.mono ?_
 rintro e w1 ⟨rfl, hb1⟩
 obtain ⟨U, hU⟩ : ∃ U, U = w1.alloc (.cells #[.string ⟨s.toArray⟩, .int .i64 0, .bool true, .slice none 0 0, .slice none 0 0, .string ⟨#[]⟩, .bool false, .int .i64 0] 57) := ⟨_, rfl⟩
 obtain ⟨g0, hg0⟩ : ∃ g0, g0 = w1.heap.size := ⟨_, rfl⟩
 have HSB := Lib.hid (show StB U g0 s (0 : Nat) true (.slice none 0 0) (.slice none 0 0) [] false 0 by rw [hU, hg0]; exact al_new w1 _)
 have HB0 := Lib.hid (show Below w.heap.size w U by rw [hU]; exact btr hb1 (balloc _ _))
 have HG0 := Lib.hid (show w.heap.size ≤ g0 by rw [hg0]; exact hb1.size)
 have HU := Lib.hid hU
 have HGE := Lib.hid hg0
 clear hb1 hU hg0
 go_upto_region 7 with (fail)
 rw [← HU.out, ← HGE.out]
 clear HU HGE HV
 go_wp2_with fail
 go_loopg [8] M (fun g i wr => ∃ (n : Nat) (ov : Bool) (E : Int) (s2 : List UInt8) (a : Nat) (p : Bool) (RA HA : Option Addr) (rn rc hn hc : Nat) (here : List UInt8), i = .int .i64 n ∧ Hid (g = M - n) ∧ Hid (n ≤ M) ∧ Hid (StB wr g0 s2 a p (.slice RA rn rc) (.slice HA hn hc) here ov E) ∧ Hid (Below w.heap.size w wr) ∧ Hid (XRel l M n (g0 + 1) R ov E s2 a p (.slice RA rn rc) (.slice HA hn hc) here wr))
 case atStart => exact ⟨0, false, 0, s, 0, true, none, none, 0, 0, 0, 0, [], rfl, Lib.hid rfl, Lib.hid (Nat.zero_le _), HSB, HB0, Lib.hid (.inr ⟨rfl, rfl, AY.startR s, rfl, rfl, rfl, rfl, HI.out, OR.nil _ _ _, OR.nil _ _ _, HR.out⟩)⟩
 case round =>
  obtain ⟨n, ov, E, s2, a, p, RA, HA2, rn, rc, hn, hc, here, rfl, HG, HN, HS, HB, HX⟩ := hrel
  clear HSB HB0
  obtain ⟨⟨c0, c1, c2, c3, c4, c5, c6, c7⟩, f0, f1, f2, f3, f4, f5, f6, f7⟩ := blk8 HS.out
  cases ov with
  | true =>
   have HRE := Lib.hid (show R = if E = 0 then (s2, 0) else ([], E) from by
    rcases HX.out with ⟨-, h⟩ | ⟨h, -⟩
    ·exact h
    ·cases h)
   by_cases hE : E = 0
   ·subst hE
    obtain rfl := HRE.out.trans (if_pos rfl)
    by_cases hlt : n < M
    ·have t1 : ((n : Int) < 4260100) = True := eq_true (by have := HM.out; omega)
     have t2 : decide ((n : Int) < 4260100) = true := decide_eq_true (by have := HM.out; omega)
     clear hlt
     go_wp2
     go_ret2
     exact ⟨rfl, HB.out⟩
    ·have t1 : ((n : Int) < 4260100) = False := eq_false (by have := HM.out; omega)
     have t2 : decide ((n : Int) < 4260100) = false := decide_eq_false (by have := HM.out; omega)
     clear hlt
     go_wp2
     go_ret2
     exact ⟨rfl, HB.out⟩
   ·have hE1 : (E != 0) = true := by rw [bne_iff_ne]; exact hE
    obtain rfl := HRE.out.trans (if_neg hE)
    clear hE
    by_cases hlt : n < M
    ·have t1 : ((n : Int) < 4260100) = True := eq_true (by have := HM.out; omega)
     have t2 : decide ((n : Int) < 4260100) = true := decide_eq_true (by have := HM.out; omega)
     clear hlt
     go_wp2_with fail
     go_quiet (fail)
     go_wp2
     go_ret2
     exact ⟨rfl, bdN HB.out _⟩
    ·have t1 : ((n : Int) < 4260100) = False := eq_false (by have := HM.out; omega)
     have t2 : decide ((n : Int) < 4260100) = false := decide_eq_false (by have := HM.out; omega)
     clear hlt
     go_wp2_with fail
     go_quiet (fail)
     go_wp2
     go_ret2
     exact ⟨rfl, bdN HB.out _⟩
  | false =>
   obtain ⟨rfl, r, rfl, rfl, rfl, rfl, hri, hor, hoh, hrun⟩ : E = 0 ∧ ∃ r : AY.R, r.s = s2 ∧ r.at_ = a ∧ r.place = p ∧ r.here = here ∧ AY.RI l n r ∧ OR 3 encG 87 (g0 + 1) wr (.slice RA rn rc) r.regs ∧ OR 3 encD 89 (g0 + 1) wr (.slice HA2 hn hc) r.heres ∧ AY.runR AY.litR l (M - n) r = R := by
    rcases HX.out with ⟨h, -⟩ | ⟨-, h⟩
    ·cases h
    ·exact h
   clear HX
   have hE1 : ((0 : Int) != 0) = false := rfl
   by_cases hlt : n < M
   ·have t1 : ((n : Int) < 4260100) = True := eq_true (by have := HM.out; omega)
    have t2 : decide ((n : Int) < 4260100) = true := decide_eq_true (by have := HM.out; omega)
    have hn5 : n < 4260100 := by rw [← HM.out]; exact hlt
    have w9 : IntKind.i64.wrap ((n : Int) + 1) = ((n + 1 : Nat) : Int) := by rw [IntWalk.i64_in _ (by omega)]; omega
    have HST := Lib.hid (Step_any r l n rn rc hn hc l.length c (g0 + 1) RA HA2 A wr hri (by omega) hll HZ.out (hor.rv encG_len) hoh HS.out.lt (HA.out.go HB.out))
    obtain ⟨o, ho⟩ : ∃ o, AY.stepR AY.litR l r (LX.next r.s r.at_).1 (LX.next r.s r.at_).2 = o := ⟨_, rfl⟩
    have HRUN := Lib.hid ((runR_step hlt ho).symm.trans hrun)
    have HRI := Lib.hid hri
    rw [ho] at HST
    have HO := Lib.hid ho
    have HLT := Lib.hid hlt
    clear hri hor hoh hrun ho hlt hn5
    have HMS := Lib.hid (show M - (n + 1) < M - n by have := HLT.out; omega)
    cases o with
    | over =>
     go_wp2_with fail
     refine HST.out.mono ?_
     rintro e w2 ⟨a2, p2, RA2, HA3, rn2, rc2, hn2, hc2, here2, rfl, hb⟩
     have HB2 := Lib.hid (HB.out.trans (hb.mono (Nat.le_succ_of_le HG0.out)))
     have HS2 := Lib.hid (HS.out.kept (hb.block g0 (Nat.lt_succ_self g0)))
     obtain ⟨⟨k0, k1, k2, k3, k4, k5, k6, k7⟩, j0, j1, j2, j3, j4, j5, j6, j7⟩ := blk8 HS2.out
     clear c0 c1 c2 c3 c4 c5 c6 c7 f0 f1 f2 f3 f4 f5 f6 f7 hb
     go_wp2_with fail
     go_roundg (M - (n + 1))
     case rel => exact ⟨n + 1, true, 0, r.s, a2, p2, RA2, HA3, rn2, rc2, hn2, hc2, here2, rfl, Lib.hid rfl, Lib.hid HLT.out, Lib.hid (HS2.out.set8 _ _ _ _ _ _ _ _), Lib.hid (below8 HB2.out g0 HG0.out _ _ _ _ _ _ _ _), Lib.hid (.inl ⟨rfl, HRUN.out.symm⟩)⟩
     case measure => rw [HG.out]; exact HMS.out
    | long =>
     go_wp2_with fail
     refine HST.out.mono ?_
     rintro e w2 ⟨s2, a2, p2, RA2, HA3, rn2, rc2, hn2, hc2, here2, rfl, hb⟩
     have HB2 := Lib.hid (HB.out.trans (hb.mono (Nat.le_succ_of_le HG0.out)))
     have HS2 := Lib.hid (HS.out.kept (hb.block g0 (Nat.lt_succ_self g0)))
     obtain ⟨⟨k0, k1, k2, k3, k4, k5, k6, k7⟩, j0, j1, j2, j3, j4, j5, j6, j7⟩ := blk8 HS2.out
     clear c0 c1 c2 c3 c4 c5 c6 c7 f0 f1 f2 f3 f4 f5 f6 f7 hb
     go_wp2_with fail
     go_roundg (M - (n + 1))
     case rel => exact ⟨n + 1, true, 3, s2, a2, p2, RA2, HA3, rn2, rc2, hn2, hc2, here2, rfl, Lib.hid rfl, Lib.hid HLT.out, Lib.hid (HS2.out.set8 _ _ _ _ _ _ _ _), Lib.hid (below8 HB2.out g0 HG0.out _ _ _ _ _ _ _ _), Lib.hid (.inl ⟨rfl, HRUN.out.symm⟩)⟩
     case measure => rw [HG.out]; exact HMS.out
    | go r' =>
     have HRI2 := Lib.hid (show AY.RI l (n + 1) r' from by
      have ho := HO.out
      have hx : (LX.next r.s r.at_).2 = 0 := Classical.byContradiction fun hx => by
       unfold AY.stepR at ho
       rw [if_pos hx] at ho
       cases ho
      rw [hx] at ho
      exact HRI.out.step HZ.out (show LX.next r.s r.at_ = ((LX.next r.s r.at_).1, 0) by rw [← hx]) ho)
     go_wp2_with fail
     refine HST.out.mono ?_
     rintro e w2 ⟨RA2, HA3, rn2, rc2, hn2, hc2, rfl, hor2, hoh2, hb⟩
     have HOR2 := Lib.hid hor2
     have HOH2 := Lib.hid hoh2
     clear hor2 hoh2
     have HB2 := Lib.hid (HB.out.trans (hb.mono (Nat.le_succ_of_le HG0.out)))
     have HS2 := Lib.hid (HS.out.kept (hb.block g0 (Nat.lt_succ_self g0)))
     obtain ⟨⟨k0, k1, k2, k3, k4, k5, k6, k7⟩, j0, j1, j2, j3, j4, j5, j6, j7⟩ := blk8 HS2.out
     clear c0 c1 c2 c3 c4 c5 c6 c7 f0 f1 f2 f3 f4 f5 f6 f7 hb
     go_wp2_with fail
     go_roundg (M - (n + 1))
     case rel => exact ⟨n + 1, false, 0, r'.s, r'.at_, r'.place, RA2, HA3, rn2, rc2, hn2, hc2, r'.here, rfl, Lib.hid rfl, Lib.hid HLT.out, Lib.hid (HS2.out.set8 _ _ _ _ _ _ _ _), Lib.hid (below8 HB2.out g0 HG0.out _ _ _ _ _ _ _ _), Lib.hid (.inr ⟨rfl, rfl, r', rfl, rfl, rfl, rfl, HRI2.out, own8 HOR2.out (or_apart HOR2.out HS2.out (by decide)) _ _ _ _ _ _ _ _, own8 HOH2.out (or_apart HOH2.out HS2.out (by decide)) _ _ _ _ _ _ _ _, HRUN.out⟩)⟩
     case measure => rw [HG.out]; exact HMS.out
   ·have t1 : ((n : Int) < 4260100) = False := eq_false (by have := HM.out; omega)
    have t2 : decide ((n : Int) < 4260100) = false := decide_eq_false (by have := HM.out; omega)
    rw [show M - n = 0 by omega, AY.runR] at hrun
    obtain rfl := hrun
    clear hlt hri hor hoh
    go_wp2
    go_ret2
    exact ⟨rfl, HB.out⟩
end W
end Go.Proofs.YtcbdhheelddgeaaGreatDoor
