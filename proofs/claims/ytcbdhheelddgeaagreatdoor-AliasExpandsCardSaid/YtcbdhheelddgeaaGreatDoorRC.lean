/- Several texts in one: R08pz R08li R09e R09f R09h R09j. -/
import Derived.Test.YtcbdhheelddgeaaGreatDoorR08m
import Derived.Test.YtcbdhheelddgeaaGreatDoorZK
import Derived.Test.YtcbdhheelddgeaaGreatDoorRB
import Derived.Test.YtcbdhheelddgeaaGreatDoorYD
import Derived.Test.YtcbdhheelddgeaaGreatDoorPB
namespace Go.Proofs.YtcbdhheelddgeaaGreatDoor
open Go.RowKit K
namespace W
set_option maxRecDepth 100000
/-- What the reference's Parse gives. -/
def ParseR (W : World) (R : Option (List WP.Part)) (e : Ending) (W' : World) : Prop :=
 ∃ (A : Option Addr) (n cap : Nat) (x y : Int), e = .returned (.tuple #[.slice A n cap, .int .i64 x, .int .i64 y]) ∧ Below W.heap.size W W' ∧ (match R with | none => y ≠ 0 ∧ A = none ∧ n = 0 | some ps => y = 0 ∧ n = ps.length ∧ RVal W' W.heap.size ps A)
set_option maxHeartbeats 8000000 in
theorem Parse_ref (s : List UInt8) (w : World) (hl : s.length ≤ 40000) : Calls Tryz.prog 81 #[.string ⟨s.toArray⟩] w (ParseR w (RP.parse s)) := by
 have HP := Lib.hid (fun v => show Calls Tryz.prog 110 #[.string ⟨s.toArray⟩, .int .i64 0, .int .i64 0, .int .i64 1, .int .i64 0] v (ROut v.heap.size v (RP.run (s.length + 1) ⟨s, 0, false, 1, 0⟩ [] 0 0)) from
  partsR_all (s.length + 1) _ (Nat.le_refl _) ⟨s, 0, false, 1, 0⟩ 0 0 1 0 v hl (.inl ⟨rfl, rfl, rfl⟩) (Nat.zero_le _) (by show (1 : Nat) ≤ 33; omega) rfl rfl (by show s.length - 0 + 1 ≤ s.length + 1; omega))
 by_cases h : 16384 < s.length
 ·have h' : ((16384 : Int) < (s.length : Int)) = True := eq_true (by omega)
  rw [show RP.parse s = none from if_pos h]
  clear HP hl h
  go_enter Tryz.func81, Tryz.ntmps81
  go_wp2_with fail
  go_ret3
  exact ⟨none, 0, 0, 0, 3, rfl, Below.refl _ _, (show (3 : Int) ≠ 0 by decide), rfl, rfl⟩
 have h' : ((16384 : Int) < (s.length : Int)) = False := eq_false (by omega)
 have hR : RP.parse s = (RP.run (s.length + 1) ⟨s, 0, false, 1, 0⟩ [] 0 0).map Prod.fst := if_neg h
 generalize RP.run (s.length + 1) ⟨s, 0, false, 1, 0⟩ [] 0 0 = R at *
 rw [hR]
 clear hR hl h
 cases R with
 | none =>
  rw [Option.map_none]
  go_enter Tryz.func81, Tryz.ntmps81
  go_wp2_with fail
  refine (HP.out _).mono ?_
  rintro e w1 ⟨XA, xn, xc, x, y, rfl, hb, hy⟩
  have hy1 : (y == 0) = false := by rw [beq_eq_false_iff_ne]; exact hy
  have hy2 : (y != 0) = true := by rw [bne_iff_ne]; exact hy
  have HY := Lib.hid hy
  obtain ⟨w2, hw2⟩ : ∃ w2, w2 = w1.alloc (.cells #[.slice XA xn xc, .int .i64 x, .int .i64 y] 143) := ⟨_, rfl⟩
  have HW2 := Lib.hid hw2
  have HB2 := Lib.hid (show Below w.heap.size w w2 by rw [hw2]; exact btr hb (balloc _ _))
  have hxb : w2.heap[w1.heap.size]? = some (.cells #[.slice XA xn xc, .int .i64 x, .int .i64 y] 143 (0, 0)) := by rw [hw2]; exact al_new w1 _
  obtain ⟨d0, d1, d2, -, -, -⟩ := blk3 hxb
  clear hw2 hxb hb hy
  go_upto_region 4 with (fail)
  rw [← HW2.out]
  go_wp2
  go_quiet (fail)
  go_wp2
  go_ret3
  exact ⟨none, 0, 0, x, y, rfl, bdN HB2.out _, HY.out, rfl, rfl⟩
 | some r =>
  obtain ⟨ps, j⟩ := r
  rw [Option.map_some]
  go_enter Tryz.func81, Tryz.ntmps81
  go_wp2_with fail
  refine (HP.out _).mono ?_
  rintro e w1 ⟨XA, xn, xc, x, y, rfl, hb, rfl, rfl, hn, hv⟩
  obtain ⟨w2, hw2⟩ : ∃ w2, w2 = w1.alloc (.cells #[.slice XA xn xc, .int .i64 j, .int .i64 0] 143) := ⟨_, rfl⟩
  have HW2 := Lib.hid hw2
  have HB2 := Lib.hid (show Below w.heap.size w w2 by rw [hw2]; exact btr hb (balloc _ _))
  have hxb : w2.heap[w1.heap.size]? = some (.cells #[.slice XA xn xc, .int .i64 j, .int .i64 0] 143 (0, 0)) := by rw [hw2]; exact al_new w1 _
  have HRV := Lib.hid (show RVal w2 w.heap.size ps XA from hv.mono (Nat.le_refl _) (fun b _ hb2 => by rw [hw2]; exact (balloc w1 _).block b hb2))
  have HN := Lib.hid hn
  obtain ⟨d0, d1, d2, -, -, -⟩ := blk3 hxb
  clear hw2 hxb hb hn hv
  go_upto_region 4 with (fail)
  rw [← HW2.out]
  go_wp2
  go_ret3
  exact ⟨XA, xn, xc, 0, 0, rfl, HB2.out, rfl, HN.out, HRV.out⟩
end W
end Go.Proofs.YtcbdhheelddgeaaGreatDoor
namespace Go.Proofs.YtcbdhheelddgeaaGreatDoor
open Go.RowKit K
open WP (GP gp gpL)
namespace W
set_option maxRecDepth 100000
theorem GS.of_rv {w : World} {B : Nat} {ps : List WP.Part} {A : Option Addr} {cap : Nat} (h : RVal w B ps A) : GS w (fun b => b < w.heap.size) (.slice A ps.length cap) (gpL ps) :=
 (GS.of_rep (F := fun k => B ≤ k) (cap := cap) h).mono fun _ _ h2 => ⟨h2, rfl⟩
set_option maxHeartbeats 8000000 in
theorem LitRef_any (v : Value) (l : List GP) (w : World) (h : GS w (fun b => b < w.heap.size) v l) (hn : WP.cntL l ≤ 1000000) (hz : WP.sizL l ≤ 1000000) :
  Calls Tryz.prog 82 #[v] w (LitOut w.heap.size w (WP.glit l)) := by
 obtain ⟨A, cap, rfl⟩ := h.slice
 have HG := Lib.hid h
 have hll := len_cnt l
 have HCN := Lib.hid hn
 obtain ⟨R, hR⟩ : ∃ R, WP.glit l = R := ⟨_, rfl⟩
 rw [hR]
 have HR := Lib.hid (show app [] (WP.glit (l.drop 0)) = R by rw [← hR]; show app [] (WP.glit l) = _; cases WP.glit l <;> rfl)
 have hn1 : (l.length : Int) ≤ 1000000 := by omega
 have HZ := Lib.hid (show ([] : List UInt8).length + WP.sizL (l.drop 0) ≤ 1000000 from by rw [List.length_nil, Nat.zero_add]; exact hz)
 have HFAIL := Lib.hid (show R = none → ∀ Y, Below w.heap.size w Y → LitOut w.heap.size w R (.returned (.tuple #[.string ⟨#[]⟩, .bool false])) Y from fun e Y hY => by rw [e]; exact ⟨rfl, hY⟩)
 have HDONE := Lib.hid (show ∀ acc, R = some acc → ∀ Y, Below w.heap.size w Y → LitOut w.heap.size w R (.returned (.tuple #[.string ⟨acc.toArray⟩, .bool true])) Y from fun acc e Y hY => by rw [e]; exact ⟨rfl, hY⟩)
 clear hR h hz hn hll
 go_enter Tryz.func82, Tryz.ntmps82
 go_wp2
 go_loopw [4, 5] (fun o i wr => ∃ (k : Nat) (acc : List UInt8), k ≤ l.length ∧ i = .int .i64 k ∧ o = .string ⟨acc.toArray⟩ ∧ Hid (app acc (WP.glit (l.drop k)) = R) ∧ Hid (acc.length + WP.sizL (l.drop k) ≤ 1000000) ∧ Hid (Below w.heap.size w wr)) (fun _ i _ => l.length - (intOf i).toNat)
 case atStart => exact ⟨0, [], Nat.zero_le _, rfl, rfl, HR, HZ, Lib.hid (Below.refl _ _)⟩
 case round =>
  obtain ⟨k, acc, hk, rfl, rfl, HN, HA, HB⟩ := hrel
  clear HR HZ
  by_cases hlt : k < l.length
  ·obtain ⟨p, hp, hd⟩ := get_of_lt hlt
   have HQ := Lib.hid (lit_drop hd)
   have HSZ := Lib.hid (siz_drop hd)
   obtain ⟨b, off, A2, cap2, rfl, hb, g0, g1, g2, g3, g4, hg⟩ := (HG.out.kept HB.out).get hp
   have hbr : b < wr.heap.size := Nat.lt_of_lt_of_le hb HB.out.size
   have HGP := Lib.hid hg
   have hcp := cnt_get hp
   have hcl := HCN.out
   clear hp hd hb hg
   obtain ⟨kd, t, o, c, ps⟩ := p
   have hpl := len_cnt ps
   dsimp only [WP.GP.kind, WP.GP.text, WP.GP.op, WP.GP.colon, WP.GP.parts] at g0 g1 g2 g3 g4 HGP hcp
   have hps : (0 : Int) ≤ (ps.length : Int) := by omega
   have hpm : (ps.length : Int) ≤ 1000000 := by omega
   have HSP := Lib.hid (show WP.sizP (.mk kd t o c ps) = t.length + WP.sizL ps by rw [WP.sizP])
   obtain ⟨X, hX⟩ : ∃ X, X = wr.alloc (.cells #[.int .i64 kd, .string ⟨t.toArray⟩, .int .i64 o, .bool c, .slice A2 ps.length cap2] 126) := ⟨_, rfl⟩
   have HWX := Lib.hid (show Below wr.heap.size wr X by rw [hX]; exact balloc _ _)
   have hxp : X.heap[wr.heap.size]? = some (.cells #[.int .i64 kd, .string ⟨t.toArray⟩, .int .i64 o, .bool c, .slice A2 ps.length cap2] 126 (0, 0)) := by rw [hX]; exact al_new wr _
   have x0 := Lib.cell_of_heap hxp 0
   have x1 := Lib.cell_of_heap hxp 1
   have x4 := Lib.cell_of_heap hxp 4
   have HX := Lib.hid hX
   have HBX := Lib.hid (HB.out.trans (HWX.out.mono HB.out.size))
   have HXP := Lib.hid hxp
   have ha1 : acc.length ≤ 1000000 := by have := HA.out; omega
   clear hX hxp hcp hcl hpl
   by_cases h12 : kd = 1 ∨ kd = 2
   ·have HF := Lib.hid (show app (acc ++ t) (WP.glit (l.drop (k + 1))) = R by
     rw [← HN.out, HQ.out, WP.glit1, if_pos h12, ← app_app]; rfl)
    have HA2 := Lib.hid (show (acc ++ t).length + WP.sizL (l.drop (k + 1)) ≤ 1000000 by
     have h1 := HA.out; have h2 := HSZ.out; have h3 := HSP.out; rw [List.length_append]; omega)
    have ht1 : t.length ≤ 1000000 := by have := HA2.out; rw [List.length_append] at this; omega
    rcases h12 with rfl | rfl
    all_goals
     go_upto_region 6 with (fail)
     rw [← HX.out]
     go_wp2
     go_roundw
     case rel => exact ⟨k + 1, acc ++ t, hlt, by go_num, by simp, HF, HA2, HBX⟩
     case measure => simp [intOf]; omega
   ·have n1 := beq_f (fun e => h12 (.inl e))
    have n2 := beq_f (fun e => h12 (.inr e))
    by_cases h3 : kd = 3
    ·subst h3
     obtain ⟨G, hG⟩ : ∃ G, WP.glit (l.drop (k + 1)) = G := ⟨_, rfl⟩
     have HGG := Lib.hid hG
     have HNI := Lib.hid (show app acc (inG (ps.drop 0) G) = R by rw [← HN.out, HQ.out, hG]; rfl)
     have HAI := Lib.hid (show acc.length + WP.sizL (ps.drop 0) + WP.sizL (l.drop (k + 1)) ≤ 1000000 by
      have h1 := HA.out; have h2 := HSZ.out; have h3 := HSP.out; show _ + WP.sizL ps + _ ≤ _; omega)
     have HGX := Lib.hid (show GS X (fun b => b < w.heap.size) (.slice A2 ps.length cap2) ps from HGP.out.below HWX.out)
     clear hG
     go_upto_region 6 with (fail)
     rw [← HX.out]
     go_wp2
     go_loopw [4, 7] (fun o i wi => ∃ (j : Nat) (acc2 : List UInt8), j ≤ ps.length ∧ i = .int .i64 j ∧ o = .string ⟨acc2.toArray⟩ ∧ Hid (app acc2 (inG (ps.drop j) G) = R) ∧ Hid (acc2.length + WP.sizL (ps.drop j) + WP.sizL (l.drop (k + 1)) ≤ 1000000) ∧ Hid (Below X.heap.size X wi)) (fun _ i _ => ps.length - (intOf i).toNat)
     case atStart => exact ⟨0, acc, Nat.zero_le _, rfl, rfl, HNI, HAI, Lib.hid (Below.refl _ _)⟩
     case round =>
      clear HNI HAI x0 x1 x4 HX ha1
      obtain ⟨j, acc2, hj, rfl, rfl, HN2, HA2, HB2⟩ := hrel
      have HBW2 := Lib.hid (HBX.out.trans (HB2.out.mono HBX.out.size))
      have hxp2 := (HB2.out.block _ (Array.getElem?_eq_some_iff.1 HXP.out).1).trans HXP.out
      have x1 := Lib.cell_of_heap hxp2 1
      have x4 := Lib.cell_of_heap hxp2 4
      clear hxp2
      by_cases hjl : j < ps.length
      ·obtain ⟨q, hq, hdq⟩ := get_of_lt hjl
       have HSZ2 := Lib.hid (siz_drop hdq)
       obtain ⟨b2, off2, A3, cap3, rfl, hb2, y0, y1, y2, y3, y4, -⟩ := (HGX.out.kept (HB2.out.mono HBX.out.size)).get hq
       have hbr2 : b2 < wr.heap.size := Nat.lt_of_lt_of_le hb2 HBW2.out.size
       obtain ⟨kd2, t2, o2, c2, qs⟩ := q
       have HDQ := Lib.hid hdq
       clear hq hdq hb2
       dsimp only [WP.GP.kind, WP.GP.text, WP.GP.op, WP.GP.colon, WP.GP.parts] at y0 y1 y2 y3 y4
       have HSP2 := Lib.hid (show WP.sizP (.mk kd2 t2 o2 c2 qs) = t2.length + WP.sizL qs by rw [WP.sizP])
       have hjl2 : (j : Int) < (ps.length : Int) := by omega
       by_cases h1 : kd2 = 1
       ·subst h1
        have HF := Lib.hid (show app (acc2 ++ t2) (inG (ps.drop (j + 1)) G) = R by
         rw [← HN2.out, inG_yes G HDQ.out rfl, ← app_app])
        have HA3 := Lib.hid (show (acc2 ++ t2).length + WP.sizL (ps.drop (j + 1)) + WP.sizL (l.drop (k + 1)) ≤ 1000000 by
         have h1 := HA2.out; have h2 := HSZ2.out; have h3 := HSP2.out; rw [List.length_append]; omega)
        have hc1 : acc2.length ≤ 1000000 := by have := HA2.out; omega
        have hc2 : t2.length ≤ 1000000 := by have := HA3.out; rw [List.length_append] at this; omega
        go_wp2
        go_roundw
        case rel => exact ⟨j + 1, acc2 ++ t2, hjl, by go_num, by simp, HF, HA3, HB2⟩
        case measure => simp [intOf]; omega
       ·have m1 := beq_f h1
        have m1' : (kd2 != 1) = true := by simpa using h1
        have HF := Lib.hid (show R = none by rw [← HN2.out, inG_no G HDQ.out h1]; rfl)
        go_wp2
        go_ret2
        exact HFAIL.out HF.out _ HBW2.out
      ·have HF := Lib.hid (show app acc2 (WP.glit (l.drop (k + 1))) = R by rw [← HN2.out, show ps.drop j = [] from List.drop_eq_nil_of_le (by omega), inG_nil, HGG.out])
       have HA3 := Lib.hid (show acc2.length + WP.sizL (l.drop (k + 1)) ≤ 1000000 by have := HA2.out; omega)
       have hjl2 : ¬ (j : Int) < (ps.length : Int) := by omega
       go_wp2
       go_roundw
       case rel => exact ⟨k + 1, acc2, hlt, by go_num, rfl, HF, HA3, HBW2⟩
       case measure => simp [intOf]; omega
    ·have n3 := beq_f h3
     have m1 : (kd != 1) = true := by simp [bne, n1]
     have m2 : (kd != 2) = true := by simp [bne, n2]
     have m3 : (kd != 3) = true := by simp [bne, n3]
     have HF := Lib.hid (show R = none by rw [← HN.out, HQ.out, WP.glit1, if_neg h12, if_neg h3]; rfl)
     go_upto_region 6 with (fail)
     rw [← HX.out]
     go_wp2
     go_ret2
     exact HFAIL.out HF.out _ HBX.out
  ·have HF := Lib.hid (show R = some acc by rw [← HN.out, show l.drop k = [] from List.drop_eq_nil_of_le (by omega)]; show app acc (WP.glit []) = _; rw [WP.glit]; exact app_nil acc)
   have hlt2 : ¬ (k : Int) < (l.length : Int) := by omega
   go_wp2
   go_ret2
   exact HDONE.out acc HF.out _ HB.out
end W
end Go.Proofs.YtcbdhheelddgeaaGreatDoor
namespace Go.Proofs.YtcbdhheelddgeaaGreatDoor
open Go.RowKit K
namespace AY
/-- The literal value of a token, by the specification's parser. -/
def litR (tx : List UInt8) : Option (List UInt8) := match RP.parse tx with | none => none | some ps => WP.glit (WP.gpL ps)
theorem lit_same (tx : List UInt8) (h : tx.length ≤ 16381) : litP tx = litR tx := by
 have h1 := RP.parse_eq (s := tx) (show tx.length + 3 ≤ 16384 by omega)
 unfold litP litR
 rw [← h1]
 cases WP.parse tx 0 <;> rfl
/-- What the specification's parser gives is no heavier than that. -/
def RPW : Prop := ∀ (tx : List UInt8) (ps : List WP.Part), tx.length ≤ 16384 → RP.parse tx = some ps → WP.cntL (WP.gpL ps) ≤ 1000000 ∧ WP.sizL (WP.gpL ps) ≤ 1000000
/-- The delimiter that a token behind an operator names. -/
def dOf (here : List UInt8) (kd : Nat) (tx : List UInt8) : Option D := if here ≠ [] ∧ kd = 1 then (litR tx).map fun u => (u, here == [60, 60, 45]) else none
theorem lines_dOf (here : List UInt8) (ls : List D) (kd : Nat) (tx : List UInt8) : linesOf litR (!here.isEmpty) (here == [60, 60, 45]) ls kd tx = match dOf here kd tx with | some d => ls ++ [d] | none => ls := by
 unfold linesOf dOf
 cases here with
 | nil => rw [if_neg (by simp), if_neg (by simp)]
 | cons c r =>
  by_cases hk : kd = 1
  ·rw [if_pos ⟨rfl, hk⟩, if_pos ⟨by simp, hk⟩]
   cases litR tx <;> rfl
  ·rw [if_neg (fun h => hk h.2), if_neg (fun h => hk h.2)]
end AY
namespace W
set_option maxRecDepth 100000
def DOut (w : World) (R : Option AY.D) (e : Ending) (w' : World) : Prop := e = .returned (.tuple #[.agg #[.string ⟨(R.getD ([], false)).1.toArray⟩, .bool (R.getD ([], false)).2, .bool false], .bool R.isSome]) ∧ Below w.heap.size w w'
set_option maxHeartbeats 4000000 in
theorem delimiter_ref (kd ps st : Nat) (tx here : List UInt8) (w : World) (hW : AY.RPW) (hl : tx.length ≤ 16384) : Calls Tryz.prog 45 #[.agg #[.int .i64 kd, .int .i64 ps, .int .i64 st, .string ⟨tx.toArray⟩], .string ⟨here.toArray⟩] w (DOut w (AY.dOf here kd tx)) := by
 by_cases h1 : here = []
 ·subst h1
  have HR := Lib.hid (show AY.dOf [] kd tx = none from if_neg (fun h => h.1 rfl))
  rw [HR.out]
  have q0 : (([] : List UInt8) == []) = true := rfl
  clear hW hl HR
  go_enter Tryz.func45, Tryz.ntmps45
  go_wp2
  exact bodyPost_ret (v := .tuple #[.agg #[.string ⟨#[]⟩, .bool false, .bool false], .bool false]) (by simp [results, Tryz.results45, go_sem]) rfl ⟨rfl, btr (balloc _ _) (balloc _ _)⟩
 have n0 : (here == []) = false := by rw [beq_eq_false_iff_ne]; exact h1
 by_cases hk : kd = 1
 case neg =>
  have HR := Lib.hid (show AY.dOf here kd tx = none from if_neg (fun h => hk h.2))
  rw [HR.out]
  have nk : ((kd : Int) != 1) = true := by rw [bne_iff_ne]; omega
  clear hW hl HR h1 hk
  go_enter Tryz.func45, Tryz.ntmps45
  go_wp2
  exact bodyPost_ret (v := .tuple #[.agg #[.string ⟨#[]⟩, .bool false, .bool false], .bool false]) (by simp [results, Tryz.results45, go_sem]) rfl ⟨rfl, btr (balloc _ _) (balloc _ _)⟩
 subst hk
 have HR := Lib.hid (show AY.dOf here 1 tx = (AY.litR tx).map fun u => (u, here == [60, 60, 45]) from if_pos ⟨h1, rfl⟩)
 rw [HR.out]
 have HP := Lib.hid (fun v => Parse_ref tx v (by omega))
 obtain ⟨bs, hbs⟩ : ∃ bs, (here == [60, 60, 45]) = bs := ⟨_, rfl⟩
 rw [hbs]
 have HW := Lib.hid (fun ps => hW tx ps hl)
 obtain ⟨L, hL⟩ : ∃ L, AY.litR tx = L := ⟨_, rfl⟩
 rw [hL]
 unfold AY.litR at hL
 have HM := Lib.hid hL
 clear HR h1 hl hW hL
 obtain ⟨X, hX⟩ : ∃ X, X = (w.alloc (.cells #[.int .i64 1, .int .i64 ps, .int .i64 st, .string ⟨tx.toArray⟩] 46)).alloc (.cells #[.string ⟨#[]⟩, .bool false, .bool false] 89) := ⟨_, rfl⟩
 have HX := Lib.hid hX
 have HBX := Lib.hid (show Below w.heap.size w X by rw [hX]; exact btr (balloc _ _) (balloc _ _))
 have hxt : X.heap[w.heap.size]? = some (.cells #[.int .i64 1, .int .i64 ps, .int .i64 st, .string ⟨tx.toArray⟩] 46 (0, 0)) := by
  rw [hX]; exact ((balloc _ _).block _ (by simp)).trans (al_new w _)
 have hxd : X.heap[w.heap.size + 1]? = some (.cells #[.string ⟨#[]⟩, .bool false, .bool false] 89 (0, 0)) := by
  rw [hX]
  have := al_new (w.alloc (.cells #[.int .i64 1, .int .i64 ps, .int .i64 st, .string ⟨tx.toArray⟩] 46)) (.cells #[.string ⟨#[]⟩, .bool false, .bool false] 89)
  simpa using this
 have x0 : X.cell? ⟨w.heap.size, 0, none⟩ = some (.int .i64 1) := Lib.cell_of_heap hxt 0
 have x3 : X.cell? ⟨w.heap.size, 3, none⟩ = some (.string ⟨tx.toArray⟩) := Lib.cell_of_heap hxt 3
 have HXD := Lib.hid hxd
 have hsz := (Array.getElem?_eq_some_iff.1 hxd).1
 have HSZ := Lib.hid hsz
 have HFIN := Lib.hid (fun (v : World) (hv : Below X.heap.size X v) => blk3 ((hv.block _ hsz).trans hxd))
 have hkk : ((1 : Int) != 1) = false := rfl
 have HBF := Lib.hid (show ∀ (v : World) (hv : Below X.heap.size X v) (a b c : Value), Below w.heap.size w (((v.setCell ⟨w.heap.size + 1, 0, none⟩ a).setCell ⟨w.heap.size + 1, 1, none⟩ b).setCell ⟨w.heap.size + 1, 2, none⟩ c) from fun v hv a b c => below3 (btr HBX.out hv) _ (Nat.le_succ _) _ _ _)
 clear hX hxt hxd hsz
 go_enter Tryz.func45, Tryz.ntmps45
 go_upto_region 1 with (fail)
 rw [← HX.out]
 go_wp2_with fail
 refine (HP.out _).mono ?_
 rintro e w1 ⟨PA, pn, pc, x, y, rfl, hb, hy⟩
 have HB := Lib.hid hb
 clear hb x0 x3
 cases hp : RP.parse tx with
 | none =>
  rw [hp] at hy
  obtain ⟨hy, rfl, rfl⟩ := hy
  have hy1 : (y != 0) = true := by rw [bne_iff_ne]; exact hy
  obtain rfl : none = L := by rw [← HM.out, hp]
  have HL := Lib.hid (LitRef_any (.slice none 0 pc) _ w1 (GS.of_rv (B := 0) (ps := []) (.inl rfl)) (show (0 : Nat) ≤ 1000000 by omega) (show (0 : Nat) ≤ 1000000 by omega))
  clear hy hp
  go_wp2_with fail
  refine HL.out.mono ?_
  rintro e w2 ⟨rfl, hb2⟩
  have HB2 := Lib.hid (btr HB.out hb2)
  clear hb2 HL HM
  obtain ⟨c0, c1, c2, f0, f1, f2⟩ := HFIN.out w2 HB2.out
  go_wp2
  exact bodyPost_ret (v := .tuple #[.agg #[.string ⟨#[]⟩, .bool false, .bool false], .bool false]) (by simp [results, Tryz.results45, go_sem, c0, c1, c2]) rfl ⟨rfl, HBF.out w2 HB2.out _ _ _⟩
 | some qs =>
  rw [hp] at hy
  obtain ⟨rfl, rfl, hrv⟩ := hy
  have HL := Lib.hid (LitRef_any (.slice PA qs.length pc) _ w1 (GS.of_rv hrv) (HW.out _ hp).1 (HW.out _ hp).2)
  have HM2 := Lib.hid (show WP.glit (WP.gpL qs) = L by rw [← HM.out, hp])
  clear hrv hp HM
  go_wp2_with fail
  refine HL.out.mono ?_
  rintro e w2 ⟨rfl, hb2⟩
  have HB2 := Lib.hid (btr HB.out hb2)
  clear hb2 HL
  rw [HM2.out]
  clear HM2
  obtain ⟨c0, c1, c2, f0, f1, f2⟩ := HFIN.out w2 HB2.out
  have hy1 : ((0 : Int) != 0) = false := rfl
  cases L with
  | none =>
   rw [show litStr none = [] from rfl, show (none : Option (List UInt8)).isSome = false from rfl]
   go_wp2
   exact bodyPost_ret (v := .tuple #[.agg #[.string ⟨#[]⟩, .bool false, .bool false], .bool false]) (by simp [results, Tryz.results45, go_sem, c0, c1, c2]) rfl ⟨rfl, HBF.out w2 HB2.out _ _ _⟩
  | some u =>
   rw [show litStr (some u) = u from rfl, show (some u).isSome = true from rfl]
   go_wp2
   exact bodyPost_ret (v := .tuple #[.agg #[.string ⟨u.toArray⟩, .bool bs, .bool false], .bool true]) (by simp [results, Tryz.results45, go_sem, c0, c1, c2]) rfl ⟨rfl, HBF.out w2 HB2.out _ _ _⟩
end W
end Go.Proofs.YtcbdhheelddgeaaGreatDoor
namespace Go.Proofs.YtcbdhheelddgeaaGreatDoor
open Go.RowKit K
namespace W
set_option maxRecDepth 100000
theorem blk8 {v : World} {b : Nat} {a0 a1 a2 a3 a4 a5 a6 a7 : Value} {t : TypeId} (h : v.heap[b]? = some (.cells #[a0, a1, a2, a3, a4, a5, a6, a7] t (0, 0))) :
  (v.cell? ⟨b, 0, none⟩ = some a0 ∧ v.cell? ⟨b, 1, none⟩ = some a1 ∧ v.cell? ⟨b, 2, none⟩ = some a2 ∧ v.cell? ⟨b, 3, none⟩ = some a3 ∧ v.cell? ⟨b, 4, none⟩ = some a4 ∧ v.cell? ⟨b, 5, none⟩ = some a5 ∧ v.cell? ⟨b, 6, none⟩ = some a6 ∧ v.cell? ⟨b, 7, none⟩ = some a7) ∧
  (v.frozen? ⟨b, 0, none⟩ = false ∧ v.frozen? ⟨b, 1, none⟩ = false ∧ v.frozen? ⟨b, 2, none⟩ = false ∧ v.frozen? ⟨b, 3, none⟩ = false ∧ v.frozen? ⟨b, 4, none⟩ = false ∧ v.frozen? ⟨b, 5, none⟩ = false ∧ v.frozen? ⟨b, 6, none⟩ = false ∧ v.frozen? ⟨b, 7, none⟩ = false) :=
 ⟨⟨Lib.cell_of_heap h 0, Lib.cell_of_heap h 1, Lib.cell_of_heap h 2, Lib.cell_of_heap h 3, Lib.cell_of_heap h 4, Lib.cell_of_heap h 5, Lib.cell_of_heap h 6, Lib.cell_of_heap h 7⟩,
  Lib.frozen_of_heap h 0, Lib.frozen_of_heap h 1, Lib.frozen_of_heap h 2, Lib.frozen_of_heap h 3, Lib.frozen_of_heap h 4, Lib.frozen_of_heap h 5, Lib.frozen_of_heap h 6, Lib.frozen_of_heap h 7⟩
/-- The two blocks that step makes first. -/
structure SJ (w : World) (cs : Array Value) (X : World) : Prop where
 bel : Below w.heap.size w X
 st : X.heap[w.heap.size]? = some (.cells cs 57 (0, 0))
 re : X.heap[w.heap.size + 1]? = some (.cells #[.string ⟨#[]⟩, .int .i64 0, .bool false, .slice none 0 0, .slice none 0 0, .string ⟨#[]⟩, .bool false, .int .i64 0] 57 (0, 0))
theorem SJ.of (w : World) (cs : Array Value) : SJ w cs ((w.alloc (.cells cs 57)).alloc (.cells #[.string ⟨#[]⟩, .int .i64 0, .bool false, .slice none 0 0, .slice none 0 0, .string ⟨#[]⟩, .bool false, .int .i64 0] 57)) := by
 refine ⟨btr (balloc _ _) (balloc _ _), ((balloc _ _).block _ (by simp)).trans (al_new w _), ?_⟩
 have := al_new (w.alloc (.cells cs 57)) (.cells #[.string ⟨#[]⟩, .int .i64 0, .bool false, .slice none 0 0, .slice none 0 0, .string ⟨#[]⟩, .bool false, .int .i64 0] 57)
 simpa using this
theorem SJ.late {w X Y : World} {cs : Array Value} (h : SJ w cs X) (hb : Below X.heap.size X Y) : SJ w cs Y :=
 ⟨btr h.bel hb, (hb.block _ (Array.getElem?_eq_some_iff.1 h.st).1).trans h.st, (hb.block _ (Array.getElem?_eq_some_iff.1 h.re).1).trans h.re⟩
theorem below8 {B : Nat} {w v : World} (h : Below B w v) (b : Nat) (hb : B ≤ b) (v0 v1 v2 v3 v4 v5 v6 v7 : Value) : Below B w ((((((((v.setCell ⟨b, 0, none⟩ v0).setCell ⟨b, 1, none⟩ v1).setCell ⟨b, 2, none⟩ v2).setCell ⟨b, 3, none⟩ v3).setCell ⟨b, 4, none⟩ v4).setCell ⟨b, 5, none⟩ v5).setCell ⟨b, 6, none⟩ v6).setCell ⟨b, 7, none⟩ v7) :=
 (((((((h.setCell hb _).setCell hb _).setCell hb _).setCell hb _).setCell hb _).setCell hb _).setCell hb _).setCell hb _
set_option maxHeartbeats 8000000 in
theorem step_over (s here : List UInt8) (at_ : Nat) (place : Bool) (RA HA : Option Addr) (rn rc hn hc an ac : Nat) (AA : Option Addr) (w : World) (kd ps st : Nat) (tx : List UInt8) (x : Int) (hl : s.length ≤ 100000) (ha : at_ ≤ s.length) (hr : LX.next s at_ = (⟨kd, ps, st, tx⟩, x)) (ho : x ≠ 0 ∨ kd = 5) :
  Calls Tryz.prog 18 #[.agg #[.string ⟨s.toArray⟩, .int .i64 at_, .bool place, .slice RA rn rc, .slice HA hn hc, .string ⟨here.toArray⟩, .bool false, .int .i64 0], .slice AA an ac] w fun e w' =>
   e = .returned (.agg #[.string ⟨s.toArray⟩, .int .i64 at_, .bool place, .slice RA rn rc, .slice HA hn hc, .string ⟨here.toArray⟩, .bool true, .int .i64 0]) ∧ Below w.heap.size w w' := by
 have HN := Lib.hid (fun v => Next_ref s at_ v kd ps st tx x hl ha hr)
 obtain ⟨X, hX⟩ : ∃ X, X = (w.alloc (.cells #[.string ⟨s.toArray⟩, .int .i64 at_, .bool place, .slice RA rn rc, .slice HA hn hc, .string ⟨here.toArray⟩, .bool false, .int .i64 0] 57)).alloc (.cells #[.string ⟨#[]⟩, .int .i64 0, .bool false, .slice none 0 0, .slice none 0 0, .string ⟨#[]⟩, .bool false, .int .i64 0] 57) := ⟨_, rfl⟩
 have HJ := Lib.hid (show SJ w _ X by rw [hX]; exact SJ.of w _)
 have HX := Lib.hid hX
 obtain ⟨⟨x0, x1, -⟩, -⟩ := blk8 HJ.out.st
 clear hX hr ha hl
 go_enter Tryz.func18, Tryz.ntmps18
 go_upto_region 1 with (fail)
 rw [← HX.out]
 go_wp2_with fail
 refine (HN.out _).mono ?_
 rintro e w1 ⟨rfl, hb1⟩
 obtain ⟨Y, hY⟩ : ∃ Y, Y = w1.alloc (.cells #[.int .i64 kd, .int .i64 ps, .int .i64 st, .string ⟨tx.toArray⟩] 46) := ⟨_, rfl⟩
 have HJY := Lib.hid (HJ.out.late (show Below X.heap.size X Y by rw [hY]; exact btr hb1 (balloc _ _)))
 have y0 : Y.cell? ⟨w1.heap.size, 0, none⟩ = some (.int .i64 kd) := by rw [hY]; exact Lib.cell_of_heap (al_new w1 _) 0
 have HY := Lib.hid hY
 clear hY hb1 x0 x1
 go_upto_region 2 with (fail)
 rw [← HY.out]
 obtain ⟨-, -, -, -, -, -, f6, -⟩ := (blk8 HJY.out.st).2
 obtain ⟨-, -, -, -, -, -, z6, -⟩ := (blk8 HJY.out.st).1
 obtain ⟨U, hU⟩ : ∃ U, U = Y.setCell ⟨w.heap.size, 6, none⟩ (.bool true) := ⟨_, rfl⟩
 have hu1 : U.heap[w.heap.size]? = some (.cells #[.string ⟨s.toArray⟩, .int .i64 at_, .bool place, .slice RA rn rc, .slice HA hn hc, .string ⟨here.toArray⟩, .bool true, .int .i64 0] 57 (0, 0)) := by
  rw [hU]; exact heap_setCell_same Y w.heap.size 6 _ _ (.bool true) HJY.out.st
 have hu2 : U.heap[w.heap.size + 1]? = some (.cells #[.string ⟨#[]⟩, .int .i64 0, .bool false, .slice none 0 0, .slice none 0 0, .string ⟨#[]⟩, .bool false, .int .i64 0] 57 (0, 0)) := by
  rw [hU]; exact (Below.heap_setCell _ _ _ _ (by dsimp only; omega)).trans HJY.out.re
 have HBU := Lib.hid (show Below w.heap.size w U by rw [hU]; exact HJY.out.bel.setCell (Nat.le_refl _) _)
 have HU := Lib.hid hU
 have HU1 := Lib.hid hu1
 have HU2 := Lib.hid hu2
 clear hU hu1 hu2
 have HGO := Lib.hid ho
 clear ho
 by_cases hx : x = 0
 ·subst hx
  obtain rfl : kd = 5 := HGO.out.resolve_left (fun h => h rfl)
  go_upto_region 4 with (fail)
  rw [← HU.out]
  obtain ⟨⟨c0, c1, c2, c3, c4, c5, c6, c7⟩, -⟩ := blk8 HU1.out
  obtain ⟨⟨d0, d1, d2, d3, d4, d5, d6, d7⟩, e0, e1, e2, e3, e4, e5, e6, e7⟩ := blk8 HU2.out
  clear z6 f6 y0
  go_wp2
  exact bodyPost_ret (v := .agg #[.string ⟨s.toArray⟩, .int .i64 at_, .bool place, .slice RA rn rc, .slice HA hn hc, .string ⟨here.toArray⟩, .bool true, .int .i64 0]) (by simp [results, Tryz.results18, go_sem, d0, d1, d2, d3, d4, d5, d6, d7]) rfl ⟨rfl, below8 HBU.out _ (Nat.le_succ _) _ _ _ _ _ _ _ _⟩
 ·have hx1 : (x != 0) = true := by rw [bne_iff_ne]; exact hx
  clear hx
  go_upto_region 4 with (fail)
  rw [← HU.out]
  obtain ⟨⟨c0, c1, c2, c3, c4, c5, c6, c7⟩, -⟩ := blk8 HU1.out
  obtain ⟨⟨d0, d1, d2, d3, d4, d5, d6, d7⟩, e0, e1, e2, e3, e4, e5, e6, e7⟩ := blk8 HU2.out
  clear z6 f6 y0
  go_wp2
  exact bodyPost_ret (v := .agg #[.string ⟨s.toArray⟩, .int .i64 at_, .bool place, .slice RA rn rc, .slice HA hn hc, .string ⟨here.toArray⟩, .bool true, .int .i64 0]) (by simp [results, Tryz.results18, go_sem, d0, d1, d2, d3, d4, d5, d6, d7]) rfl ⟨rfl, below8 HBU.out _ (Nat.le_succ _) _ _ _ _ _ _ _ _⟩
end W
end Go.Proofs.YtcbdhheelddgeaaGreatDoor
namespace Go.Proofs.YtcbdhheelddgeaaGreatDoor
open Go.RowKit K
namespace W
/-- The state's box. -/
def StB (V : World) (g : Nat) (s : List UInt8) (n : Int) (pl : Bool) (rv hv : Value) (here : List UInt8) (o : Bool) (e : Int) : Prop :=
 V.heap[g]? = some (.cells #[.string ⟨s.toArray⟩, .int .i64 n, .bool pl, rv, hv, .string ⟨here.toArray⟩, .bool o, .int .i64 e] 57 (0, 0))
theorem far {V : World} {k q o : Nat} {u : Value} {x : Option Obj} (h : V.heap[k]? = x) (hk : k ≠ q) : (V.setCell ⟨q, o, none⟩ u).heap[k]? = x := (Below.heap_setCell _ _ _ _ (by dsimp only; exact hk)).trans h
section
variable {V W' : World} {g : Nat} {s : List UInt8} {n : Int} {pl : Bool} {rv hv : Value} {here : List UInt8} {o : Bool} {e : Int}
theorem StB.lt (h : StB V g s n pl rv hv here o e) : g < V.heap.size := (Array.getElem?_eq_some_iff.1 h).1
theorem StB.kept (h : StB V g s n pl rv hv here o e) (hg : W'.heap[g]? = V.heap[g]?) : StB W' g s n pl rv hv here o e := hg.trans h
theorem StB.set0 (h : StB V g s n pl rv hv here o e) (t : List UInt8) : StB (V.setCell ⟨g, 0, none⟩ (.string ⟨t.toArray⟩)) g t n pl rv hv here o e := heap_setCell_same V g 0 _ _ (.string ⟨t.toArray⟩) h
theorem StB.set1 (h : StB V g s n pl rv hv here o e) (m : Int) : StB (V.setCell ⟨g, 1, none⟩ (.int .i64 m)) g s m pl rv hv here o e := heap_setCell_same V g 1 _ _ (.int .i64 m) h
theorem StB.set2 (h : StB V g s n pl rv hv here o e) (b : Bool) : StB (V.setCell ⟨g, 2, none⟩ (.bool b)) g s n b rv hv here o e := heap_setCell_same V g 2 _ _ (.bool b) h
theorem StB.set3 (h : StB V g s n pl rv hv here o e) (v : Value) : StB (V.setCell ⟨g, 3, none⟩ (v)) g s n pl v hv here o e := heap_setCell_same V g 3 _ _ (v) h
theorem StB.set4 (h : StB V g s n pl rv hv here o e) (v : Value) : StB (V.setCell ⟨g, 4, none⟩ (v)) g s n pl rv v here o e := heap_setCell_same V g 4 _ _ (v) h
theorem StB.set5 (h : StB V g s n pl rv hv here o e) (t : List UInt8) : StB (V.setCell ⟨g, 5, none⟩ (.string ⟨t.toArray⟩)) g s n pl rv hv t o e := heap_setCell_same V g 5 _ _ (.string ⟨t.toArray⟩) h
theorem StB.set6 (h : StB V g s n pl rv hv here o e) (b : Bool) : StB (V.setCell ⟨g, 6, none⟩ (.bool b)) g s n pl rv hv here b e := heap_setCell_same V g 6 _ _ (.bool b) h
theorem StB.set7 (h : StB V g s n pl rv hv here o e) (m : Int) : StB (V.setCell ⟨g, 7, none⟩ (.int .i64 m)) g s n pl rv hv here o m := heap_setCell_same V g 7 _ _ (.int .i64 m) h
end
end W
end Go.Proofs.YtcbdhheelddgeaaGreatDoor
namespace Go.Proofs.YtcbdhheelddgeaaGreatDoor
open Go.RowKit K
namespace AY
/-- A delimiter is put behind the others, if there is one. -/
def addD (ls : List D) : Option D → List D
 | some d => ls ++ [d]
 | none => ls
theorem lines_addD (here : List UInt8) (ls : List D) (kd : Nat) (tx : List UInt8) : linesOf litR (!here.isEmpty) (here == [60, 60, 45]) ls kd tx = addD ls (dOf here kd tx) := by
 rw [lines_dOf]
 cases dOf here kd tx <;> rfl
theorem bl_by : ∀ n : Nat, n < 256 → P.bl (n : Int) = (UInt8.ofNat n == 32 || UInt8.ofNat n == 9) := by decide +kernel
theorem blank_bt {v : List UInt8} {m : Nat} (h : v.length = m + 1) : AX.blank v = P.bl (bt v m) := by
 have hv : v ≠ [] := by rintro rfl; simp at h
 obtain ⟨a, x, rfl⟩ : ∃ a x, v = a ++ [x] := ⟨v.dropLast, v.getLast hv, (List.dropLast_concat_getLast hv).symm⟩
 rw [List.length_append, List.length_singleton] at h
 obtain rfl : a.length = m := by omega
 have hb : bt (a ++ [x]) a.length = (x.toNat : Int) := by simp [bt]
 rw [hb, bl_by _ x.toNat_lt, UInt8.ofNat_toNat]
 unfold AX.blank
 rw [List.getLast?_append]
 simp
theorem addD_len (ls : List D) (o : Option D) : (addD ls o).length ≤ ls.length + 1 := by
 cases o with
 | none => exact Nat.le_succ _
 | some d => unfold addD; rw [List.length_append]; exact Nat.le_refl _
theorem here_op (kd : Nat) (tx : List UInt8) : (if (((kd : Int) == 2) && ((tx == [60, 60]) || (tx == [60, 60, 45]))) = true then tx else []) = (if kd = 2 ∧ (tx = [60, 60] ∨ tx = [60, 60, 45]) then tx else []) := by
 have h1 : ((((kd : Int) == 2) && ((tx == [60, 60]) || (tx == [60, 60, 45]))) = true) ↔ (kd = 2 ∧ (tx = [60, 60] ∨ tx = [60, 60, 45])) := by
  rw [Bool.and_eq_true, Bool.or_eq_true, beq_iff_eq, beq_iff_eq, beq_iff_eq, show ((kd : Int) = 2 ↔ kd = 2) by omega]
 by_cases h : kd = 2 ∧ (tx = [60, 60] ∨ tx = [60, 60, 45])
 ·rw [if_pos (h1.2 h), if_pos h]
 ·rw [if_neg (fun h2 => h (h1.1 h2)), if_neg h]
end AY
namespace W
set_option maxRecDepth 100000
theorem OR.cellR {α : Type} {m : Nat} {enc : α → List Value} {T : TypeId} {B : Nat} {w : World} {v : Value} {l : List α} (h : OR m enc T B w v l) (hm : ∀ x, (enc x).length = m) (q o : Nat) (hq : q < B) (u : Value) : RV m enc (w.setCell ⟨q, o, none⟩ u) v l := by
 obtain ⟨A, cap, rfl, hc, hr⟩ := h.rv hm
 refine ⟨A, cap, rfl, hc, ?_⟩
 rcases hr with hr | ⟨b, off, rfl, hb, hat⟩
 ·exact .inl hr
 ·refine .inr ⟨b, off, rfl, by simpa using hb, fun i x hx j u' hj => ?_⟩
  have hge := own_geR h b rfl
  rw [← hat i x hx j u' hj]
  unfold World.cell?
  rw [Below.heap_setCell _ _ _ b (by dsimp only; omega)]
theorem cell_far {V : World} {z i q o : Nat} {u : Value} {x : Option Value} (h : V.cell? ⟨z, i, none⟩ = x) (hz : z ≠ q) : (V.setCell ⟨q, o, none⟩ u).cell? ⟨z, i, none⟩ = x := by
 rw [← h]
 unfold World.cell?
 rw [Below.heap_setCell _ _ _ z (by dsimp only; exact hz)]
theorem own_le {w : World} {base base' : Nat} {e : TypeId} {size : Nat} {v : Value} {n : Nat} {xs : List Value} (h : w.ownsRow base e size v n xs) (hb : base' ≤ base) : w.ownsRow base' e size v n xs :=
 ⟨h.1, h.2.imp_right fun ⟨g, cap, cur, hv, hg, r⟩ => ⟨g, cap, cur, hv, Nat.le_trans hb hg, r⟩⟩
/-- What step leaves where it goes on. -/
def SOut (B : Nat) (w : World) (r : AY.R) (e : Ending) (w' : World) : Prop :=
 ∃ (RA HA : Option Addr) (rn rc hn hc : Nat), e = .returned (.agg #[.string ⟨r.s.toArray⟩, .int .i64 r.at_, .bool r.place, .slice RA rn rc, .slice HA hn hc, .string ⟨r.here.toArray⟩, .bool false, .int .i64 0]) ∧ OR 3 encG 87 B w' (.slice RA rn rc) r.regs ∧ OR 3 encD 89 B w' (.slice HA hn hc) r.heres ∧ Below B w w'
/-- What step leaves where it ends. -/
def Ended (E : Int) (B : Nat) (w : World) (s : List UInt8) (e : Ending) (w' : World) : Prop :=
 ∃ (a : Nat) (p : Bool) (RA HA : Option Addr) (rn rc hn hc : Nat) (here : List UInt8), e = .returned (.agg #[.string ⟨s.toArray⟩, .int .i64 a, .bool p, .slice RA rn rc, .slice HA hn hc, .string ⟨here.toArray⟩, .bool true, .int .i64 E]) ∧ Below B w w'
def StepO (B : Nat) (w : World) (r : AY.R) (o : AY.O) (e : Ending) (w' : World) : Prop :=
 match o with
 | .over => Ended 0 B w r.s e w'
 | .long => ∃ s2, Ended 3 B w s2 e w'
 | .go r' => SOut B w r' e w'
/-- The state's box, the result's, the token's and the two rows, behind the tests of step. -/
structure TA (B g z kd ps st : Nat) (tx s : List UInt8) (at_ : Int) (place : Bool) (rv hv : Value) (here : List UInt8) (rs : List AY.G) (hs : List AY.D) (w V : World) : Prop where
 box : StB V g s at_ place rv hv here false 0
 res : StB V (g + 1) [] 0 false (.slice none 0 0) (.slice none 0 0) [] false 0
 tok : V.heap[z]? = some (.cells #[.int .i64 kd, .int .i64 ps, .int .i64 st, .string ⟨tx.toArray⟩] 46 (0, 0))
 regs : OR 3 encG 87 (g + 2) V rv rs
 heres : OR 3 encD 89 B V hv hs
 bel : Below B w V
 hz : g + 1 < z
 hB : B ≤ g
theorem or_apart {α : Type} {m : Nat} {enc : α → List Value} {T T' : TypeId} {B : Nat} {V : World} {v : Value} {l : List α} {q : Nat} {cs : Array Value} {fz : Nat × Nat} (h : OR m enc T B V v l) (hq : V.heap[q]? = some (.cells cs T' fz)) (hT : T ≠ T') : v.ownBlock ≠ some q := fun e => by
 obtain ⟨c, f, hk⟩ := Lib.ownsRow_kind h q e
 rw [hq] at hk
 injection hk with hk
 injection hk with _ hk _
 exact hT hk.symm
section
variable {B g z kd ps st : Nat} {tx s : List UInt8} {at_ : Int} {place : Bool} {rv hv : Value} {here : List UInt8} {rs : List AY.G} {hs : List AY.D} {w V V' : World}
theorem TA.hv_g (h : TA B g z kd ps st tx s at_ place rv hv here rs hs w V) : hv.ownBlock ≠ some g := or_apart h.heres h.box (by decide)
theorem TA.hv_r (h : TA B g z kd ps st tx s at_ place rv hv here rs hs w V) : hv.ownBlock ≠ some (g + 1) := or_apart h.heres h.res (by decide)
theorem TA.late (h : TA B g z kd ps st tx s at_ place rv hv here rs hs w V) (hb : Below V.heap.size V V') : TA B g z kd ps st tx s at_ place rv hv here rs hs w V' :=
 ⟨h.box.kept (hb.block _ h.box.lt), h.res.kept (hb.block _ h.res.lt), (hb.block _ (Array.getElem?_eq_some_iff.1 h.tok).1).trans h.tok, row_below h.regs hb, row_below h.heres hb, h.bel.trans (hb.mono (Nat.le_trans h.hB (Nat.le_of_lt h.box.lt))), h.hz, h.hB⟩
theorem TA.put (h : TA B g z kd ps st tx s at_ place rv hv here rs hs w V) (o : Nat) (u : Value) {s2 : List UInt8} {a2 : Int} {p2 : Bool} {h2 : List UInt8} (hb : StB (V.setCell ⟨g, o, none⟩ u) g s2 a2 p2 rv hv h2 false 0) : TA B g z kd ps st tx s2 a2 p2 rv hv h2 rs hs w (V.setCell ⟨g, o, none⟩ u) :=
 ⟨hb, far h.res (by omega), far h.tok (by have := h.hz; omega), ownsRow_setCell_below h.regs (by dsimp only; omega) u, ownsRow_setCell_other h.heres h.hv_g u, h.bel.setCell h.hB u, h.hz, h.hB⟩
theorem TA.set5 (h : TA B g z kd ps st tx s at_ place rv hv here rs hs w V) (t : List UInt8) : TA B g z kd ps st tx s at_ place rv hv t rs hs w (V.setCell ⟨g, 5, none⟩ (.string ⟨t.toArray⟩)) := h.put 5 _ (h.box.set5 t)
theorem TA.set1 (h : TA B g z kd ps st tx s at_ place rv hv here rs hs w V) (n : Int) : TA B g z kd ps st tx s n place rv hv here rs hs w (V.setCell ⟨g, 1, none⟩ (.int .i64 n)) := h.put 1 _ (h.box.set1 n)
theorem TA.set2 (h : TA B g z kd ps st tx s at_ place rv hv here rs hs w V) (b : Bool) : TA B g z kd ps st tx s at_ b rv hv here rs hs w (V.setCell ⟨g, 2, none⟩ (.bool b)) := h.put 2 _ (h.box.set2 b)
theorem TA.set0 (h : TA B g z kd ps st tx s at_ place rv hv here rs hs w V) (t : List UInt8) : TA B g z kd ps st tx t at_ place rv hv here rs hs w (V.setCell ⟨g, 0, none⟩ (.string ⟨t.toArray⟩)) := h.put 0 _ (h.box.set0 t)
theorem TA.reg (h : TA B g z kd ps st tx s at_ place rv hv here rs hs w V) {W : World} {rv2 : Value} {gs : List AY.G} (hb : Below V.heap.size V W) (ho : OR 3 encG 87 V.heap.size W rv2 gs) : TA B g z kd ps st tx s at_ place rv2 hv here gs hs w (W.setCell ⟨g, 3, none⟩ rv2) := by
 have hW := h.late hb
 have hz2 := (Array.getElem?_eq_some_iff.1 h.tok).1
 exact ⟨hW.box.set3 _, far hW.res (by omega), far hW.tok (by have := h.hz; omega), ownsRow_setCell_below (own_le ho (by have := h.hz; omega)) (by dsimp only; omega) _, ownsRow_setCell_other hW.heres hW.hv_g _, hW.bel.setCell h.hB _, h.hz, h.hB⟩
theorem TA.nil4 (h : TA B g z kd ps st tx s at_ place rv hv here rs hs w V) : TA B g z kd ps st tx s at_ place rv (.slice none 0 0) here rs [] w (V.setCell ⟨g, 4, none⟩ (.slice none 0 0)) :=
 ⟨h.box.set4 _, far h.res (by omega), far h.tok (by have := h.hz; omega), ownsRow_setCell_below h.regs (by dsimp only; omega) _, OR.nil _ _ _, h.bel.setCell h.hB _, h.hz, h.hB⟩
theorem regs8 {T : TypeId} {V : World} {g : Nat} (h : OR 3 encG T (g + 2) V rv rs) (v0 v1 v2 v3 v4 v5 v6 v7 : Value) : OR 3 encG T (g + 2) ((((((((V.setCell ⟨g + 1, 0, none⟩ v0).setCell ⟨g + 1, 1, none⟩ v1).setCell ⟨g + 1, 2, none⟩ v2).setCell ⟨g + 1, 3, none⟩ v3).setCell ⟨g + 1, 4, none⟩ v4).setCell ⟨g + 1, 5, none⟩ v5).setCell ⟨g + 1, 6, none⟩ v6).setCell ⟨g + 1, 7, none⟩ v7) rv rs := by
 have hk : g + 1 < g + 2 := Nat.lt_succ_self _
 exact ownsRow_setCell_below (ownsRow_setCell_below (ownsRow_setCell_below (ownsRow_setCell_below (ownsRow_setCell_below (ownsRow_setCell_below (ownsRow_setCell_below (ownsRow_setCell_below h hk v0) hk v1) hk v2) hk v3) hk v4) hk v5) hk v6) hk v7
theorem heres8 {T : TypeId} {V : World} {q : Nat} (h : OR 3 encD T B V hv hs) (hk : hv.ownBlock ≠ some q) (v0 v1 v2 v3 v4 v5 v6 v7 : Value) : OR 3 encD T B ((((((((V.setCell ⟨q, 0, none⟩ v0).setCell ⟨q, 1, none⟩ v1).setCell ⟨q, 2, none⟩ v2).setCell ⟨q, 3, none⟩ v3).setCell ⟨q, 4, none⟩ v4).setCell ⟨q, 5, none⟩ v5).setCell ⟨q, 6, none⟩ v6).setCell ⟨q, 7, none⟩ v7) hv hs :=
 ownsRow_setCell_other (ownsRow_setCell_other (ownsRow_setCell_other (ownsRow_setCell_other (ownsRow_setCell_other (ownsRow_setCell_other (ownsRow_setCell_other (ownsRow_setCell_other h hk v0) hk v1) hk v2) hk v3) hk v4) hk v5) hk v6) hk v7
/-- What stands behind the copy of the state into the result. -/
theorem TA.out {RA HA : Option Addr} {rn rc hn hc : Nat} {n : Nat} (h : TA B g z kd ps st tx s n place (.slice RA rn rc) (.slice HA hn hc) here rs hs w V) (v0 v1 v2 v3 v4 v5 v6 v7 : Value) :
  SOut B w ⟨s, n, place, rs, hs, here⟩ (.returned (.agg #[.string ⟨s.toArray⟩, .int .i64 n, .bool place, .slice RA rn rc, .slice HA hn hc, .string ⟨here.toArray⟩, .bool false, .int .i64 0])) ((((((((V.setCell ⟨g + 1, 0, none⟩ v0).setCell ⟨g + 1, 1, none⟩ v1).setCell ⟨g + 1, 2, none⟩ v2).setCell ⟨g + 1, 3, none⟩ v3).setCell ⟨g + 1, 4, none⟩ v4).setCell ⟨g + 1, 5, none⟩ v5).setCell ⟨g + 1, 6, none⟩ v6).setCell ⟨g + 1, 7, none⟩ v7) :=
 ⟨RA, HA, rn, rc, hn, hc, rfl, own_le (regs8 h.regs v0 v1 v2 v3 v4 v5 v6 v7) (by have := h.hB; omega), heres8 h.heres h.hv_r v0 v1 v2 v3 v4 v5 v6 v7, below8 h.bel (g + 1) (Nat.le_succ_of_le h.hB) v0 v1 v2 v3 v4 v5 v6 v7⟩
theorem TA.appB (h : TA B g z kd ps st tx s at_ place rv hv here rs hs w V) {W X : World} (hb : Below V.heap.size V X) (hg : X.grownBy W hv.ownBlock) : StB W g s at_ place rv hv here false 0 := by
 have hX := h.late hb
 exact hX.box.kept (hg.block g hX.box.lt (fun e => hX.hv_g e.symm))
/-- A delimiter was added to the row. -/
theorem TA.app (h : TA B g z kd ps st tx s at_ place rv hv here rs hs w V) {W : World} {hv2 : Value} {d : AY.D} {X : World} (hb : Below V.heap.size V X) (ho : W.ownsRow B 89 3 hv2 (hs.length + 1) (hs.flatMap encD ++ encD d)) (hg : X.grownBy W hv.ownBlock) :
  TA B g z kd ps st tx s at_ place rv hv2 here rs (hs ++ [d]) w (W.setCell ⟨g, 4, none⟩ hv2) := by
 have hX := h.late hb
 have hr : ∀ q, q < X.heap.size → hv.ownBlock ≠ some q → W.heap[q]? = X.heap[q]? := fun q h1 h2 => hg.block q h1 (fun e => h2 e.symm)
 have hbx : StB W g s at_ place rv hv here false 0 := hX.box.kept (hr g hX.box.lt hX.hv_g)
 have hrx : W.heap[g + 1]? = X.heap[g + 1]? := hr _ hX.res.lt hX.hv_r
 have hzl := (Array.getElem?_eq_some_iff.1 hX.tok).1
 have htx : W.heap[z]? = X.heap[z]? := hr _ hzl (or_apart hX.heres hX.tok (by decide))
 have hrow : OR 3 encG 87 (g + 2) W rv rs := own_same hX.regs (fun q hq => hr q (hX.regs.lt q hq).2 (fun e => by
  obtain ⟨cs, fz, hk⟩ := Lib.ownsRow_kind hX.regs q hq
  exact or_apart hX.heres hk (by decide) e))
 have hbel : Below B w W := hX.bel.grown hg (Nat.le_trans hX.hB (Nat.le_of_lt hX.box.lt)) (fun q hq => own_geR hX.heres q hq)
 have hne : hv2.ownBlock ≠ some g := or_apart (OR.snocR (enc := encD) (x := d) ho) hbx (by decide)
 exact ⟨hbx.set4 _, far (hrx.trans hX.res) (by omega), far (htx.trans hX.tok) (by have := h.hz; omega), ownsRow_setCell_below hrow (by dsimp only; omega) _, ownsRow_setCell_other (OR.snocR (enc := encD) ho) hne _, hbel.setCell h.hB _, h.hz, h.hB⟩
end
theorem infoD : (Tryz.prog.info? 89).map (fun i => (i.zero, i.size, i.bytes)) = some (some (.agg #[.string ⟨#[]⟩, .bool false, .bool false]), 3, 24) := by kernel_rfl
theorem encD_one (d : AY.D) : ∀ u ∈ encD d, u.oneCell' = true := by
 intro u hu
 simp [encD] at hu
 rcases hu with rfl | rfl | rfl <;> rfl
end W
end Go.Proofs.YtcbdhheelddgeaaGreatDoor
