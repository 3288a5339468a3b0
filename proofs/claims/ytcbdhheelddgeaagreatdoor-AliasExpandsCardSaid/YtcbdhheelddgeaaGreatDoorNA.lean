/- Several texts in one: W09za W09na W09nb W09nc. -/
import Derived.Test.YtcbdhheelddgeaaGreatDoorZB
import Derived.Test.YtcbdhheelddgeaaGreatDoorZI
import Derived.Test.YtcbdhheelddgeaaGreatDoorZL
import Derived.Deep.LoopGhost
import Derived.StillTailTactics
import Derived.Deep.RegionHeld3
import Derived.Test.YtcbdhheelddgeaaGreatDoorShelfC
import Derived.Deep.QuietTactic
import Derived.BigQuiet
import Derived.IntWalk
import Derived.Test.YtcbdhheelddgeaaGreatDoorZK
import Derived.Test.YtcbdhheelddgeaaGreatDoorZJ
import Derived.Deep.DeepCutAuto
namespace Go.Proofs.YtcbdhheelddgeaaGreatDoor
open K
namespace LX
theorem next_span {s : Str} {a : Nat} {t : Tok} (ha : a ≤ s.length) (h : next s a = (t, 0)) (h5 : t.kind ≠ 5) : t.pos ≤ t.stop ∧ t.stop ≤ s.length := by
 have hf := next_far ha h
 refine ⟨?_, hf.resolve_left h5 |>.2⟩
 unfold next at h
 split at h
 ·simp at h
 unfold nextAt at h
 split at h
 ·injection h with h _
  rw [← h] at h5
  simp at h5
 split at h
 ·injection h with h _
  rw [← h]
  simp [tok]
 split at h
 ·injection h with h _
  rw [← h]
  simp [tok]
 unfold nextW at h
 split at h
 ·rename_i hw
  injection h with h _
  rw [← h]
  exact (word_good _ s _ (skipTo_le ha)).2.1 hw
 ·rename_i hw
  injection h with _ h
  exact absurd h hw
end LX
end Go.Proofs.YtcbdhheelddgeaaGreatDoor
namespace Go.Proofs.YtcbdhheelddgeaaGreatDoor
open Go.RowKit K
namespace W
theorem set4_heap {v : World} {b : Nat} {a0 a1 a2 a3 : Value} {t : TypeId} (h : v.heap[b]? = some (.cells #[a0, a1, a2, a3] t (0, 0))) (u0 u1 u2 u3 : Value) :
  ((((v.setCell ⟨b, 0, none⟩ u0).setCell ⟨b, 1, none⟩ u1).setCell ⟨b, 2, none⟩ u2).setCell ⟨b, 3, none⟩ u3).heap[b]? = some (.cells #[u0, u1, u2, u3] t (0, 0)) :=
 heap_setCell_same _ b 3 _ _ u3 (heap_setCell_same _ b 2 _ _ u2 (heap_setCell_same _ b 1 _ _ u1 (heap_setCell_same v b 0 _ _ u0 h)))
/-- The value of an alias is no longer than the list's longest. -/
theorem get_len {l : List AL.Al} {k v : List UInt8} (hz : ∀ a ∈ l, a.1.length ≤ 10000 ∧ a.2.length ≤ 10000) (h : AL.get l k = some v) : v.length ≤ 10000 := by
 induction l with
 | nil => simp [AL.get] at h
 | cons a r ih =>
  rw [AL.get] at h
  split at h
  ·injection h with h
   rw [← h]
   exact (hz a (List.mem_cons_self ..)).2
  ·exact ih (fun b hb => hz b (List.mem_cons_of_mem _ hb)) h
theorem pass_s {x y : AX.X} {kd st : Nat} {tx : List UInt8} (h : AX.pass x kd st tx = some y) : y.s = x.s := by
 unfold AX.pass at h
 split at h
 ·cases h
 split at h
 ·injection h with h; rw [← h]
 split at h <;> (injection h with h; rw [← h])
theorem value_len {l : List AL.Al} {T : List SE} {c : Bool} {kd ps : Nat} {tx v : List UInt8} (hz : ∀ a ∈ l, a.1.length ≤ 10000 ∧ a.2.length ≤ 10000) (h : AX.value l T c kd ps tx = some v) : v.length ≤ 10000 := by
 unfold AX.value at h
 split at h
 ·cases h
 split at h
 ·cases h
 split at h
 ·split at h
  ·cases h
  ·exact get_len hz h
 ·exact get_len hz h
/-- The world at the loop's head. -/
def EI (w : World) (g mb : Nat) (va : Value) (n k : Nat) (x : AX.X) (wr : World) : Prop :=
 ∃ (N : Nat) (vb : Value), N + k ≤ n ∧ XI w g mb va (30000 * ((N : Int) + 1)) N vb x wr
set_option maxRecDepth 100000 in
set_option maxHeartbeats 4000000 in
theorem Expand_any (l : List AL.Al) (s : List UInt8) (R : List UInt8 × Int) (n : Nat) (A : Option Addr) (cap : Nat) (w : World) (hA : AS w (.slice A l.length cap) l) (hz : ∀ a ∈ l, a.1.length ≤ 10000 ∧ a.2.length ≤ 10000) (hs : s.length ≤ 100000) (hn : n ≤ 100000) (hR : AX.expand l n s = some R) :
  Calls Tryz.prog 6 #[.string ⟨s.toArray⟩, .slice A l.length cap] w fun e w' => e = .returned (.tuple #[.string ⟨R.1.toArray⟩, .int .i64 R.2]) ∧ Below w.heap.size w w' := by
 have HVA := Lib.hid (Valid_any l _ w hA hz)
 have HA := Lib.hid hA
 unfold AX.expand at hR
 obtain ⟨vz, hvz⟩ : ∃ vz, AL.valid l = vz := ⟨_, rfl⟩
 have hll : AL.valid l = 0 → l.length ≤ 64 := fun h => ((AL.valid_zero l).1 h).1
 rw [hvz] at HVA hR hll
 by_cases h0 : vz = 0
 case neg =>
  rw [if_pos h0] at hR
  injection hR with hR
  subst hR
  have e1 : (vz == 0) = false := by rw [beq_eq_false_iff_ne]; exact h0
  have e2 : (vz != 0) = true := by simp [bne, e1]
  clear hvz h0 hA hz hll
  have hkerr := 0
  go_enter Tryz.func6, Tryz.ntmps6
  go_wp2_with fail
  refine HVA.out.mono ?_
  rintro e w1 ⟨rfl, hb⟩
  have HB := Lib.hid hb
  clear hb
  go_wp2
  exact bodyPost_ret (v := .tuple #[.string ⟨#[]⟩, .int .i64 vz]) (by simp [results, Tryz.results6, go_sem]) rfl ⟨rfl, HB.out⟩
 by_cases h1 : 16384 < s.length
 case pos =>
  rw [if_neg (by simpa using h0), if_pos h1] at hR
  injection hR with hR
  subst hR
  have e1 : (vz == 0) = true := by rw [h0]; rfl
  have e2 : (vz != 0) = false := by simp [bne, e1]
  have e3 : ((16384 : Int) < (s.length : Int)) = True := eq_true (by omega)
  clear hvz h0 hA hz hll h1
  have hklong := 0
  go_enter Tryz.func6, Tryz.ntmps6
  go_wp2_with fail
  refine HVA.out.mono ?_
  rintro e w1 ⟨rfl, hb⟩
  have HB := Lib.hid hb
  clear hb
  go_wp2
  exact bodyPost_ret (v := .tuple #[.string ⟨#[]⟩, .int .i64 3]) (by simp [results, Tryz.results6, go_sem]) rfl ⟨rfl, HB.out⟩
 rw [if_neg (by simpa using h0), if_neg h1] at hR
 have e1 : (vz == 0) = true := by rw [h0]; rfl
 have e2 : (vz != 0) = false := by simp [bne, e1]
 have e3 : ((16384 : Int) < (s.length : Int)) = False := eq_false (by omega)
 have e4 : decide ((16384 : Int) < (s.length : Int)) = false := decide_eq_false (by omega)
 have HR := Lib.hid hR
 have HZ := Lib.hid hz
 have HSL := Lib.hid (show s.length ≤ 16384 by omega)
 have HLL := Lib.hid (hll h0)
 clear hR hvz h0 h1 hA hz hll
 have hmm := @run_makeMap Tryz.prog
 go_enter Tryz.func6, Tryz.ntmps6
 go_wp2_with fail
 refine HVA.out.mono ?_
 rintro e w1 ⟨rfl, hb⟩
 obtain ⟨V0, hV0⟩ : ∃ V0, V0 = (w1.alloc (.map #[] 0)).alloc (.cells #[.string ⟨s.toArray⟩, .int .i64 0, .slice A l.length cap, .map (some w1.heap.size), .slice none 0 0, .bool true, .bool false, .bool false, .slice none 0 0] 44) := ⟨_, rfl⟩
 have hsz : (w1.alloc (.map #[] 0)).heap.size = w1.heap.size + 1 := by simp
 have HI0 := Lib.hid (show XI w (w1.heap.size + 1) w1.heap.size (.slice A l.length cap) 30000 0 (.slice none 0 0) ⟨s, 0, [], [], true, false, false⟩ V0 from by
  refine ⟨?_, ⟨rfl, .inl ⟨rfl, rfl⟩⟩, ?_, ?_, by have := hb.size; omega, hb.size, by omega, Nat.zero_le _, by simp, by simp, by simp, by simp⟩
  ·show EB _ _ _ _ _ _ _ _ _ _ _
   rw [hV0, ← hsz]
   exact al_new _ _
  ·rw [hV0]
   exact (SM.made w1).kept ((balloc _ _).block _ (by simp))
  ·rw [hV0]
   exact btr hb (btr (balloc _ _) (balloc _ _)))
 have HV0 := Lib.hid hV0
 have HB1 := Lib.hid hb.size
 clear hb hV0 hsz
 obtain ⟨g, hg⟩ : ∃ g, g = w1.heap.size + 1 := ⟨_, rfl⟩
 obtain ⟨mb, hmb⟩ : ∃ mb, mb = w1.heap.size := ⟨_, rfl⟩
 have HG := Lib.hid hg
 have HMB := Lib.hid hmb
 rw [← hg, ← hmb] at HI0
 clear hg hmb
 go_wp2
 rw [← HV0.out, ← HG.out]
 go_loopg [] n (fun k wr => ∃ x : AX.X, Hid (AX.run l k x = some R) ∧ Hid (x.s.length ≤ 16384) ∧ Hid (EI w g mb (.slice A l.length cap) n k x wr))
 case atStart => exact ⟨_, HR, HSL, Lib.hid ⟨0, _, by omega, HI0.out⟩⟩
 case round =>
  obtain ⟨x, HRU, HXL, HEI⟩ := hrel
  clear HR HI0 HV0 HG HMB
  obtain ⟨N, vb, hN, hX⟩ := HEI.out
  have HX := Lib.hid hX
  have HNN := Lib.hid hN
  obtain ⟨k', rfl⟩ : ∃ k', gk = k' + 1 := by
   cases gk with
   | zero => have := HRU.out; rw [AX.run] at this; cases this
   | succ k' => exact ⟨k', rfl⟩
  obtain ⟨t, x0, ht⟩ : ∃ t x0, LX.next x.s x.at_ = (t, x0) := ⟨_, _, rfl⟩
  have hxl : x.s.length ≤ 100000 := Nat.le_trans HXL.out (by omega)
  have HT := Lib.hid (fun V => Next_any x.s x.at_ V t.kind t.pos t.stop t.text x0 hxl (by rw [LX.clamp_nat hX.at_]; exact ht))
  have HTQ := Lib.hid ht
  obtain ⟨c0, c1, c2, c3, c4, c5, c6, c7, c8⟩ := hX.box.cells
  have hgs := hX.box.lt
  clear hX hN HEI ht
  have HSU := Lib.hid (fun (U2 : World) (hb : Below wr.heap.size wr U2) => show U2.cell? ⟨g, 0, none⟩ = some (.string ⟨x.s.toArray⟩) ∧ U2.cell? ⟨g, 1, none⟩ = some (.int .i64 x.at_) ∧ Below wr.heap.size wr U2 from ⟨cell_go (W := wr) c0 hb, cell_go (W := wr) c1 hb, hb⟩)
  clear c0 c1 c2 c3 c4 c5 c6 c7 c8
  have HAL := Lib.hid (fun (Y : World) (hb : Below (wr.alloc (.cells #[.int .i64 0, .int .i64 0, .int .i64 0, .string ⟨#[]⟩] 46)).drew.heap.size (wr.alloc (.cells #[.int .i64 0, .int .i64 0, .int .i64 0, .string ⟨#[]⟩] 46)).drew Y) => (hb.block wr.heap.size (by simp)).trans (al_new wr _))
  go_upto_region 7 with (fail)
  go_cut [8, 9] (fun u8 u9 wx => ∃ q : Nat, u8 = .pointer (some ⟨q, 0, none⟩) ∧ u9 = .int .i64 x0 ∧ wr.heap.size ≤ q ∧ Hid (Below wr.heap.size wr wx) ∧ Hid (wx.heap[q]? = some (.cells #[.int .i64 t.kind, .int .i64 t.pos, .int .i64 t.stop, .string ⟨t.text.toArray⟩] 46 (0, 0))))
  case first =>
   go_region_held3 (fun w' => w'.cell? ⟨g, 0, none⟩ = some (.string ⟨x.s.toArray⟩) ∧ w'.cell? ⟨g, 1, none⟩ = some (.int .i64 x.at_) ∧ Below wr.heap.size wr w')
    (first | exact HSU.out _ (Below.refl _ _) | exact HSU.out _ (balloc _ _).drew | exact HSU.out _ (Below.refl _ _).drew | exact HSU.out _ (by assumption) | exact HSU.out _ (btr (by assumption) (balloc _ _)) | exact HSU.out _ (below4 (by assumption) _ (Nat.le_refl _) _ _ _ _))
    ((go_at_call 12; refine (HT.out _).mono ?_; rintro e' Y ⟨rfl, hb⟩; first | (obtain ⟨b0, b1, b2, b3, k0, k1, k2, k3⟩ := blk4 (HAL.out Y hb); have HZ0 := Lib.hid (HAL.out Y hb); replace hb : Below wr.heap.size wr Y := btr (balloc wr _).drew hb) | (replace hb : Below wr.heap.size wr Y := btr (Below.refl wr.heap.size wr).drew hb)))
   ·have hY : Below wr.heap.size wr Y := by assumption
    repeat go_step
    go_meet
    exact ⟨Y.heap.size, rfl, rfl, hY.size, Lib.hid (btr hY (balloc _ _)), Lib.hid (al_new Y _)⟩
   ·have hY : Below wr.heap.size wr Y := by assumption
    have hZ := set4_heap (show Hid (Y.heap[wr.heap.size]? = some (.cells #[.int .i64 0, .int .i64 0, .int .i64 0, .string ⟨#[]⟩] 46 (0, 0))) by assumption).out (.int .i64 t.kind) (.int .i64 t.pos) (.int .i64 t.stop) (.string ⟨t.text.toArray⟩)
    repeat go_step
    go_meet
    exact ⟨wr.heap.size, rfl, rfl, Nat.le_refl _, Lib.hid (below4 hY _ (Nat.le_refl _) _ _ _ _), Lib.hid hZ⟩
  case rest =>
   obtain ⟨q1, rfl, rfl, HQW, HBC, HB2⟩ := hcut
   have HX2 := Lib.hid (HX.out.later HBC.out)
   clear HT HSU HAL HBC
   obtain ⟨c0, c1, c2, c3, c4, c5, c6, c7, c8⟩ := HX2.out.box.cells
   obtain ⟨d0, d1, d2, d3, -, -, -, -⟩ := blk4 HB2.out
   have hRun := HRU.out
   rw [AX.run, show LX.next x.s x.at_ = (t, x0) from HTQ.out] at hRun
   dsimp only at hRun
   by_cases hx : x0 = 0
   case neg =>
    have hxn : (x0 == 0) = false := by rw [beq_eq_false_iff_ne]; exact hx
    have hxm : (x0 != 0) = true := by simp [bne, hxn]
    rw [if_pos hx] at hRun
    injection hRun with hRun
    subst hRun
    clear hx
    have hkxerr := 0
    go_wp2
    refine bodyPost_ret (v := .tuple #[.string ⟨x.s.toArray⟩, .int .i64 0]) (by simp [results, Tryz.results6, go_sem]) rfl ⟨rfl, HX2.out.below⟩
   subst hx
   rw [if_neg (by simp)] at hRun
   by_cases h5 : t.kind = 5
   case pos =>
    have h5b : ((t.kind : Int) == 5) = true := by rw [beq_iff_eq]; omega
    rw [if_pos h5] at hRun
    injection hRun with hRun
    subst hRun
    clear h5
    have hkend := 0
    go_wp2
    refine bodyPost_ret (v := .tuple #[.string ⟨x.s.toArray⟩, .int .i64 0]) (by simp [results, Tryz.results6, go_sem]) rfl ⟨rfl, HX2.out.below⟩
   have h5b : ((t.kind : Int) == 5) = false := by rw [beq_eq_false_iff_ne]; omega
   rw [if_neg h5] at hRun
   obtain ⟨hps, hst⟩ := LX.next_span HX2.out.at_ HTQ.out h5
   have HSP := Lib.hid (And.intro hps hst)
   have HRN := Lib.hid hRun
   have HRE := Lib.hid (HX2.out.reach (by have := HNN.out; omega) t.pos)
   clear hRun h5 hps hst c0 c1 c2 c3 c4 c5 c6 c7 c8
   go_wp2_with fail
   refine HRE.out.mono ?_
   rintro e V3 ⟨rfl, vb3, hX3, hF3, ho3⟩
   have hq3 : V3.heap[q1]? = some (.cells #[.int .i64 t.kind, .int .i64 t.pos, .int .i64 t.stop, .string ⟨t.text.toArray⟩] 46 (0, 0)) := by
    have l1 := HX.out.box.lt
    have l2 := HX.out.m.lt
    have l3 := HQW
    refine (hF3.far q1 (Array.getElem?_eq_some_iff.1 HB2.out).1 (by omega) (by omega) (fun e => ?_)).trans HB2.out
    have := (HX.out.row.lt q1 e).2
    omega
   have hs3 : (AX.reach x t.pos).s = x.s := rfl
   obtain ⟨x3, hx3⟩ : ∃ x3, AX.reach x t.pos = x3 := ⟨_, rfl⟩
   have HRN2 := HRN.out
   rw [hx3] at hX3 hs3 HRN2
   have HX3 := Lib.hid hX3
   have HB3 := Lib.hid hq3
   have HS3 := Lib.hid hs3
   have HVL := Lib.hid (hX3.value HA.out (by have := HLL.out; omega) t)
   obtain ⟨u, hu⟩ : ∃ u, AX.value l x3.ends x3.cmd t.kind t.pos t.text = u := ⟨_, rfl⟩
   rw [hu] at HVL HRN2
   have HU := Lib.hid hu
   have HRQ := Lib.hid HRN2
   clear HRE HRN HRN2 hX3 hF3 ho3 hq3 hs3 hx3 d0 d1 d2 d3 hu
   obtain ⟨d0, d1, d2, d3, -, -, -, -⟩ := blk4 HB3.out
   cases u with
   | none =>
    have hknone := 0
    obtain ⟨y, hy⟩ : ∃ y, AX.pass x3 t.kind t.stop t.text = some y := by
     have := HRQ.out
     dsimp only at this
     cases h : AX.pass x3 t.kind t.stop t.text with
     | none => rw [h] at this; cases this
     | some y => exact ⟨y, rfl⟩
    have HRY := Lib.hid (show AX.run l k' y = some R by have := HRQ.out; dsimp only at this; rw [hy] at this; exact this)
    have HY := Lib.hid hy
    clear HRQ hy
    go_wp2_with fail
    refine HVL.out.mono ?_
    rintro e V4 ⟨rfl, hb4⟩
    have HX4 := HX3.out.later hb4
    have HB4 := (hb4.block q1 (Array.getElem?_eq_some_iff.1 HB3.out).1).trans HB3.out
    have HPS := Lib.hid (HX4.pass t HY.out (by rw [HS3.out]; exact HSP.out.2))
    have hkn2 := 0
    clear d0 d1 d2 d3 hb4 HX4
    obtain ⟨d0, d1, d2, d3, -, -, -, -⟩ := blk4 HB4
    go_wp2_with fail
    refine HPS.out.mono ?_
    rintro e V5 ⟨rfl, hX5⟩
    have HX5 := Lib.hid hX5
    clear hX5 d0 d1 d2 d3 HB4
    go_wp2_with fail
    go_roundg k'
    case measure => omega
    case rel => exact ⟨y, HRY, Lib.hid (by rw [pass_s HY.out, HS3.out]; exact HXL.out), Lib.hid ⟨N, vb3, by have := HNN.out; omega, HX5.out⟩⟩
   | some v =>
    have hksome := 0
    have hvl := value_len HZ.out HU.out
    have HRY := Lib.hid HRQ.out
    dsimp only at HRY
    obtain ⟨y, hy⟩ : ∃ y, AX.replace x3 t.pos t.stop t.text v = y := ⟨_, rfl⟩
    rw [hy] at HRY
    clear HRQ
    go_wp2_with fail
    refine HVL.out.mono ?_
    rintro e V4 ⟨rfl, hb4⟩
    have HX4 := HX3.out.later hb4
    have HB4 := (hb4.block q1 (Array.getElem?_eq_some_iff.1 HB3.out).1).trans HB3.out
    have HPS := Lib.hid (HX4.replace t v HSP.out.1 (by rw [HS3.out]; exact HSP.out.2) (by rw [HS3.out]; exact HXL.out) hvl (by omega) (by have := HNN.out; omega) (by have := HNN.out; omega))
    rw [hy] at HPS
    clear d0 d1 d2 d3 hb4 HX4 hy
    obtain ⟨d0, d1, d2, d3, -, -, -, -⟩ := blk4 HB4
    go_wp2_with fail
    refine HPS.out.mono ?_
    rintro e V5 ⟨rfl, vb5, hX5⟩
    have HX5 := Lib.hid hX5
    obtain ⟨c0, -⟩ := hX5.box.cells
    clear hX5 d0 d1 d2 d3 HB4 hvl
    by_cases hlen : 16384 < y.s.length
    case pos =>
     have h6 : ((16384 : Int) < (y.s.length : Int)) = True := eq_true (by omega)
     have h7 : decide ((16384 : Int) < (y.s.length : Int)) = true := decide_eq_true (by omega)
     have hR2 := HRY.out
     rw [if_pos hlen] at hR2
     injection hR2 with hR2
     subst hR2
     clear hlen
     go_wp2
     refine bodyPost_ret (v := .tuple #[.string ⟨#[]⟩, .int .i64 3]) (by simp [results, Tryz.results6, go_sem]) rfl ⟨rfl, HX5.out.below⟩
    case neg =>
     have h6 : ((16384 : Int) < (y.s.length : Int)) = False := eq_false (by omega)
     have h7 : decide ((16384 : Int) < (y.s.length : Int)) = false := decide_eq_false (by omega)
     have HR2 := Lib.hid (HRY.out)
     rw [if_neg hlen] at HR2
     have HLN := Lib.hid (Nat.le_of_not_lt hlen)
     clear hlen
     go_wp2_with fail
     go_roundg k'
     case measure => omega
     case rel => exact ⟨y, HR2, HLN, Lib.hid ⟨N + 1, vb5, by have := HNN.out; omega, by have h := HX5.out; rw [show (30000 * (((N + 1 : Nat) : Int) + 1)) = 30000 * ((N : Int) + 1) + 30000 by omega]; exact h⟩⟩
end W
end Go.Proofs.YtcbdhheelddgeaaGreatDoor
namespace Go.Proofs.YtcbdhheelddgeaaGreatDoor
open Go.RowKit K
namespace W
/-- The library's variable MaxLen holds some integer. -/
def Env9 (w : World) : Prop := ∃ m, w.cell? ⟨0, 0, none⟩ = some (.int .i64 m)
theorem Env9.go {w w' : World} (h : Env9 w) (hb : Below w.heap.size w w') : Env9 w' := by
 obtain ⟨m, hm⟩ := h
 exact ⟨m, cell_go hm hb⟩
theorem Env9.box {g : Nat} {w w' : World} (h : Env9 w) (hb : OneBox g w w') (hg : 0 < g) : Env9 w' := by
 obtain ⟨m, hm⟩ := h
 exact ⟨m, (World.cell?_of_block (hb.2.2.block _ hg)).trans hm⟩
def dls (ls : List (List UInt8 × Bool)) : List Value := ls.flatMap fun d => [.string ⟨d.1.toArray⟩, .bool d.2]
theorem dls_at : ∀ {ls : List (List UInt8 × Bool)} {k : Nat} {d : List UInt8 × Bool}, ls[k]? = some d → (dls ls)[k * 2]? = some (.string ⟨d.1.toArray⟩) ∧ (dls ls)[k * 2 + 1]? = some (.bool d.2)
 | [], k, d, h => by simp at h
 | e :: r, 0, d, h => by
  simp at h
  subst h
  exact ⟨rfl, rfl⟩
 | e :: r, k + 1, d, h => by
  have := dls_at (ls := r) (k := k) (d := d) (by simpa using h)
  have h2 : dls (e :: r) = [.string ⟨e.1.toArray⟩, .bool e.2] ++ dls r := rfl
  rw [h2, show (k + 1) * 2 = k * 2 + 2 by omega]
  exact ⟨by simpa using this.1, by simpa using this.2⟩
theorem cut_fst (a b : List UInt8) : (Lib.cut a b).1.length ≤ a.length := by
 unfold Lib.cut
 split
 ·simp
  omega
 ·simp
theorem OneBox.trans {g : Nat} {a b c : World} (h : OneBox g a b) (k : OneBox g b c) : OneBox g a c :=
 ⟨Nat.le_trans h.1 k.1, fun q h1 h2 => (k.2.1 q (Nat.lt_of_lt_of_le h1 h.1) h2).trans (h.2.1 q h1 h2), h.2.2.trans k.2.2⟩
theorem OneBox.of {g : Nat} {a b : World} (hg : g < a.heap.size) (h : Below a.heap.size a b) : OneBox g a b :=
 ⟨h.size, fun q h1 _ => h.block q h1, h.mono (Nat.le_of_lt hg)⟩
def left9 (f : Bool) (n : Nat) : Nat := if f = true then 0 else n + 1
end W
end Go.Proofs.YtcbdhheelddgeaaGreatDoor
namespace Go.Proofs.YtcbdhheelddgeaaGreatDoor
open Go.RowKit K
open WP (GP gp gpL)
namespace W
theorem stand9 {w w' : World} {ps : List WP.Part} {A : Option Addr} {cap : Nat} (h : ps = [] ∨ ∃ b cells, A = some ⟨b, 0, none⟩ ∧ w.heap.size ≤ b ∧ LRep w' (fun b => w.heap.size ≤ b) ps cells ∧ ∀ j u, cells[j]? = some u → w'.cell? ⟨b, j, none⟩ = some u) : GS w' (fun b => b < w'.heap.size) (.slice A ps.length cap) (gpL ps) :=
 (GS.of_rep (cap := cap) h).mono fun _ _ h2 => ⟨h2, rfl⟩
end W
end Go.Proofs.YtcbdhheelddgeaaGreatDoor
namespace Go.Proofs.YtcbdhheelddgeaaGreatDoor
open Go.RowKit K
namespace W
theorem infoDl : (Tryz.prog.info? 77).map (fun i => (i.zero, i.size, i.bytes)) = some (some (.agg #[.string ⟨#[]⟩, .bool false]), 2, 24) := by kernel_rfl
theorem dls_snoc (a : List (List UInt8 × Bool)) (t : List UInt8 × Bool) : dls a ++ [.string ⟨t.1.toArray⟩, .bool t.2] = dls (a ++ [t]) := by unfold dls; simp
/-- append of one delimiter. -/
theorem app_dl (Y : World) (base cap : Nat) (A : Option Addr) (M : List (List UInt8 × Bool)) (x : List UInt8) (b : Bool) (hown : Y.ownsRow base 77 2 (.slice A M.length cap) M.length (dls M)) (hn : M.length ≤ 200000) (hb : base ≤ Y.heap.size) :
  ∃ A' c' w', (Builtin.append_ #[42, 42] 42 #[.slice A M.length cap, .slice (some ⟨Y.heap.size, 0, none⟩) 1 1]).run Tryz.prog (Y.alloc (.cells #[.string ⟨x.toArray⟩, .bool b] 77)).drew = .ok (.slice A' (M ++ [(x, b)]).length c') w' ∧
   w'.ownsRow base 77 2 (.slice A' (M ++ [(x, b)]).length c') (M ++ [(x, b)]).length (dls (M ++ [(x, b)])) ∧ (Y.alloc (.cells #[.string ⟨x.toArray⟩, .bool b] 77)).drew.grownBy w' (Value.slice A M.length cap).ownBlock ∧ ((Value.slice A' (M ++ [(x, b)]).length c').ownBlock = (Value.slice A M.length cap).ownBlock ∨ (Value.slice A' (M ++ [(x, b)]).length c').ownBlock = some (Y.heap.size + 1)) := by
 obtain ⟨i0, hi, hz0, hz1, hz2⟩ := info_parts infoDl
 obtain ⟨v', w', r1, r2, r3, -, r4⟩ := run_append_own_at (P := Tryz.prog) (Y.alloc (.cells #[.string ⟨x.toArray⟩, .bool b] 77)).drew base 42 42 77 i0 _ 2 24 Tryz.underlying42 hi hz0 hz1 hz2 rfl (by decide) (.slice A M.length cap) M.length (dls M) ((hown.alloc _).drew) ⟨Y.heap.size, 0, none⟩ 1 1 [.string ⟨x.toArray⟩, .bool b] rfl
  (fun j u hj => by
   match j, hj with
   | 0, hj => simp at hj; subst hj; simp [Addr.add]
   | 1, hj => simp at hj; subst hj; simp [Addr.add])
  (by intro u hu; simp at hu; rcases hu with rfl | rfl <;> rfl) (by unfold maxLen; omega) (by omega) (by simp; omega)
 rw [dls_snoc M (x, b)] at r2
 have hle : (M ++ [(x, b)]).length = M.length + 1 := by simp
 rw [hle]
 obtain ⟨A', c', rfl⟩ : ∃ A' c', v' = .slice A' (M.length + 1) c' := by
  rcases r2.2 with ⟨rfl, h0⟩ | ⟨q, c, cur, rfl, _⟩
  ·omega
  ·exact ⟨_, _, rfl⟩
 refine ⟨A', c', w', r1, r2, r3, ?_⟩
 rcases r4 with h | h
 ·exact .inl h
 ·exact .inr (by rw [h]; simp)
/-- Of what was there, the examiner's box and the row of its delimiters alone are turned. -/
structure FP (base g : Nat) (v : Value) (a b : World) : Prop where
 size : a.heap.size ≤ b.heap.size
 far : ∀ q, q < a.heap.size → q ≠ g → v.ownBlock ≠ some q → b.heap[q]? = a.heap[q]?
 below : Below base a b
theorem FP.of_box {base g : Nat} {v : Value} {a b : World} (h : OneBox g a b) (hb : base ≤ g) : FP base g v a b := ⟨h.1, fun q h1 h2 _ => h.2.1 q h1 h2, h.2.2.mono hb⟩
theorem FP.of_below {base g : Nat} {v : Value} {a b : World} (h : Below a.heap.size a b) (hb : base ≤ a.heap.size) : FP base g v a b := ⟨h.size, fun q h1 _ _ => h.block q h1, h.mono hb⟩
/-- The second frame may be that of a later row: new, or the same. -/
theorem FP.trans {base g : Nat} {v u : Value} {a b c : World} (h : FP base g v a b) (k : FP base g u b c) (hv : ∀ q, q < a.heap.size → u.ownBlock = some q → v.ownBlock = some q) : FP base g v a c :=
 ⟨Nat.le_trans h.size k.size, fun q h1 h2 h3 => (k.far q (Nat.lt_of_lt_of_le h1 h.size) h2 (fun e => h3 (hv q h1 e))).trans (h.far q h1 h2 h3), h.below.trans k.below⟩
theorem row_g {base g : Nat} {W : World} {s : List UInt8} {a : Int} {va vm vb vl v : Value} {c h st : Bool} {n : Nat} {xs : List Value} (he : EB W g s a va vm vb c h st vl) (hown : W.ownsRow base 77 2 v n xs) : v.ownBlock ≠ some g := fun e => by
 obtain ⟨cs, fz, hk⟩ := Lib.ownsRow_kind hown g e
 rw [he] at hk
 simp at hk
end W
end Go.Proofs.YtcbdhheelddgeaaGreatDoor
