/- Chapter 9: a token begins before it ends; Expand walked: what AX.expand gives within its fuel. -/
import Derived.Test.YtelhobphphkidaaGreatDoorZB
import Derived.Test.YtelhobphphkidaaGreatDoorZI
import Derived.Test.YtelhobphphkidaaGreatDoorZL
import Derived.Deep.LoopGhost
import Derived.StillTailTactics
import Derived.Deep.RegionHeld3
namespace Go.Proofs.YtelhobphphkidaaGreatDoor
open K
namespace LX
theorem next_span {s : Str} {a : Nat} {t : Tok} (ha : a ≤ s.length) (h : next s a = (t, 0)) (h5 : t.kind ≠ 5) : t.pos ≤ t.stop ∧ t.stop ≤ s.length := by
  have hf := next_far ha h
  refine ⟨?_, hf.resolve_left h5 |>.2⟩
  unfold next at h
  split at h
  · simp at h
  unfold nextAt at h
  split at h
  · injection h with h _
    rw [← h] at h5
    simp at h5
  split at h
  · injection h with h _
    rw [← h]
    simp [tok]
  split at h
  · injection h with h _
    rw [← h]
    simp [tok]
  unfold nextW at h
  split at h
  · rename_i hw
    injection h with h _
    rw [← h]
    exact (word_good _ s _ (skipTo_le ha)).2.1 hw
  · rename_i hw
    injection h with _ h
    exact absurd h hw
end LX
end Go.Proofs.YtelhobphphkidaaGreatDoor
namespace Go.Proofs.YtelhobphphkidaaGreatDoor
open Go.RowKit K
namespace W
def tokV (t : LX.Tok) : Value := .agg #[.int .i64 t.kind, .int .i64 t.pos, .int .i64 t.stop, .string ⟨t.text.toArray⟩]
theorem set4_heap {v : World} {b : Nat} {a0 a1 a2 a3 : Value} {t : TypeId} (h : v.heap[b]? = some (.cells #[a0, a1, a2, a3] t (0, 0))) (u0 u1 u2 u3 : Value) :
    ((((v.setCell ⟨b, 0, none⟩ u0).setCell ⟨b, 1, none⟩ u1).setCell ⟨b, 2, none⟩ u2).setCell ⟨b, 3, none⟩ u3).heap[b]? = some (.cells #[u0, u1, u2, u3] t (0, 0)) :=
  heap_setCell_same _ b 3 _ _ u3 (heap_setCell_same _ b 2 _ _ u2 (heap_setCell_same _ b 1 _ _ u1 (heap_setCell_same v b 0 _ _ u0 h)))
/-- The value of an alias is no longer than the list's longest. -/
theorem get_len {l : List AL.Al} {k v : List UInt8} (hz : ∀ a ∈ l, a.1.length ≤ 10000 ∧ a.2.length ≤ 10000) (h : AL.get l k = some v) : v.length ≤ 10000 := by
  induction l with
  | nil => simp [AL.get] at h
  | cons a r ih =>
    rw [AL.get] at h
    split at h
    · injection h with h
      rw [← h]
      exact (hz a (List.mem_cons_self ..)).2
    · exact ih (fun b hb => hz b (List.mem_cons_of_mem _ hb)) h
theorem pass_s {x y : AX.X} {kd st : Nat} {tx : List UInt8} (h : AX.pass x kd st tx = some y) : y.s = x.s := by
  unfold AX.pass at h
  split at h
  · cases h
  split at h
  · injection h with h; rw [← h]
  split at h <;> (injection h with h; rw [← h])
theorem value_len {l : List AL.Al} {T : List SE} {c : Bool} {kd ps : Nat} {tx v : List UInt8} (hz : ∀ a ∈ l, a.1.length ≤ 10000 ∧ a.2.length ≤ 10000) (h : AX.value l T c kd ps tx = some v) : v.length ≤ 10000 := by
  unfold AX.value at h
  split at h
  · cases h
  split at h
  · cases h
  split at h
  · split at h
    · cases h
    · exact get_len hz h
  · exact get_len hz h
/-- The world at the loop's head. -/
def EI (w : World) (g mb : Nat) (va : Value) (n k : Nat) (x : AX.X) (wr : World) : Prop :=
  ∃ (N : Nat) (vb : Value), N + k ≤ n ∧ XI w g mb va (30000 * ((N : Int) + 1)) N vb x wr
set_option maxRecDepth 100000 in
set_option maxHeartbeats 4000000 in
theorem Expand_any (l : List AL.Al) (s : List UInt8) (R : List UInt8 × Int) (n : Nat) (A : Option Addr) (cap : Nat) (w : World) (hA : AS w (.slice A l.length cap) l) (hz : ∀ a ∈ l, a.1.length ≤ 10000 ∧ a.2.length ≤ 10000) (hs : s.length ≤ 100000) (hn : n ≤ 100000) (hR : AX.expand l n s = some R) :
    Calls Tryz.prog 21 #[.string ⟨s.toArray⟩, .slice A l.length cap] w fun e w' => e = .returned (.tuple #[.string ⟨R.1.toArray⟩, .int .i64 R.2]) ∧ Below w.heap.size w w' := by
  have HVA := Lib.hid (Valid_any l _ w hA hz)
  have HA := Lib.hid hA
  unfold AX.expand at hR
  obtain ⟨vz, hvz⟩ : ∃ vz, AL.valid l = vz := ⟨_, rfl⟩
  have hll : AL.valid l = 0 → l.length ≤ 64 := fun h => ((AL.valid_zero l).1 h).1
  rw [hvz] at HVA hR hll
  by_cases h0 : vz = 0
  case neg =>
    rw [if_pos h0] at hR
    injection hR with hR
    subst hR
    have e1 : (vz == 0) = false := by rw [beq_eq_false_iff_ne]; exact h0
    have e2 : (vz != 0) = true := by simp [bne, e1]
    clear hvz h0 hA hz hll
    have hkerr := 0
    go_enter Tryz.func21, Tryz.ntmps21
    go_wp2_with fail
    refine HVA.out.mono ?_
    rintro e w1 ⟨rfl, hb⟩
    have HB := Lib.hid hb
    clear hb
    go_wp2
    exact bodyPost_ret (v := .tuple #[.string ⟨#[]⟩, .int .i64 vz]) (by simp [results, Tryz.results21, go_sem]) rfl ⟨rfl, HB.out⟩
  by_cases h1 : 16384 < s.length
  case pos =>
    rw [if_neg (by simpa using h0), if_pos h1] at hR
    injection hR with hR
    subst hR
    have e1 : (vz == 0) = true := by rw [h0]; rfl
    have e2 : (vz != 0) = false := by simp [bne, e1]
    have e3 : ((16384 : Int) < (s.length : Int)) = True := eq_true (by omega)
    clear hvz h0 hA hz hll h1
    have hklong := 0
    go_enter Tryz.func21, Tryz.ntmps21
    go_wp2_with fail
    refine HVA.out.mono ?_
    rintro e w1 ⟨rfl, hb⟩
    have HB := Lib.hid hb
    clear hb
    go_wp2
    exact bodyPost_ret (v := .tuple #[.string ⟨#[]⟩, .int .i64 3]) (by simp [results, Tryz.results21, go_sem]) rfl ⟨rfl, HB.out⟩
  rw [if_neg (by simpa using h0), if_neg h1] at hR
  have e1 : (vz == 0) = true := by rw [h0]; rfl
  have e2 : (vz != 0) = false := by simp [bne, e1]
  have e3 : ((16384 : Int) < (s.length : Int)) = False := eq_false (by omega)
  have e4 : decide ((16384 : Int) < (s.length : Int)) = false := decide_eq_false (by omega)
  have HR := Lib.hid hR
  have HZ := Lib.hid hz
  have HSL := Lib.hid (show s.length ≤ 16384 by omega)
  have HLL := Lib.hid (hll h0)
  clear hR hvz h0 h1 hA hz hll
  have hmm := @run_makeMap Tryz.prog
  go_enter Tryz.func21, Tryz.ntmps21
  go_wp2_with fail
  refine HVA.out.mono ?_
  rintro e w1 ⟨rfl, hb⟩
  obtain ⟨V0, hV0⟩ : ∃ V0, V0 = (w1.alloc (.map #[] 0)).alloc (.cells #[.string ⟨s.toArray⟩, .int .i64 0, .slice A l.length cap, .map (some w1.heap.size), .slice none 0 0, .bool true, .bool false, .bool false, .slice none 0 0] 60) := ⟨_, rfl⟩
  have hsz : (w1.alloc (.map #[] 0)).heap.size = w1.heap.size + 1 := by simp
  have HI0 := Lib.hid (show XI w (w1.heap.size + 1) w1.heap.size (.slice A l.length cap) 30000 0 (.slice none 0 0) ⟨s, 0, [], [], true, false, false⟩ V0 from by
    refine ⟨?_, ⟨rfl, .inl ⟨rfl, rfl⟩⟩, ?_, ?_, by have := hb.size; omega, hb.size, by omega, Nat.zero_le _, by simp, by simp, by simp, by simp⟩
    · show EB _ _ _ _ _ _ _ _ _ _ _
      rw [hV0, ← hsz]
      exact al_new _ _
    · rw [hV0]
      exact (SM.made w1).kept ((balloc _ _).block _ (by simp))
    · rw [hV0]
      exact btr hb (btr (balloc _ _) (balloc _ _)))
  have HV0 := Lib.hid hV0
  have HB1 := Lib.hid hb.size
  clear hb hV0 hsz
  obtain ⟨g, hg⟩ : ∃ g, g = w1.heap.size + 1 := ⟨_, rfl⟩
  obtain ⟨mb, hmb⟩ : ∃ mb, mb = w1.heap.size := ⟨_, rfl⟩
  have HG := Lib.hid hg
  have HMB := Lib.hid hmb
  rw [← hg, ← hmb] at HI0
  clear hg hmb
  go_wp2
  rw [← HV0.out, ← HG.out]
  go_loopg [] n (fun k wr => ∃ x : AX.X, Hid (AX.run l k x = some R) ∧ Hid (x.s.length ≤ 16384) ∧ Hid (EI w g mb (.slice A l.length cap) n k x wr))
  case atStart => exact ⟨_, HR, HSL, Lib.hid ⟨0, _, by omega, HI0.out⟩⟩
  case round =>
    obtain ⟨x, HRU, HXL, HEI⟩ := hrel
    clear HR HI0 HV0 HG HMB
    obtain ⟨N, vb, hN, hX⟩ := HEI.out
    have HX := Lib.hid hX
    have HNN := Lib.hid hN
    obtain ⟨k', rfl⟩ : ∃ k', gk = k' + 1 := by
      cases gk with
      | zero => have := HRU.out; rw [AX.run] at this; cases this
      | succ k' => exact ⟨k', rfl⟩
    obtain ⟨t, x0, ht⟩ : ∃ t x0, LX.next x.s x.at_ = (t, x0) := ⟨_, _, rfl⟩
    have hxl : x.s.length ≤ 100000 := Nat.le_trans HXL.out (by omega)
    have HT := Lib.hid (fun V => Next_any x.s x.at_ V t.kind t.pos t.stop t.text x0 hxl (by rw [LX.clamp_nat hX.at_]; exact ht))
    have HTQ := Lib.hid ht
    obtain ⟨c0, c1, c2, c3, c4, c5, c6, c7, c8⟩ := hX.box.cells
    have hgs := hX.box.lt
    clear hX hN HEI ht
    have HSU := Lib.hid (fun (U2 : World) (hb : Below wr.heap.size wr U2) => show U2.cell? ⟨g, 0, none⟩ = some (.string ⟨x.s.toArray⟩) ∧ U2.cell? ⟨g, 1, none⟩ = some (.int .i64 x.at_) ∧ Below wr.heap.size wr U2 from ⟨cell_go (W := wr) c0 hb, cell_go (W := wr) c1 hb, hb⟩)
    clear c0 c1 c2 c3 c4 c5 c6 c7 c8
    have HAL := Lib.hid (fun (Y : World) (hb : Below (wr.alloc (.cells #[.int .i64 0, .int .i64 0, .int .i64 0, .string ⟨#[]⟩] 62)).drew.heap.size (wr.alloc (.cells #[.int .i64 0, .int .i64 0, .int .i64 0, .string ⟨#[]⟩] 62)).drew Y) => (hb.block wr.heap.size (by simp)).trans (al_new wr _))
    go_upto_region 7 with (fail)
    go_cut [8, 9] (fun u8 u9 wx => ∃ q : Nat, u8 = .pointer (some ⟨q, 0, none⟩) ∧ u9 = .int .i64 x0 ∧ wr.heap.size ≤ q ∧ Hid (Below wr.heap.size wr wx) ∧ Hid (wx.heap[q]? = some (.cells #[.int .i64 t.kind, .int .i64 t.pos, .int .i64 t.stop, .string ⟨t.text.toArray⟩] 62 (0, 0))))
    case first =>
      go_region_held3 (fun w' => w'.cell? ⟨g, 0, none⟩ = some (.string ⟨x.s.toArray⟩) ∧ w'.cell? ⟨g, 1, none⟩ = some (.int .i64 x.at_) ∧ Below wr.heap.size wr w')
        (first | exact HSU.out _ (Below.refl _ _) | exact HSU.out _ (balloc _ _).drew | exact HSU.out _ (Below.refl _ _).drew | exact HSU.out _ (by assumption) | exact HSU.out _ (btr (by assumption) (balloc _ _)) | exact HSU.out _ (below4 (by assumption) _ (Nat.le_refl _) _ _ _ _))
        ((go_at_call 32; refine (HT.out _).mono ?_; rintro e' Y ⟨rfl, hb⟩; first | (obtain ⟨b0, b1, b2, b3, k0, k1, k2, k3⟩ := blk4 (HAL.out Y hb); have HZ0 := Lib.hid (HAL.out Y hb); replace hb : Below wr.heap.size wr Y := btr (balloc wr _).drew hb) | (replace hb : Below wr.heap.size wr Y := btr (Below.refl wr.heap.size wr).drew hb)))
      · have hY : Below wr.heap.size wr Y := by assumption
        repeat go_step
        go_meet
        exact ⟨Y.heap.size, rfl, rfl, hY.size, Lib.hid (btr hY (balloc _ _)), Lib.hid (al_new Y _)⟩
      · have hY : Below wr.heap.size wr Y := by assumption
        have hZ := set4_heap (show Hid (Y.heap[wr.heap.size]? = some (.cells #[.int .i64 0, .int .i64 0, .int .i64 0, .string ⟨#[]⟩] 62 (0, 0))) by assumption).out (.int .i64 t.kind) (.int .i64 t.pos) (.int .i64 t.stop) (.string ⟨t.text.toArray⟩)
        repeat go_step
        go_meet
        exact ⟨wr.heap.size, rfl, rfl, Nat.le_refl _, Lib.hid (below4 hY _ (Nat.le_refl _) _ _ _ _), Lib.hid hZ⟩
    case rest =>
      obtain ⟨q1, rfl, rfl, HQW, HBC, HB2⟩ := hcut
      have HX2 := Lib.hid (HX.out.later HBC.out)
      clear HT HSU HAL HBC
      obtain ⟨c0, c1, c2, c3, c4, c5, c6, c7, c8⟩ := HX2.out.box.cells
      obtain ⟨d0, d1, d2, d3, -, -, -, -⟩ := blk4 HB2.out
      have hRun := HRU.out
      rw [AX.run, show LX.next x.s x.at_ = (t, x0) from HTQ.out] at hRun
      dsimp only at hRun
      by_cases hx : x0 = 0
      case neg =>
        have hxn : (x0 == 0) = false := by rw [beq_eq_false_iff_ne]; exact hx
        have hxm : (x0 != 0) = true := by simp [bne, hxn]
        rw [if_pos hx] at hRun
        injection hRun with hRun
        subst hRun
        clear hx
        have hkxerr := 0
        go_wp2
        refine bodyPost_ret (v := .tuple #[.string ⟨x.s.toArray⟩, .int .i64 0]) (by simp [results, Tryz.results21, go_sem]) rfl ⟨rfl, HX2.out.below⟩
      subst hx
      rw [if_neg (by simp)] at hRun
      by_cases h5 : t.kind = 5
      case pos =>
        have h5b : ((t.kind : Int) == 5) = true := by rw [beq_iff_eq]; omega
        rw [if_pos h5] at hRun
        injection hRun with hRun
        subst hRun
        clear h5
        have hkend := 0
        go_wp2
        refine bodyPost_ret (v := .tuple #[.string ⟨x.s.toArray⟩, .int .i64 0]) (by simp [results, Tryz.results21, go_sem]) rfl ⟨rfl, HX2.out.below⟩
      have h5b : ((t.kind : Int) == 5) = false := by rw [beq_eq_false_iff_ne]; omega
      rw [if_neg h5] at hRun
      obtain ⟨hps, hst⟩ := LX.next_span HX2.out.at_ HTQ.out h5
      have HSP := Lib.hid (And.intro hps hst)
      have HRN := Lib.hid hRun
      have HRE := Lib.hid (HX2.out.reach (by have := HNN.out; omega) t.pos)
      clear hRun h5 hps hst c0 c1 c2 c3 c4 c5 c6 c7 c8
      go_wp2_with fail
      refine HRE.out.mono ?_
      rintro e V3 ⟨rfl, vb3, hX3, hF3, ho3⟩
      have hq3 : V3.heap[q1]? = some (.cells #[.int .i64 t.kind, .int .i64 t.pos, .int .i64 t.stop, .string ⟨t.text.toArray⟩] 62 (0, 0)) := by
        have l1 := HX.out.box.lt
        have l2 := HX.out.m.lt
        have l3 := HQW
        refine (hF3.far q1 (Array.getElem?_eq_some_iff.1 HB2.out).1 (by omega) (by omega) (fun e => ?_)).trans HB2.out
        have := (HX.out.row.lt q1 e).2
        omega
      have hs3 : (AX.reach x t.pos).s = x.s := rfl
      obtain ⟨x3, hx3⟩ : ∃ x3, AX.reach x t.pos = x3 := ⟨_, rfl⟩
      have HRN2 := HRN.out
      rw [hx3] at hX3 hs3 HRN2
      have HX3 := Lib.hid hX3
      have HB3 := Lib.hid hq3
      have HS3 := Lib.hid hs3
      have HVL := Lib.hid (hX3.value HA.out (by have := HLL.out; omega) t)
      obtain ⟨u, hu⟩ : ∃ u, AX.value l x3.ends x3.cmd t.kind t.pos t.text = u := ⟨_, rfl⟩
      rw [hu] at HVL HRN2
      have HU := Lib.hid hu
      have HRQ := Lib.hid HRN2
      clear HRE HRN HRN2 hX3 hF3 ho3 hq3 hs3 hx3 d0 d1 d2 d3 hu
      obtain ⟨d0, d1, d2, d3, -, -, -, -⟩ := blk4 HB3.out
      cases u with
      | none =>
        have hknone := 0
        obtain ⟨y, hy⟩ : ∃ y, AX.pass x3 t.kind t.stop t.text = some y := by
          have := HRQ.out
          dsimp only at this
          cases h : AX.pass x3 t.kind t.stop t.text with
          | none => rw [h] at this; cases this
          | some y => exact ⟨y, rfl⟩
        have HRY := Lib.hid (show AX.run l k' y = some R by have := HRQ.out; dsimp only at this; rw [hy] at this; exact this)
        have HY := Lib.hid hy
        clear HRQ hy
        go_wp2_with fail
        refine HVL.out.mono ?_
        rintro e V4 ⟨rfl, hb4⟩
        have HX4 := HX3.out.later hb4
        have HB4 := (hb4.block q1 (Array.getElem?_eq_some_iff.1 HB3.out).1).trans HB3.out
        have HPS := Lib.hid (HX4.pass t HY.out (by rw [HS3.out]; exact HSP.out.2))
        have hkn2 := 0
        clear d0 d1 d2 d3 hb4 HX4
        obtain ⟨d0, d1, d2, d3, -, -, -, -⟩ := blk4 HB4
        go_wp2_with fail
        refine HPS.out.mono ?_
        rintro e V5 ⟨rfl, hX5⟩
        have HX5 := Lib.hid hX5
        clear hX5 d0 d1 d2 d3 HB4
        go_wp2_with fail
        go_roundg k'
        case measure => omega
        case rel => exact ⟨y, HRY, Lib.hid (by rw [pass_s HY.out, HS3.out]; exact HXL.out), Lib.hid ⟨N, vb3, by have := HNN.out; omega, HX5.out⟩⟩
      | some v =>
        have hksome := 0
        have hvl := value_len HZ.out HU.out
        have HRY := Lib.hid HRQ.out
        dsimp only at HRY
        obtain ⟨y, hy⟩ : ∃ y, AX.replace x3 t.pos t.stop t.text v = y := ⟨_, rfl⟩
        rw [hy] at HRY
        clear HRQ
        go_wp2_with fail
        refine HVL.out.mono ?_
        rintro e V4 ⟨rfl, hb4⟩
        have HX4 := HX3.out.later hb4
        have HB4 := (hb4.block q1 (Array.getElem?_eq_some_iff.1 HB3.out).1).trans HB3.out
        have HPS := Lib.hid (HX4.replace t v HSP.out.1 (by rw [HS3.out]; exact HSP.out.2) (by rw [HS3.out]; exact HXL.out) hvl (by omega) (by have := HNN.out; omega) (by have := HNN.out; omega))
        rw [hy] at HPS
        clear d0 d1 d2 d3 hb4 HX4 hy
        obtain ⟨d0, d1, d2, d3, -, -, -, -⟩ := blk4 HB4
        go_wp2_with fail
        refine HPS.out.mono ?_
        rintro e V5 ⟨rfl, vb5, hX5⟩
        have HX5 := Lib.hid hX5
        obtain ⟨c0, -⟩ := hX5.box.cells
        clear hX5 d0 d1 d2 d3 HB4 hvl
        by_cases hlen : 16384 < y.s.length
        case pos =>
          have h6 : ((16384 : Int) < (y.s.length : Int)) = True := eq_true (by omega)
          have h7 : decide ((16384 : Int) < (y.s.length : Int)) = true := decide_eq_true (by omega)
          have hR2 := HRY.out
          rw [if_pos hlen] at hR2
          injection hR2 with hR2
          subst hR2
          clear hlen
          go_wp2
          refine bodyPost_ret (v := .tuple #[.string ⟨#[]⟩, .int .i64 3]) (by simp [results, Tryz.results21, go_sem]) rfl ⟨rfl, HX5.out.below⟩
        case neg =>
          have h6 : ((16384 : Int) < (y.s.length : Int)) = False := eq_false (by omega)
          have h7 : decide ((16384 : Int) < (y.s.length : Int)) = false := decide_eq_false (by omega)
          have HR2 := Lib.hid (HRY.out)
          rw [if_neg hlen] at HR2
          have HLN := Lib.hid (Nat.le_of_not_lt hlen)
          clear hlen
          go_wp2_with fail
          go_roundg k'
          case measure => omega
          case rel => exact ⟨y, HR2, HLN, Lib.hid ⟨N + 1, vb5, by have := HNN.out; omega, by have h := HX5.out; rw [show (30000 * (((N + 1 : Nat) : Int) + 1)) = 30000 * ((N : Int) + 1) + 30000 by omega]; exact h⟩⟩
end W
end Go.Proofs.YtelhobphphkidaaGreatDoor
