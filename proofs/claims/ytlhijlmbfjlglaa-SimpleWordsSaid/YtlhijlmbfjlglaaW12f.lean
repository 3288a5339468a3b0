/- Chapter 12: Redirect walked. -/
import Derived.Test.YtlhijlmbfjlglaaYD
import Derived.Test.YtlhijlmbfjlglaaYE
import Derived.Test.YtlhijlmbfjlglaaYA
import Derived.Test.YtlhijlmbfjlglaaYB
import Derived.Deep.DeepCutAuto
namespace Go.Proofs.Ytlhijlmbfjlglaa
open Go.RowKit K
open WP (GP gp gpL)
namespace W
theorem rep_keep {B B' : Nat} {W W' : World} {ps : List WP.Part} {A : Option Addr} (hB : B' ≤ B) (hk : ∀ b, B ≤ b → b < W.heap.size → W'.heap[b]? = W.heap[b]?)
    (hr : ps = [] ∨ ∃ b cells, A = some ⟨b, 0, none⟩ ∧ B ≤ b ∧ LRep W (fun b => B ≤ b) ps cells ∧ ∀ j u, cells[j]? = some u → W.cell? ⟨b, j, none⟩ = some u) :
    ps = [] ∨ ∃ b cells, A = some ⟨b, 0, none⟩ ∧ B' ≤ b ∧ LRep W' (fun b => B' ≤ b) ps cells ∧ ∀ j u, cells[j]? = some u → W'.cell? ⟨b, j, none⟩ = some u := by
  rcases hr with h | ⟨b, cells, h1, h2, h3, h4⟩
  · exact .inl h
  · refine .inr ⟨b, cells, h1, by omega, LRep.mono (fun x hx hl => ⟨by omega, hk x hx hl⟩) ps cells h3, fun j u hj => ?_⟩
    have h5 := h4 j u hj
    have hlt := lt_cell h5
    unfold World.cell? at h5 ⊢
    rw [hk b h2 hlt]
    exact h5
theorem set3_heap {v : World} {b : Nat} {a0 a1 a2 : Value} {t : TypeId} (h : v.heap[b]? = some (.cells #[a0, a1, a2] t (0, 0))) (u0 u1 u2 : Value) : (((v.setCell ⟨b, 0, none⟩ u0).setCell ⟨b, 1, none⟩ u1).setCell ⟨b, 2, none⟩ u2).heap[b]? = some (.cells #[u0, u1, u2] t (0, 0)) :=
  heap_setCell_same _ b 2 _ _ u2 (heap_setCell_same _ b 1 _ _ u1 (heap_setCell_same v b 0 _ _ u0 h))
set_option maxRecDepth 100000 in
set_option maxHeartbeats 8000000 in
theorem Redirect_any (hB : BrAll) (s : List UInt8) (z : Int) (w : World) (hl : s.length ≤ 16384) : Calls Try.prog 10 #[.string ⟨s.toArray⟩, .int .i64 z] w (RedOut w (SC.redir s z)) := by
  have HNX := Lib.hid (fun (y : Int) (t : LX.Tok) (x : Int) V (h : LX.next s (LX.clamp s y) = (t, x)) => Next_any s y V t.kind t.pos t.stop t.text x (by omega) h)
  obtain ⟨R, hR⟩ : ∃ R, SC.redir s z = R := ⟨_, rfl⟩
  rw [hR]
  unfold SC.redir at hR
  obtain ⟨f, x, hf⟩ : ∃ f x, LX.next s (LX.clamp s z) = (f, x) := ⟨_, _, rfl⟩
  rw [hf] at hR
  dsimp only at hR
  have HF := Lib.hid (HNX.out z f x · hf)
  have HFT := Lib.hid (tok_text hf)
  have HR := Lib.hid hR
  clear hR hf
  obtain ⟨V0, hV0⟩ : ∃ V0, V0 = (w.alloc (.cells #[.int .i64 0, .int .i64 0, .int .i64 0, .int .i64 0, .slice none 0 0] 41)).alloc (.cells #[.int .i64 0, .int .i64 0, .int .i64 0, .int .i64 0, .slice none 0 0] 41) := ⟨_, rfl⟩
  have HB0 := Lib.hid (show Below w.heap.size w V0 by rw [hV0]; exact btr (balloc _ _) (balloc _ _))
  have HR0 := Lib.hid (show V0.heap[w.heap.size]? = some (.cells #[.int .i64 0, .int .i64 0, .int .i64 0, .int .i64 0, .slice none 0 0] 41 (0, 0)) by
    rw [hV0]
    exact ((balloc _ _).block _ (by simp)).trans (al_new w _))
  have HN0 := Lib.hid (show V0.heap[w.heap.size + 1]? = some (.cells #[.int .i64 0, .int .i64 0, .int .i64 0, .int .i64 0, .slice none 0 0] 41 (0, 0)) by
    rw [hV0]
    exact al_new' _ _ _ (by simp))
  have HV0 := Lib.hid hV0
  clear hV0
  go_enter Try.func10, Try.ntmps10
  go_wp2_with fail
  rw [← HV0.out]
  refine (HF.out _).mono ?_
  rintro e V1 ⟨rfl, hb⟩
  have hs0 : w.heap.size + 1 < V0.heap.size := (Array.getElem?_eq_some_iff.1 HN0.out).1
  obtain ⟨V2, hV2⟩ : ∃ V2, V2 = V1.alloc (.cells #[.int .i64 f.kind, .int .i64 f.pos, .int .i64 f.stop, .string ⟨f.text.toArray⟩] 60) := ⟨_, rfl⟩
  have hb2 : Below V0.heap.size V0 V2 := by rw [hV2]; exact btr hb (balloc _ _)
  have HB2 := Lib.hid (btr HB0.out hb2)
  have HR2 := Lib.hid ((hb2.block _ (by omega)).trans HR0.out)
  have HN2 := Lib.hid ((hb2.block _ hs0).trans HN0.out)
  obtain ⟨q1, hq1⟩ : ∃ q1, q1 = V1.heap.size := ⟨_, rfl⟩
  have HF2 := Lib.hid (show V2.heap[q1]? = some (.cells #[.int .i64 f.kind, .int .i64 f.pos, .int .i64 f.stop, .string ⟨f.text.toArray⟩] 60 (0, 0)) by rw [hV2, hq1]; exact al_new V1 _)
  have hq1w : w.heap.size + 1 < q1 := by rw [hq1]; exact Nat.lt_of_lt_of_le hs0 hb.size
  have HQ1 := Lib.hid hq1
  have HV2 := Lib.hid hV2
  clear hb hb2 hV2 hq1 hs0
  go_upto_if 31 with (fail)
  rw [← HV2.out, ← HQ1.out]
  by_cases hx : x = 0
  case neg =>
    have hxn : (x == 0) = false := by rw [beq_eq_false_iff_ne]; exact hx
    have hxm : (x != 0) = true := by simp [bne, hxn]
    have HRE := Lib.hid (HR.out.symm.trans (if_neg hx))
    obtain ⟨r0, r1, r2, r3, r4, rf0, rf1, rf2, rf3, rf4⟩ := blkR HR2.out
    obtain ⟨n0, n1, n2, n3, n4, -, -, -, -, -⟩ := blkR HN2.out
    obtain ⟨c0, c1, c2, c3, -, -, -, -⟩ := blk4 HF2.out
    clear HR
    go_wp2_with fail
    go_region
    repeat go_step
    refine bodyPost_ret (v := .tuple #[.agg #[.int .i64 0, .int .i64 0, .int .i64 0, .int .i64 0, .slice none 0 0], .slice none 0 0, .int .i64 f.pos, .bool false, .int .i64 x]) (by simp [results, Try.results10, go_sem, r0, r1, r2, r3, r4]) rfl ?_
    rw [HRE.out]
    exact ⟨rfl, (((((HB2.out.setCell (Nat.le_refl _) _).setCell (Nat.le_refl _) _).setCell (Nat.le_refl _) _).setCell (Nat.le_refl _) _).setCell (Nat.le_refl _) _).drew⟩
  subst hx
  have HR1 := Lib.hid (HR.out.symm.trans (if_pos rfl))
  obtain ⟨V3, hV3⟩ : ∃ V3, V3 = V2.alloc (.cells #[.int .i64 f.kind, .int .i64 f.pos, .int .i64 f.stop, .string ⟨f.text.toArray⟩] 60) := ⟨_, rfl⟩
  have hb3 : Below V2.heap.size V2 V3 := by rw [hV3]; exact balloc _ _
  obtain ⟨q2, hq2⟩ : ∃ q2, q2 = V2.heap.size := ⟨_, rfl⟩
  have hs2 : q1 < V2.heap.size := (Array.getElem?_eq_some_iff.1 HF2.out).1
  have hq12 : q1 < q2 := by rw [hq2]; exact hs2
  have HB3 := Lib.hid (btr HB2.out hb3)
  have HR3 := Lib.hid ((hb3.block _ (by omega)).trans HR2.out)
  have HN3 := Lib.hid ((hb3.block _ (by omega)).trans HN2.out)
  have HF3 := Lib.hid ((hb3.block _ hs2).trans HF2.out)
  have HO3 := Lib.hid (show V3.heap[q2]? = some (.cells #[.int .i64 f.kind, .int .i64 f.pos, .int .i64 f.stop, .string ⟨f.text.toArray⟩] 60 (0, 0)) by rw [hV3, hq2]; exact al_new V2 _)
  obtain ⟨c0, c1, c2, c3, -, -, -, -⟩ := blk4 HF2.out
  have HV3 := Lib.hid hV3
  have HQ2 := Lib.hid hq2
  clear HR hb3 hq2 hV3
  go_upto_if 39 with (fail)
  rw [← HV3.out, ← HQ2.out]
  go_cut [11] (fun v wx => v = .int .i64 0 ∧ ∃ o : LX.Tok, Hid (R = SC.redirO s f o) ∧ Hid (Below w.heap.size w wx) ∧ Hid (wx.heap[w.heap.size]? = some (.cells #[.int .i64 0, .int .i64 0, .int .i64 0, .int .i64 0, .slice none 0 0] 41 (0, 0))) ∧
      Hid (wx.heap[w.heap.size + 1]? = some (.cells #[.int .i64 0, .int .i64 0, .int .i64 0, .int .i64 0, .slice none 0 0] 41 (0, 0))) ∧ Hid (wx.heap[q1]? = some (.cells #[.int .i64 f.kind, .int .i64 f.pos, .int .i64 f.stop, .string ⟨f.text.toArray⟩] 60 (0, 0))) ∧
      Hid (wx.heap[q2]? = some (.cells #[.int .i64 o.kind, .int .i64 o.pos, .int .i64 o.stop, .string ⟨o.text.toArray⟩] 60 (0, 0))))
  case first =>
    by_cases hk : f.kind = 4
    case neg =>
      have hk4 : ((f.kind : Int) == 4) = false := by rw [beq_eq_false_iff_ne]; omega
      have HRE := Lib.hid (HR1.out.trans (if_neg hk))
      go_wp2_with fail
      go_meet
      exact ⟨rfl, f, HRE, HB3, HR3, HN3, HF3, HO3⟩
    have hk4 : ((f.kind : Int) == 4) = true := by rw [beq_iff_eq]; omega
    have HR2 := HR1.out.trans (if_pos hk)
    obtain ⟨o, y, ho⟩ : ∃ o y, LX.next s (LX.clamp s f.stop) = (o, y) := ⟨_, _, rfl⟩
    rw [ho] at HR2
    dsimp only at HR2
    have HO := Lib.hid (HNX.out f.stop o y · ho)
    replace HR2 := Lib.hid HR2
    clear ho hk HR1 c0 c1 c2 c3
    obtain ⟨c0, c1, c2, c3, -, -, -, -⟩ := blk4 HF3.out
    go_wp2_with fail
    refine (HO.out _).mono ?_
    rintro e V4 ⟨rfl, hb⟩
    have hs3 : q2 < V3.heap.size := (Array.getElem?_eq_some_iff.1 HO3.out).1
    have HO4 := Lib.hid ((hb.block _ hs3).trans HO3.out)
    have HB4 := Lib.hid (btr HB3.out hb)
    have HR4 := Lib.hid ((hb.block _ (by omega)).trans HR3.out)
    have HN4 := Lib.hid ((hb.block _ (by omega)).trans HN3.out)
    have HF4 := Lib.hid ((hb.block _ (by omega)).trans HF3.out)
    obtain ⟨o0, o1, o2, o3, of0, of1, of2, of3⟩ := blk4 HO4.out
    clear hb c0 c1 c2 c3
    obtain ⟨V5, hV5⟩ : ∃ V5, V5 = (((V4.setCell ⟨q2, 0, none⟩ (.int .i64 o.kind)).setCell ⟨q2, 1, none⟩ (.int .i64 o.pos)).setCell ⟨q2, 2, none⟩ (.int .i64 o.stop)).setCell ⟨q2, 3, none⟩ (.string ⟨o.text.toArray⟩) := ⟨_, rfl⟩
    have HO5 := Lib.hid (show V5.heap[q2]? = some (.cells #[.int .i64 o.kind, .int .i64 o.pos, .int .i64 o.stop, .string ⟨o.text.toArray⟩] 60 (0, 0)) by rw [hV5]; exact set4_heap HO4.out _ _ _ _)
    have HB5 := Lib.hid (show Below w.heap.size w V5 by rw [hV5]; exact below4 HB4.out q2 (by omega) _ _ _ _)
    have HR5 := Lib.hid (show V5.heap[w.heap.size]? = some (.cells #[.int .i64 0, .int .i64 0, .int .i64 0, .int .i64 0, .slice none 0 0] 41 (0, 0)) by rw [hV5]; exact (set4_far (by omega) _ _ _ _).trans HR4.out)
    have HN5 := Lib.hid (show V5.heap[w.heap.size + 1]? = some (.cells #[.int .i64 0, .int .i64 0, .int .i64 0, .int .i64 0, .slice none 0 0] 41 (0, 0)) by rw [hV5]; exact (set4_far (by omega) _ _ _ _).trans HN4.out)
    have HF5 := Lib.hid (show V5.heap[q1]? = some (.cells #[.int .i64 f.kind, .int .i64 f.pos, .int .i64 f.stop, .string ⟨f.text.toArray⟩] 60 (0, 0)) by rw [hV5]; exact (set4_far (by omega) _ _ _ _).trans HF4.out)
    have HV5 := Lib.hid hV5
    clear hV5
    go_upto_if 48 with (fail)
    rw [← HV5.out]
    clear o0 o1 o2 o3 of0 of1 of2 of3
    by_cases hy : y = 0
    case pos =>
      subst hy
      have HRE := Lib.hid (HR2.out.trans (if_pos rfl))
      go_wp2_with fail
      go_meet
      exact ⟨rfl, o, HRE, HB5, HR5, HN5, HF5, HO5⟩
    have hyn : (y == 0) = false := by rw [beq_eq_false_iff_ne]; exact hy
    have hym : (y != 0) = true := by simp [bne, hyn]
    have HRE := Lib.hid (HR2.out.trans (if_neg hy))
    obtain ⟨r0, r1, r2, r3, r4, rf0, rf1, rf2, rf3, rf4⟩ := blkR HR5.out
    obtain ⟨n0, n1, n2, n3, n4, -, -, -, -, -⟩ := blkR HN5.out
    obtain ⟨o0, o1, o2, o3, -, -, -, -⟩ := blk4 HO5.out
    go_wp2_with fail
    go_region
    repeat go_step
    refine bodyPost_ret (v := .tuple #[.agg #[.int .i64 0, .int .i64 0, .int .i64 0, .int .i64 0, .slice none 0 0], .slice none 0 0, .int .i64 o.pos, .bool false, .int .i64 y]) (by simp [results, Try.results10, go_sem, r0, r1, r2, r3, r4]) rfl ?_
    rw [HRE.out]
    exact ⟨rfl, (((((HB5.out.setCell (Nat.le_refl _) _).setCell (Nat.le_refl _) _).setCell (Nat.le_refl _) _).setCell (Nat.le_refl _) _).setCell (Nat.le_refl _) _).drew⟩
  case rest =>
    obtain ⟨rfl, o, HRO, HBC, HRC, HNC, HFC, HOC⟩ := hcut
    obtain ⟨⟨op, fd, st⟩, hd⟩ : ∃ d, SC.desc o = d := ⟨_, rfl⟩
    have HD := Lib.hid (fun V => describe_any o V op fd st hd)
    have HDD := Lib.hid hd
    have hqc : q2 < wc.heap.size := (Array.getElem?_eq_some_iff.1 HOC.out).1
    obtain ⟨o0, o1, o2, o3, -, -, -, -⟩ := blk4 HOC.out
    by_cases hno : SC.desc o = (0, 0, false)
    case pos =>
      have hd2 := hd.symm.trans hno
      injection hd2 with e1 e2
      injection e2 with e2 e3
      subst e1 e2 e3
      have HRE := Lib.hid (HRO.out.trans (if_pos hno))
      clear hd hno
      go_wp2_with fail
      refine (HD.out _).mono ?_
      rintro e V6 ⟨rfl, hb⟩
      obtain ⟨V7, hV7⟩ : ∃ V7, V7 = V6.alloc (.cells #[.int .i64 0, .int .i64 0, .bool false] 68) := ⟨_, rfl⟩
      have hb7 : Below wc.heap.size wc V7 := by rw [hV7]; exact btr hb (balloc _ _)
      have HB7 := Lib.hid (btr HBC.out hb7)
      have HRA := (hb7.block _ (by omega)).trans HRC.out
      have HNA := (hb7.block _ (by omega)).trans HNC.out
      have hk7 : V7.heap[V6.heap.size]? = some (.cells #[.int .i64 0, .int .i64 0, .bool false] 68 (0, 0)) := by rw [hV7]; exact al_new V6 _
      obtain ⟨r0, r1, r2, r3, r4, rf0, rf1, rf2, rf3, rf4⟩ := blkR HRA
      obtain ⟨n0, n1, n2, n3, n4, -, -, -, -, -⟩ := blkR HNA
      have k0 := Lib.cell_of_heap hk7 0
      have k1 := Lib.cell_of_heap hk7 1
      have k2 := Lib.cell_of_heap hk7 2
      have HV7 := Lib.hid hV7
      clear HRA HNA hb hb7 hV7 hk7 o0 o1 o2 o3
      go_upto_if 57 with (fail)
      rw [← HV7.out]
      repeat go_step
      refine bodyPost_ret (v := .tuple #[.agg #[.int .i64 0, .int .i64 0, .int .i64 0, .int .i64 0, .slice none 0 0], .slice none 0 0, .int .i64 0, .bool false, .int .i64 0]) (by simp [results, Try.results10, go_sem, r0, r1, r2, r3, r4]) rfl ?_
      rw [HRE.out]
      exact ⟨rfl, ((((HB7.out.setCell (Nat.le_refl _) _).setCell (Nat.le_refl _) _).setCell (Nat.le_refl _) _).setCell (Nat.le_refl _) _).setCell (Nat.le_refl _) _⟩
    obtain ⟨hop, hop8, hfd0, hfd1⟩ := SC.desc_op hd hno
    have hRE0 := HRO.out.trans (if_neg hno)
    rw [hd] at hRE0
    dsimp only at hRE0
    have HRE := Lib.hid hRE0
    clear hRE0
    have hop0 : (op == 0) = false := by rw [beq_eq_false_iff_ne]; omega
    have hop0' : ¬ op = 0 := by omega
    clear hd hno
    go_wp2_with fail
    refine (HD.out _).mono ?_
    rintro e V6 ⟨rfl, hb⟩
    obtain ⟨V7, hV7⟩ : ∃ V7, V7 = V6.alloc (.cells #[.int .i64 op, .int .i64 fd, .bool st] 68) := ⟨_, rfl⟩
    have hb7 : Below wc.heap.size wc V7 := by rw [hV7]; exact btr hb (balloc _ _)
    obtain ⟨q3, hq3⟩ : ∃ q3, q3 = V6.heap.size := ⟨_, rfl⟩
    have hq23 : q2 < q3 := by rw [hq3]; exact Nat.lt_of_lt_of_le hqc hb.size
    have HB7 := Lib.hid (btr HBC.out hb7)
    have HR7 := Lib.hid ((hb7.block _ (by omega)).trans HRC.out)
    have HN7 := Lib.hid ((hb7.block _ (by omega)).trans HNC.out)
    have HF7 := Lib.hid ((hb7.block _ (by omega)).trans HFC.out)
    have HO7 := Lib.hid ((hb7.block _ hqc).trans HOC.out)
    have HK7 := Lib.hid (show V7.heap[q3]? = some (.cells #[.int .i64 op, .int .i64 fd, .bool st] 68 (0, 0)) by rw [hV7, hq3]; exact al_new V6 _)
    have k0 := Lib.cell_of_heap HK7.out 0
    have k1 := Lib.cell_of_heap HK7.out 1
    have k2 := Lib.cell_of_heap HK7.out 2
    have HV7 := Lib.hid hV7
    have HQ3 := Lib.hid hq3
    clear hb hb7 hV7 hq3 o0 o1 o2 o3
    go_upto_if 57 with (fail)
    rw [← HV7.out, ← HQ3.out]
    obtain ⟨t, x, ht⟩ : ∃ t x, LX.next s (LX.clamp s o.stop) = (t, x) := ⟨_, _, rfl⟩
    rw [ht] at HRE
    have hRE := HRE.out
    dsimp only at hRE
    replace HRE := Lib.hid hRE
    have HT := Lib.hid (HNX.out o.stop t x · ht)
    have HTT := Lib.hid (tok_text ht)
    clear ht hRE
    obtain ⟨o0, o1, o2, o3, -, -, -, -⟩ := blk4 HO7.out
    go_wp2_with fail
    refine (HT.out _).mono ?_
    rintro e V8 ⟨rfl, hb⟩
    have hs7 : q3 < V7.heap.size := (Array.getElem?_eq_some_iff.1 HK7.out).1
    obtain ⟨V9, hV9⟩ : ∃ V9, V9 = V8.alloc (.cells #[.int .i64 t.kind, .int .i64 t.pos, .int .i64 t.stop, .string ⟨t.text.toArray⟩] 60) := ⟨_, rfl⟩
    obtain ⟨q4, hq4⟩ : ∃ q4, q4 = V8.heap.size := ⟨_, rfl⟩
    have hq34 : q3 < q4 := by rw [hq4]; exact Nat.lt_of_lt_of_le hs7 hb.size
    have hb9 : Below V7.heap.size V7 V9 := by rw [hV9]; exact btr hb (balloc _ _)
    have HB9 := Lib.hid (btr HB7.out hb9)
    have HR9 := Lib.hid ((hb9.block _ (by omega)).trans HR7.out)
    have HN9 := Lib.hid ((hb9.block _ (by omega)).trans HN7.out)
    have HF9 := Lib.hid ((hb9.block _ (by omega)).trans HF7.out)
    have HK9 := Lib.hid ((hb9.block _ hs7).trans HK7.out)
    have HT9 := Lib.hid (show V9.heap[q4]? = some (.cells #[.int .i64 t.kind, .int .i64 t.pos, .int .i64 t.stop, .string ⟨t.text.toArray⟩] 60 (0, 0)) by rw [hV9, hq4]; exact al_new V8 _)
    have HV9 := Lib.hid hV9
    have HQ4 := Lib.hid hq4
    clear hb hb9 hV9 hq4 k0 k1 k2 o0 o1 o2 o3 hop0 hop0'
    go_upto_if 67 with (fail)
    rw [← HV9.out, ← HQ4.out]
    by_cases hx : x = 0
    case neg =>
      have hxn : (x == 0) = false := by rw [beq_eq_false_iff_ne]; exact hx
      have hxm : (x != 0) = true := by simp [bne, hxn]
      have HRE := Lib.hid (HRE.out.trans (if_neg hx))
      obtain ⟨r0, r1, r2, r3, r4, rf0, rf1, rf2, rf3, rf4⟩ := blkR HR9.out
      obtain ⟨n0, n1, n2, n3, n4, -, -, -, -, -⟩ := blkR HN9.out
      obtain ⟨c0, c1, c2, c3, -, -, -, -⟩ := blk4 HT9.out
      go_wp2_with fail
      go_region
      repeat go_step
      refine bodyPost_ret (v := .tuple #[.agg #[.int .i64 0, .int .i64 0, .int .i64 0, .int .i64 0, .slice none 0 0], .slice none 0 0, .int .i64 t.pos, .bool false, .int .i64 x]) (by simp [results, Try.results10, go_sem, r0, r1, r2, r3, r4]) rfl ?_
      rw [HRE.out]
      exact ⟨rfl, (((((HB9.out.setCell (Nat.le_refl _) _).setCell (Nat.le_refl _) _).setCell (Nat.le_refl _) _).setCell (Nat.le_refl _) _).setCell (Nat.le_refl _) _).drew⟩
    subst hx
    have HR10 := Lib.hid (HRE.out.trans (if_pos rfl))
    clear HRE
    obtain ⟨f0, f1, f2, f3, -, -, -, -⟩ := blk4 HF9.out
    go_upto_if 74 with (fail)
    go_cut [] (fun wx => ∃ n : Int, Hid (R = SC.redirW f n op st t) ∧ Hid (Below w.heap.size w wx) ∧ Hid (wx.heap[w.heap.size]? = some (.cells #[.int .i64 0, .int .i64 0, .int .i64 0, .int .i64 0, .slice none 0 0] 41 (0, 0))) ∧
        Hid (wx.heap[w.heap.size + 1]? = some (.cells #[.int .i64 0, .int .i64 0, .int .i64 0, .int .i64 0, .slice none 0 0] 41 (0, 0))) ∧ Hid (wx.heap[q1]? = some (.cells #[.int .i64 f.kind, .int .i64 f.pos, .int .i64 f.stop, .string ⟨f.text.toArray⟩] 60 (0, 0))) ∧
        Hid (wx.heap[q3]? = some (.cells #[.int .i64 op, .int .i64 n, .bool st] 68 (0, 0))) ∧ Hid (wx.heap[q4]? = some (.cells #[.int .i64 t.kind, .int .i64 t.pos, .int .i64 t.stop, .string ⟨t.text.toArray⟩] 60 (0, 0))))
    case first =>
      by_cases hk : f.kind = 4
      case neg =>
        have hk4 : ((f.kind : Int) == 4) = false := by rw [beq_eq_false_iff_ne]; omega
        have HRE := Lib.hid (HR10.out.trans (if_neg hk))
        go_wp2_with fail
        go_meet
        exact ⟨fd, HRE, HB9, HR9, HN9, HF9, HK9, HT9⟩
      have hk4 : ((f.kind : Int) == 4) = true := by rw [beq_iff_eq]; omega
      have HR11 := HR10.out.trans (if_pos hk)
      have HDG := Lib.hid (fun V => Digits_any f.text V (by have := HFT.out; omega))
      obtain ⟨dg, hdg⟩ : ∃ dg, P.digitsI f.text = dg := ⟨_, rfl⟩
      rw [hdg] at HDG HR11
      replace HR11 := Lib.hid HR11
      clear hdg hk
      cases dg with
      | none =>
        have HRE := Lib.hid (show R = .err f.pos 6 from HR11.out)
        have HDN := Lib.hid (fun V => show Calls Try.prog 25 #[.string ⟨f.text.toArray⟩] V (fun e w' => e = .returned (.tuple #[.int .i64 0, .bool false]) ∧ Below V.heap.size V w') from HDG.out V)
        go_wp2_with fail
        refine (HDN.out _).mono ?_
        rintro e V10 ⟨rfl, hb⟩
        have HB10 := Lib.hid (btr HB9.out hb)
        have hs9 : q4 < V9.heap.size := (Array.getElem?_eq_some_iff.1 HT9.out).1
        have HR10' := (hb.block _ (by omega)).trans HR9.out
        have HN10' := (hb.block _ (by omega)).trans HN9.out
        have HF10' := (hb.block _ (by omega)).trans HF9.out
        clear f0 f1 f2 f3 hb
        obtain ⟨r0, r1, r2, r3, r4, rf0, rf1, rf2, rf3, rf4⟩ := blkR HR10'
        obtain ⟨n0, n1, n2, n3, n4, -, -, -, -, -⟩ := blkR HN10'
        obtain ⟨f0, f1, f2, f3, -, -, -, -⟩ := blk4 HF10'
        clear HR10' HN10' HF10'
        go_wp2_with fail
        go_region
        repeat go_step
        refine bodyPost_ret (v := .tuple #[.agg #[.int .i64 0, .int .i64 0, .int .i64 0, .int .i64 0, .slice none 0 0], .slice none 0 0, .int .i64 f.pos, .bool false, .int .i64 6]) (by simp [results, Try.results10, go_sem, r0, r1, r2, r3, r4]) rfl ?_
        rw [HRE.out]
        exact ⟨rfl, (((((HB10.out.setCell (Nat.le_refl _) _).setCell (Nat.le_refl _) _).setCell (Nat.le_refl _) _).setCell (Nat.le_refl _) _).setCell (Nat.le_refl _) _).drew⟩
      | some n =>
        have HRE := Lib.hid (show R = SC.redirW f n op st t from HR11.out)
        have HDN := Lib.hid (fun V => show Calls Try.prog 25 #[.string ⟨f.text.toArray⟩] V (fun e w' => e = .returned (.tuple #[.int .i64 n, .bool true]) ∧ Below V.heap.size V w') from HDG.out V)
        go_wp2_with fail
        refine (HDN.out _).mono ?_
        rintro e V10 ⟨rfl, hb⟩
        have HB10 := Lib.hid (btr HB9.out hb)
        have hs9 : q4 < V9.heap.size := (Array.getElem?_eq_some_iff.1 HT9.out).1
        have HR10' := Lib.hid ((hb.block _ (by omega)).trans HR9.out)
        have HN10' := Lib.hid ((hb.block _ (by omega)).trans HN9.out)
        have HF10' := Lib.hid ((hb.block _ (by omega)).trans HF9.out)
        have HK10' := Lib.hid ((hb.block _ (by omega)).trans HK9.out)
        have HT10' := Lib.hid ((hb.block _ hs9).trans HT9.out)
        have k1 := Lib.cell_of_heap HK10'.out 1
        have kf1 := Lib.frozen_of_heap HK10'.out 1
        clear f0 f1 f2 f3 hb
        go_wp2_with fail
        go_meet
        refine ⟨n, HRE, Lib.hid (HB10.out.setCell (by dsimp only; omega) _), Lib.hid ((Below.heap_setCell _ _ _ _ (by dsimp only; omega)).trans HR10'.out), Lib.hid ((Below.heap_setCell _ _ _ _ (by dsimp only; omega)).trans HN10'.out), Lib.hid ((Below.heap_setCell _ _ _ _ (by dsimp only; omega)).trans HF10'.out), Lib.hid (heap_setCell_same _ q3 1 _ _ _ HK10'.out), Lib.hid ((Below.heap_setCell _ _ _ _ (by dsimp only; omega)).trans HT10'.out)⟩
    case rest =>
      obtain ⟨n, HRO2, HBD, HRD, HND, HFD, HKD, HTD⟩ := hcut
      obtain ⟨t0, t1, t2, t3, -, -, -, -⟩ := blk4 HTD.out
      by_cases hk : t.kind = 1
      case neg =>
        have hk1 : ((t.kind : Int) == 1) = false := by rw [beq_eq_false_iff_ne]; omega
        have hk1' : ((t.kind : Int) != 1) = true := by simp [bne, hk1]
        have HRE := Lib.hid (show R = .err t.pos (SCmiss t) from HRO2.out.trans (if_neg hk))
        have HM := Lib.hid (fun V => missing_run t V)
        obtain ⟨r0, r1, r2, r3, r4, rf0, rf1, rf2, rf3, rf4⟩ := blkR HRD.out
        obtain ⟨n0, n1, n2, n3, n4, -, -, -, -, -⟩ := blkR HND.out
        have hq4 : q4 < wc.heap.size := (Array.getElem?_eq_some_iff.1 HTD.out).1
        have hws : w.heap.size < wc.heap.size := by omega
        have hws1 : w.heap.size + 1 < wc.heap.size := by omega
        have hkeep := 0
        obtain ⟨Y, hY⟩ : ∃ Y, Y = (((((wc.setCell ⟨w.heap.size, 0, none⟩ (.int .i64 0)).setCell ⟨w.heap.size, 1, none⟩ (.int .i64 0)).setCell ⟨w.heap.size, 2, none⟩ (.int .i64 0)).setCell ⟨w.heap.size, 3, none⟩ (.int .i64 0)).setCell ⟨w.heap.size, 4, none⟩ (.slice none 0 0)).alloc (.cells #[.int .i64 t.kind, .int .i64 t.pos, .int .i64 t.stop, .string ⟨t.text.toArray⟩] 60) := ⟨_, rfl⟩
        have hyr : Y.heap[w.heap.size]? = some (.cells #[.int .i64 0, .int .i64 0, .int .i64 0, .int .i64 0, .slice none 0 0] 41 (0, 0)) := by rw [hY]; exact ycells (set5_heap HRD.out _ _ _ _ _) (balloc _ _)
        have HYB := Lib.hid (show Below w.heap.size w Y by rw [hY]; exact btr (set5_below HBD.out (Nat.le_refl _) _ _ _ _ _) (balloc _ _))
        have HYR := Lib.hid hyr
        have HYE := Lib.hid hY
        clear hyr hY
        go_wp2_with fail
        apply merge
        case h =>
          intro hrest
          apply merge
          case h =>
            intro hrest2
            go_region_with ((go_at_call 23; refine (HM.out _).mono ?_; rintro e Y ⟨rfl, rfl⟩))
            all_goals first | (with_reducible exact hrest.out) | (with_reducible exact hrest2.out)
          case g =>
            rw [← HYE.out]
            obtain ⟨y0, y1, y2, y3, y4, -, -, -, -, -⟩ := blkR HYR.out
            clear r0 r1 r2 r3 r4 rf0 rf1 rf2 rf3 rf4 n0 n1 n2 n3 n4
            repeat go_step
            refine bodyPost_ret (v := .tuple #[.agg #[.int .i64 0, .int .i64 0, .int .i64 0, .int .i64 0, .slice none 0 0], .slice none 0 0, .int .i64 t.pos, .bool false, .int .i64 (SCmiss t)]) (by simp [results, Try.results10, go_sem, y0, y1, y2, y3, y4]) rfl ?_
            rw [HRE.out]
            first | exact ⟨rfl, HYB.out⟩ | exact ⟨rfl, HYB.out.drew⟩
        case g =>
          rw [← HYE.out]
          obtain ⟨y0, y1, y2, y3, y4, -, -, -, -, -⟩ := blkR HYR.out
          clear r0 r1 r2 r3 r4 rf0 rf1 rf2 rf3 rf4 n0 n1 n2 n3 n4
          repeat go_step
          refine bodyPost_ret (v := .tuple #[.agg #[.int .i64 0, .int .i64 0, .int .i64 0, .int .i64 0, .slice none 0 0], .slice none 0 0, .int .i64 t.pos, .bool false, .int .i64 (SCmiss t)]) (by simp [results, Try.results10, go_sem, y0, y1, y2, y3, y4]) rfl ?_
          rw [HRE.out]
          first | exact ⟨rfl, HYB.out⟩ | exact ⟨rfl, HYB.out.drew⟩
      have hk1 : ((t.kind : Int) == 1) = true := by rw [beq_iff_eq]; omega
      have hk1' : ((t.kind : Int) != 1) = false := by simp [bne, hk1]
      have HP := Lib.hid (fun V => Parse_any hB t.text V (by have := HTT.out; omega))
      go_wp2_with fail
      refine (HP.out _).mono ?_
      intro e V12 ho
      have hRW := HRO2.out.trans (if_pos hk)
      cases hps : WP.parse t.text 0 with
      | error y =>
        rw [hps] at ho hRW
        obtain ⟨rfl, hb⟩ := ho
        replace hRW := Lib.hid (show R = .err (IntKind.i64.wrap ((t.pos : Int) + (y.1 : Int))) y.2 from hRW)
        have hy := WP.parse_code hps
        have hyn : ((y.2 : Int) == 0) = false := by rw [beq_eq_false_iff_ne]; omega
        have hym : ((y.2 : Int) != 0) = true := by simp [bne, hyn]
        have HB12 := Lib.hid (btr HBD.out hb)
        have hsc : q4 < wc.heap.size := (Array.getElem?_eq_some_iff.1 HTD.out).1
        have HRA := (hb.block _ (by omega)).trans HRD.out
        have HNA := (hb.block _ (by omega)).trans HND.out
        have HTA := (hb.block _ hsc).trans HTD.out
        clear hb t0 t1 t2 t3
        obtain ⟨r0, r1, r2, r3, r4, rf0, rf1, rf2, rf3, rf4⟩ := blkR HRA
        obtain ⟨n0, n1, n2, n3, n4, -, -, -, -, -⟩ := blkR HNA
        obtain ⟨t0, t1, t2, t3, -, -, -, -⟩ := blk4 HTA
        clear HRA HNA HTA
        dsimp only
        obtain ⟨ev, hev⟩ : ∃ ev, IntKind.i64.wrap ((t.pos : Int) + (y.1 : Int)) = ev := ⟨_, rfl⟩
        rw [hev] at hRW
        go_wp2_with fail
        go_region
        repeat go_step
        refine bodyPost_ret (v := .tuple #[.agg #[.int .i64 0, .int .i64 0, .int .i64 0, .int .i64 0, .slice none 0 0], .slice none 0 0, .int .i64 ev, .bool false, .int .i64 y.2]) (by simp [results, Try.results10, go_sem, r0, r1, r2, r3, r4]) rfl ?_
        rw [hRW.out]
        exact ⟨rfl, (set5_below HB12.out (Nat.le_refl _) _ _ _ _ _).drew⟩
      | ok ps =>
        rw [hps] at ho hRW
        obtain ⟨A, cap, rfl, hb, hrep⟩ := ho
        have HB12 := Lib.hid (btr HBD.out hb)
        have hsc : q4 < wc.heap.size := (Array.getElem?_eq_some_iff.1 HTD.out).1
        have HR12 := Lib.hid ((hb.block _ (by omega)).trans HRD.out)
        have HF12 := Lib.hid ((hb.block _ (by omega)).trans HFD.out)
        have HK12 := Lib.hid ((hb.block _ (by omega)).trans HKD.out)
        have HT12 := Lib.hid ((hb.block _ hsc).trans HTD.out)
        have hqs : q4 < V12.heap.size := Nat.lt_of_lt_of_le hsc hb.size
        have hqs3 : q3 < V12.heap.size := by omega
        have hqs1 : q1 < V12.heap.size := by omega
        have hqsw : w.heap.size < V12.heap.size := by omega
        have HREP := Lib.hid hrep
        have HWT := Lib.hid (WP.parse_wt hps)
        have HBC12 := Lib.hid hb
        obtain ⟨m, hm⟩ : ∃ m, ps.length = m := ⟨_, rfl⟩
        have m0 : (0 : Int) ≤ (m : Int) := by omega
        have HM := Lib.hid hm
        rw [hm]
        clear hb hrep t0 t1 t2 t3 hps hm
        obtain ⟨f0, f1, f2, f3, -, -, -, -⟩ := blk4 HF12.out
        have k0 := Lib.cell_of_heap HK12.out 0
        have k1 := Lib.cell_of_heap HK12.out 1
        have k2 := Lib.cell_of_heap HK12.out 2
        obtain ⟨t0, t1, t2, t3, -, -, -, -⟩ := blk4 HT12.out
        by_cases h8 : op = 8
        case neg =>
          have h8e : ((op : Int) == 8) = false := by rw [beq_eq_false_iff_ne]; exact h8
          have h8n : ((op : Int) != 8) = true := by simp [bne, h8e]
          have HRE := Lib.hid (show R = .plain f.pos n op t.pos t.stop ps from hRW.trans (if_neg h8))
          clear hRW h8
          obtain ⟨r0, r1, r2, r3, r4, rf0, rf1, rf2, rf3, rf4⟩ := blkR HR12.out
          obtain ⟨V13, hV13⟩ : ∃ V13, V13 = V12.alloc (.cells #[.int .i64 f.pos, .int .i64 n, .int .i64 op, .int .i64 t.pos, .slice A m cap] 41) := ⟨_, rfl⟩
          have hba : Below V12.heap.size V12 V13 := by rw [hV13]; exact balloc _ _
          have HA13 := Lib.hid hba
          have HR13 := (hba.block _ hqsw).trans HR12.out
          have HT13 := (hba.block _ hqs).trans HT12.out
          have HN13 := Lib.hid (show V13.heap[V12.heap.size]? = some (.cells #[.int .i64 f.pos, .int .i64 n, .int .i64 op, .int .i64 t.pos, .slice A m cap] 41 (0, 0)) by rw [hV13]; exact al_new V12 _)
          have HV13 := Lib.hid hV13
          clear hV13 hba
          have hkplain := 0
          go_wp2_with fail
          rw [← HV13.out]
          clear t0 t1 t2 t3 f0 f1 f2 f3 k0 k1 k2
          obtain ⟨r0, r1, r2, r3, r4, rf0, rf1, rf2, rf3, rf4⟩ := blkR HR13
          obtain ⟨n0, n1, n2, n3, n4, -, -, -, -, -⟩ := blkR HN13.out
          obtain ⟨t0, t1, t2, t3, -, -, -, -⟩ := blk4 HT13
          clear HR13 HT13
          go_region
          repeat go_step
          refine bodyPost_ret (v := .tuple #[.agg #[.int .i64 f.pos, .int .i64 n, .int .i64 op, .int .i64 t.pos, .slice A m cap], .slice none 0 0, .int .i64 t.stop, .bool true, .int .i64 0]) (by simp [results, Try.results10, go_sem, r0, r1, r2, r3, r4]) rfl ?_
          rw [HRE.out]
          refine ⟨A, cap, by rw [HM.out], (set5_below (HB12.out.trans (HA13.out.mono (by omega))) (Nat.le_refl _) _ _ _ _ _).drew, ?_⟩
          exact rep_keep (B := wc.heap.size) HBD.out.size (fun b h1 h2 => set5_far (by omega) (HA13.out.block b h2) _ _ _ _ _) HREP.out
        have HRE0 := Lib.hid (hRW.trans (if_pos h8))
        clear hRW
        subst h8
        obtain ⟨V13, hV13⟩ : ∃ V13, V13 = V12.alloc (.cells #[.int .i64 f.pos, .int .i64 n, .int .i64 8, .int .i64 0, .slice none 0 0] 41) := ⟨_, rfl⟩
        have hba : Below V12.heap.size V12 V13 := by rw [hV13]; exact balloc _ _
        have HA13 := Lib.hid hba
        have HB13 := Lib.hid (HB12.out.trans (hba.mono (by omega)))
        have HR13 := Lib.hid ((hba.block _ hqsw).trans HR12.out)
        have HT13 := Lib.hid ((hba.block _ hqs).trans HT12.out)
        have HK13 := Lib.hid ((hba.block _ hqs3).trans HK12.out)
        have HN13 := Lib.hid (show V13.heap[V12.heap.size]? = some (.cells #[.int .i64 f.pos, .int .i64 n, .int .i64 8, .int .i64 0, .slice none 0 0] 41 (0, 0)) by rw [hV13]; exact al_new V12 _)
        obtain ⟨q5, hq5⟩ : ∃ q5, q5 = V12.heap.size := ⟨_, rfl⟩
        have hq5s : q5 < V13.heap.size := by rw [hq5]; exact (Array.getElem?_eq_some_iff.1 HN13.out).1
        have hqq : q4 < q5 := by rw [hq5]; exact hqs
        rw [← hq5] at HN13
        have HGS := Lib.hid (show GS V13 (fun b => b < V13.heap.size) (.slice A m cap) (gpL ps) from by rw [← HM.out]; exact GS.up ((GS.of_rep (cap := cap) HREP.out).mono fun _ _ h2 => ⟨h2, rfl⟩) hba)
        have HCN := Lib.hid (show WP.cntL (gpL ps) ≤ 1000000 ∧ WP.sizL (gpL ps) ≤ 1000000 from by have h1 := HWT.out; have h2 := HTT.out; omega)
        have HQ := Lib.hid (fun V (hV : Below V13.heap.size V13 V) => Quoted_any (.slice A m cap) (gpL ps) V (GS.up HGS.out hV) (by have := len_cnt (gpL ps); have := HCN.out; omega))
        have hLI := Literal_any (.slice A m cap) (gpL ps) V13 HGS.out HCN.out.1 HCN.out.2
        rw [WP.lit_gp] at hLI
        rw [WP.quoted_gp] at HQ
        obtain ⟨lt, hlt⟩ : ∃ lt, WP.litA ps = lt := ⟨_, rfl⟩
        obtain ⟨qb, hqb⟩ : ∃ qb, WP.quotedB ps = qb := ⟨_, rfl⟩
        rw [hlt] at hLI HRE0
        rw [hqb] at HQ HRE0
        have HV13 := Lib.hid hV13
        have HQ5 := Lib.hid hq5
        have HLI0 := Lib.hid hLI
        clear hV13 hba hlt hqb hq5 hLI
        go_upto_if 120 with (fail)
        rw [← HV13.out, ← HQ5.out]
        clear t0 t1 t2 t3 f0 f1 f2 f3 k0 k1 k2
        cases lt with
        | none =>
          have HRE := Lib.hid (show R = .err t.pos 6 from HRE0.out)
          have HLI := Lib.hid (show Calls Try.prog 27 #[.slice A m cap] V13 (fun e w' => e = .returned (.tuple #[.string ⟨#[]⟩, .bool false]) ∧ Below V13.heap.size V13 w') from HLI0.out)
          have k0 := Lib.cell_of_heap HK13.out 0
          have hknone := 0
          go_wp2_with fail
          refine HLI.out.mono ?_
          rintro e V14 ⟨rfl, hb⟩
          have HB14 := Lib.hid (HB13.out.trans (hb.mono (by omega)))
          have HR14 := (hb.block _ (by omega)).trans HR13.out
          have HT14 := (hb.block _ (by omega)).trans HT13.out
          have HN14 := (hb.block _ (by omega)).trans ((HA13.out.block _ (by omega)).trans ((HBC12.out.block _ (by omega)).trans HND.out))
          clear hb k0
          obtain ⟨r0, r1, r2, r3, r4, rf0, rf1, rf2, rf3, rf4⟩ := blkR HR14
          obtain ⟨n0, n1, n2, n3, n4, -, -, -, -, -⟩ := blkR HN14
          obtain ⟨t0, t1, t2, t3, -, -, -, -⟩ := blk4 HT14
          clear HR14 HT14 HN14
          go_wp2_with fail
          go_region
          repeat go_step
          refine bodyPost_ret (v := .tuple #[.agg #[.int .i64 0, .int .i64 0, .int .i64 0, .int .i64 0, .slice none 0 0], .slice none 0 0, .int .i64 t.pos, .bool false, .int .i64 6]) (by simp [results, Try.results10, go_sem, r0, r1, r2, r3, r4]) rfl ?_
          rw [HRE.out]
          exact ⟨rfl, (set5_below HB14.out (Nat.le_refl _) _ _ _ _ _).drew⟩
        | some tx =>
          have HRE := Lib.hid (show R = .here f.pos n tx st qb t.stop from HRE0.out)
          have HLI := Lib.hid (show Calls Try.prog 27 #[.slice A m cap] V13 (fun e w' => e = .returned (.tuple #[.string ⟨tx.toArray⟩, .bool true]) ∧ Below V13.heap.size V13 w') from HLI0.out)
          have k0 := Lib.cell_of_heap HK13.out 0
          have hksome := 0
          go_wp2_with fail
          refine HLI.out.mono ?_
          rintro e V14 ⟨rfl, hb⟩
          have HL14 := Lib.hid hb
          have HB14 := Lib.hid (HB13.out.trans (hb.mono (by omega)))
          have HR14 := Lib.hid ((hb.block _ (by omega)).trans HR13.out)
          have HT14 := Lib.hid ((hb.block _ (by omega)).trans HT13.out)
          have HN14 := Lib.hid ((hb.block _ hq5s).trans HN13.out)
          have HK14 := Lib.hid ((hb.block _ (by omega)).trans HK13.out)
          have hq3s : q3 < V14.heap.size := by have := hb.size; omega
          clear hb k0
          have k2 := Lib.cell_of_heap HK14.out 2
          go_wp2_with fail
          have HZ := Lib.hid (show Below V14.heap.size V14 (V14.alloc (.cells #[.string ⟨#[]⟩, .bool false, .bool false] 56)).drew from (balloc _ _).drew)
          have HZ0 := Lib.hid (show (V14.alloc (.cells #[.string ⟨#[]⟩, .bool false, .bool false] 56)).drew.heap[V14.heap.size]? = some (.cells #[.string ⟨#[]⟩, .bool false, .bool false] 56 (0, 0)) from al_new V14 _)
          have hqz : V14.heap.size < (V14.alloc (.cells #[.string ⟨#[]⟩, .bool false, .bool false] 56)).drew.heap.size := (Array.getElem?_eq_some_iff.1 HZ0.out).1
          go_cut [22] (fun v wx => ∃ q : Nat, v = .pointer (some ⟨q, 0, none⟩) ∧ V14.heap.size ≤ q ∧ Hid (Below V14.heap.size V14 wx) ∧ Hid (wx.heap[q]? = some (.cells #[.string ⟨tx.toArray⟩, .bool st, .bool qb] 56 (0, 0))))
          case first =>
            go_region_with ((go_at_call 28; first | (refine (HQ.out _ (HL14.out.trans (HZ.out.mono HL14.out.size))).mono ?_; rintro e V15 ⟨rfl, hb⟩; have k2 := Lib.cell_of_heap ((hb.block q3 (Nat.lt_trans hq3s hqz)).trans ((HZ.out.block q3 hq3s).trans HK14.out)) 2; have hz0 := (hb.block _ hqz).trans HZ0.out; have z0 := Lib.frozen_of_heap hz0 0; have z1 := Lib.frozen_of_heap hz0 1; have z2 := Lib.frozen_of_heap hz0 2; have zc0 := Lib.cell_of_heap hz0 0; have zc1 := Lib.cell_of_heap hz0 1; have zc2 := Lib.cell_of_heap hz0 2; clear hz0) | (refine (HQ.out _ HL14.out.drew).mono ?_; rintro e V15 ⟨rfl, hb⟩; have k2 := Lib.cell_of_heap ((hb.block q3 hq3s).trans HK14.out) 2; have hq3v : q3 < V15.heap.size := Nat.lt_of_lt_of_le hq3s hb.size)))
            all_goals (repeat go_step)
            all_goals go_meet
            all_goals first
              | exact ⟨V14.heap.size, rfl, Nat.le_refl _, Lib.hid ((((HZ.out.trans (hb.mono HZ.out.size)).setCell (Nat.le_refl _) _).setCell (Nat.le_refl _) _).setCell (Nat.le_refl _) _), Lib.hid (set3_heap ((hb.block _ hqz).trans HZ0.out) _ _ _)⟩
              | exact ⟨V15.heap.size, rfl, hb.size, Lib.hid (btr (((Below.refl V14.heap.size V14).drew).trans hb) (balloc _ _)), Lib.hid (al_new V15 _)⟩
          case rest =>
            have hkrest := 0
            obtain ⟨q6, rfl, hq6, HBX, HD6⟩ := hcut
            have h14 := HL14.out.size
            have hx := HBX.out.size
            have HRX := Lib.hid ((HBX.out.block _ (by omega)).trans HR14.out)
            have HTX := (HBX.out.block _ (by omega)).trans HT14.out
            have HNX2 := (HBX.out.block _ (by omega)).trans HN14.out
            have hd := HD6.out
            have hq6s : q6 < wc.heap.size := (Array.getElem?_eq_some_iff.1 hd).1
            have hq5s2 : q5 < wc.heap.size := by omega
            have hq4s2 : q4 < wc.heap.size := by omega
            have hqw2 : w.heap.size < wc.heap.size := by omega
            obtain ⟨r0, r1, r2, r3, r4, rf0, rf1, rf2, rf3, rf4⟩ := blkR HRX.out
            obtain ⟨n0, n1, n2, n3, n4, -, -, -, -, -⟩ := blkR HNX2
            obtain ⟨t0, t1, t2, t3, -, -, -, -⟩ := blk4 HTX
            have d0 := Lib.cell_of_heap hd 0
            have d1 := Lib.cell_of_heap hd 1
            have d2 := Lib.cell_of_heap hd 2
            have HBW := Lib.hid (HB14.out.trans (HBX.out.mono (by omega)))
            clear HTX HNX2 hd hx h14 k2
            go_wp2_with fail
            go_region
            obtain ⟨X, hX⟩ : ∃ X, X = (((((wc.setCell ⟨w.heap.size, 0, none⟩ (.int .i64 f.pos)).setCell ⟨w.heap.size, 1, none⟩ (.int .i64 n)).setCell ⟨w.heap.size, 2, none⟩ (.int .i64 8)).setCell ⟨w.heap.size, 3, none⟩ (.int .i64 0)).setCell ⟨w.heap.size, 4, none⟩ (.slice none 0 0)) := ⟨_, rfl⟩
            obtain ⟨Y, hY⟩ : ∃ Y, Y = (X.alloc (.cells #[.string ⟨tx.toArray⟩, .bool st, .bool qb] 56)).drew := ⟨_, rfl⟩
            have hxr : X.heap[w.heap.size]? = some (.cells #[.int .i64 f.pos, .int .i64 n, .int .i64 8, .int .i64 0, .slice none 0 0] 41 (0, 0)) := by rw [hX]; exact set5_heap HRX.out _ _ _ _ _
            have hXB : Below w.heap.size w X := by rw [hX]; exact set5_below HBW.out (Nat.le_refl _) _ _ _ _ _
            have hxs : X.heap.size = wc.heap.size := by rw [hX]; simp
            obtain ⟨qd, hqd⟩ : ∃ qd, qd = wc.heap.size := ⟨_, rfl⟩
            have hyr : Y.heap[w.heap.size]? = some (.cells #[.int .i64 f.pos, .int .i64 n, .int .i64 8, .int .i64 0, .slice none 0 0] 41 (0, 0)) := by rw [hY]; exact ycells hxr (balloc _ _).drew
            have HYB := Lib.hid (show Below w.heap.size w Y by rw [hY]; exact (btr hXB (balloc _ _)).drew)
            have HYD := Lib.hid (show Y.heap[qd]? = some (.cells #[.string ⟨tx.toArray⟩, .bool st, .bool qb] 56 (0, 0)) by rw [hY]; exact (show (X.alloc _).heap[qd]? = _ from al_new' X _ qd (by omega)))
            have HQD := Lib.hid (show w.heap.size ≤ qd by rw [hqd]; exact HBW.out.size)
            rw [← hX, ← hY, ← hqd]
            clear r0 r1 r2 r3 r4 hX hY hqd hxs
            obtain ⟨y0, y1, y2, y3, y4, -, -, -, -, -⟩ := blkR hyr
            repeat go_step
            refine bodyPost_ret (v := .tuple #[.agg #[.int .i64 f.pos, .int .i64 n, .int .i64 8, .int .i64 0, .slice none 0 0], .slice (some ⟨qd, 0, none⟩) 1 1, .int .i64 t.stop, .bool true, .int .i64 0]) (by simp [results, Try.results10, go_sem, y0, y1, y2, y3, y4]) rfl ?_
            rw [HRE.out]
            exact ⟨qd, rfl, HYB.out, HQD.out, HYD.out⟩
end W
end Go.Proofs.Ytlhijlmbfjlglaa
