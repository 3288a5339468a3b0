/- Words: literal, flush, add of the scope. -/
import Derived.Test.YtmgomklpjjkehaaGreatW08a
namespace Go.Proofs.YtmgomklpjjkehaaGreat
open Go.RowKit K
namespace W
set_option maxRecDepth 100000 in
set_option maxHeartbeats 2000000 in
theorem literal_sc {W : World} {g a : Nat} {s : List UInt8} {pl : Int} {op : Bool} {lv opn dep : Int} {tb : List UInt8} {n : Nat} {lc : List Value} (c : UInt8) (m : Nat) (h : Sc W g s a pl op lv opn dep tb n lc) (hl : tb.length ≤ 100000) (ha : a ≤ 100000) (hm : m ≤ 10) :
    Calls Tryz.prog 64 #[.pointer (some ⟨g, 0, none⟩), .int .u8 c.toNat, .int .i64 m] W fun e W' => e = .returned (.tuple #[]) ∧ Sc W' g s (a + m) pl op lv opn dep (tb ++ [c]) n lc ∧ Fr g W W' := by
  obtain ⟨tx, ls, hb, ht, hls⟩ := h
  obtain ⟨i0, hi, hz0, hz1, hz2⟩ := info_parts infoByte
  obtain ⟨A, cap, rfl⟩ := row_val ht
  have HB := Lib.hid hb
  have HLS := Lib.hid hls
  have HT := Lib.hid ht
  have hlt := hb.lt
  obtain ⟨c0, c1, -, -, -, -, -, c7, c8⟩ := hb.cells
  have f1 := hb.thaw 1
  have f7 := hb.thaw 7
  have hbl : (Lib.byteCells tb).length ≤ 100000 := by rw [Lib.byteCells_length]; omega
  obtain ⟨ci, hci⟩ : ∃ ci : Int, ci = (c.toNat : Int) := ⟨_, rfl⟩
  have HCI := Lib.hid hci
  rw [← hci]
  clear hb hls ht hci
  go_enter Tryz.func64, Tryz.ntmps64
  go_wp2_with (at_builtin; refine wpList_append_own_at _ rfl _ _ 48 rfl (g + 1) 5 i0 (.int .u8 0) 1 1 Tryz.underlying48 hi hz0 hz1 hz2 rfl (by decide) _ _ _ rfl (HT.out.alloc _) ⟨W.heap.size, 0, none⟩ 1 1 [.int .u8 ci] rfl rfl (one_cells W _ _) (by intro u hu; simp at hu; subst hu; rfl) (by unfold maxLen; omega) (by omega) (by simp; omega) ?_)
  intro v' w2 hown' hgrow _ hwhere
  have hb2 : SB w2 g s a pl op lv opn dep (.slice A tb.length cap) ls := HB.out.kept (by
    rw [hgrow.block g (by simp; omega) (fun e => by have := (HT.out.lt g e.symm).1; omega)]
    exact (balloc W _).block g hlt)
  have hls2 : w2.ownsRow (g + 1) 38 5 ls n lc := row_grown (HLS.out.alloc _) hgrow (fun r hr => rows_apart HT.out HLS.out (by decide) r hr)
  obtain ⟨A', cap', rfl⟩ := row_val hown'
  obtain ⟨e0, e1, -, -, -, -, -, e7, e8⟩ := hb2.cells
  have k1 := hb2.thaw 1
  have k7 := hb2.thaw 7
  have HB2 := Lib.hid hb2
  have HL2 := Lib.hid hls2
  have HO2 := Lib.hid hown'
  have HBB := Lib.hid (show Below g W w2 from ((Below.refl g W).alloc (by omega) _).grown hgrow (by simp; omega) (fun k hk => by have := (HT.out.lt k hk).1; omega))
  have HKP := Lib.hid (show ∀ k, k < W.heap.size → k ≠ g → (Value.slice A tb.length cap).ownBlock ≠ some k → ls.ownBlock ≠ some k → w2.heap[k]? = W.heap[k]? from fun k h1 _ h3 _ => by
    rw [hgrow.block k (by simp; omega) (fun e => h3 e.symm)]
    exact (balloc W _).block k h1)
  have HWH := Lib.hid (show ∀ r, (Value.slice A' (tb.length + 1) cap').ownBlock = some r → (Value.slice A tb.length cap).ownBlock = some r ∨ W.heap.size ≤ r from fun r hr => by
    rcases hwhere with h | h
    · exact .inl (h ▸ hr)
    · rw [h] at hr; injection hr with hr; right; rw [← hr]; simp)
  clear hb2 hls2 hown' hgrow hwhere
  go_wp2
  go_end0
  have hfb := (HB2.out.setTx (.slice A' (tb.length + 1) cap')).setAt ((a : Int) + (m : Int)) (a + m) (by omega)
  refine ⟨rfl, ⟨_, _, hfb, ?_, row_set (row_set HL2.out (by simp) _) (by simp) _⟩, Fr.mk' HB.out hfb ((HBB.out.setCell (by simp) _).setCell (by simp) _) (fun k h1 h2 h3 h4 => ?_) HWH.out (fun r hr => .inl hr)⟩
  · have := HO2.out
    rw [show (tb ++ [c]).length = tb.length + 1 by simp, show Lib.byteCells (tb ++ [c]) = Lib.byteCells tb ++ [.int .u8 ci] by rw [Lib.byteCells_append, HCI.out]; rfl]
    exact row_set (row_set this (by simp) _) (by simp) _
  · exact (Below.heap_setCell _ _ _ k (by dsimp only; exact h2)).trans ((Below.heap_setCell _ _ _ k (by dsimp only; exact h2)).trans (HKP.out k h1 h2 h3 h4))
theorem literal_any {W : World} {g : Nat} {c : WP.Ctx} {st : WP.St} (b : UInt8) (m : Nat) (h : ScP W g c st) (hl : st.tx.length ≤ 100000) (ha : st.a ≤ 100000) (hm : m ≤ 10) :
    Calls Tryz.prog 64 #[.pointer (some ⟨g, 0, none⟩), .int .u8 b.toNat, .int .i64 m] W fun e W' => e = .returned (.tuple #[]) ∧ ScP W' g c (WP.lit b m st) ∧ Fr g W W' := by
  obtain ⟨lc, h1, h2⟩ := h
  exact (literal_sc b m h1 hl ha hm).mono fun e W' ⟨he, hs, hf⟩ => ⟨he, ⟨lc, hs, h2.fr hf⟩, hf⟩
set_option maxHeartbeats 1000000 in
theorem flush_nil {V : World} {g a : Nat} {s : List UInt8} {pl : Int} {op : Bool} {lv opn dep : Int} {n : Nat} {lc : List Value} (hV : Sc V g s a pl op lv opn dep [] n lc) :
    Calls Tryz.prog 48 #[.pointer (some ⟨g, 0, none⟩)] V fun e V' => e = .returned (.tuple #[]) ∧ Sc V' g s a pl op lv opn dep [] n lc ∧ Fr g V V' := by
  have HV := Lib.hid hV
  obtain ⟨tx, ls, hb, ht, hls⟩ := hV
  obtain ⟨A, cap, rfl⟩ := row_val ht
  obtain ⟨c0, -, -, -, -, -, -, c7, c8⟩ := hb.cells
  clear hb ht hls
  go_enter Tryz.func48, Tryz.ntmps48
  go_wp2
  go_end0
  exact ⟨rfl, HV.out, Fr.refl _ _⟩
theorem set_same_of {w : World} {g o : Nat} {v u : Value} (h : w.cell? ⟨g, o, none⟩ = some v) : (w.setCell ⟨g, o, none⟩ u).cell? ⟨g, o, none⟩ = some u := World.cell?_setCell_same w _ u h
theorem set_far (w : World) {g r o o' : Nat} {u : Value} (h : ¬ g = r) : (w.setCell ⟨r, o, none⟩ u).cell? ⟨g, o', none⟩ = w.cell? ⟨g, o', none⟩ :=
  World.cell?_setCell_other w _ _ u (fun e => h (congrArg Addr.block e).symm)
theorem cell8_one (w : World) (g r m : Nat) (l y0 y1 y2 y3 y4 v : Value) (h : w.cell? ⟨g, 8, none⟩ = some v) (hgr : ¬ g = r) :
    ((((((w.setCell ⟨r, m, none⟩ y0).setCell ⟨r, m + 1, none⟩ y1).setCell ⟨r, m + 2, none⟩ y2).setCell ⟨r, m + 3, none⟩ y3).setCell ⟨r, m + 4, none⟩ y4).setCell ⟨g, 8, none⟩ l).cell? ⟨g, 8, none⟩ = some l := by
  refine set_same_of (v := v) ?_
  rw [set_far _ hgr, set_far _ hgr, set_far _ hgr, set_far _ hgr, set_far _ hgr]
  exact h
theorem cell8_two (w : World) (g r m : Nat) (l y0 y1 y2 y3 y4 v : Value) (h : w.cell? ⟨g, 8, none⟩ = some v) (hgr : ¬ g = r) :
    ((((((w.setCell ⟨g, 8, none⟩ l).setCell ⟨r, m, none⟩ y0).setCell ⟨r, m + 1, none⟩ y1).setCell ⟨r, m + 2, none⟩ y2).setCell ⟨r, m + 3, none⟩ y3).setCell ⟨r, m + 4, none⟩ y4).cell? ⟨g, 8, none⟩ = some l := by
  rw [set_far _ hgr, set_far _ hgr, set_far _ hgr, set_far _ hgr, set_far _ hgr]
  exact set_same_of h
set_option maxRecDepth 100000 in
set_option maxHeartbeats 8000000 in
theorem flush_text {V : World} {g a : Nat} {s : List UInt8} {pl : Int} {op : Bool} {lv opn dep : Int} {tb : List UInt8} {n : Nat} {lc : List Value} (h : Sc V g s a pl op lv opn dep tb n lc) (hne : tb ≠ []) (hn : n ≤ 100000) :
    Calls Tryz.prog 48 #[.pointer (some ⟨g, 0, none⟩)] V fun e V' => e = .returned (.tuple #[]) ∧ Sc V' g s a pl op lv opn dep [] (n + 1) (lc ++ pc 1 tb 0 false (.slice none 0 0)) ∧ Fr g V V' := by
  obtain ⟨i0, hi, hz0, hz1, hz2⟩ := info_parts infoPart
  obtain ⟨tx, ls, hb, ht, hls⟩ := h
  obtain ⟨lA, lcap, rfl⟩ := row_val hls
  obtain ⟨q, tcap, rfl⟩ : ∃ q tcap, tx = .slice (some ⟨q, 0, none⟩) tb.length tcap := by
    rcases ht.2 with ⟨_, h2⟩ | ⟨q, cap, cur, hv, _⟩
    · exact absurd (List.eq_nil_of_length_eq_zero h2) hne
    · exact ⟨q, cap, hv⟩
  have HT := Lib.hid ht
  have HL := Lib.hid hls
  have q1 : g < V.heap.size := hb.lt
  have hcv : ∀ U : World, Below V.heap.size V U → (convert 48 9 (.slice (some ⟨q, 0, none⟩) tb.length tcap)).run Tryz.prog U = .ok (.string ⟨tb.toArray⟩) U := fun U hU =>
    run_convert_bytes_back (P := Tryz.prog) U 48 9 5 ⟨q, 0, none⟩ tcap tb Tryz.underlying48 Tryz.underlying5 Tryz.underlying9 (fun j hj => (row_below HT.out hU).cells (g := q) rfl j _ (by simp [Lib.byteCells, hj]))
  have hcv1 := hcv V.drew (Below.refl _ _).drew
  have hcv2 := hcv ((V.alloc (.cells #[.int .i64 0, .string ⟨#[]⟩, .int .i64 0, .bool false, .slice none 0 0] 38)).drew) ((Below.refl _ _).alloc (Nat.le_refl _) _).drew
  obtain ⟨v3, w3, hrun, hown3, hgrow3, -, hwhere⟩ := run_append_own_at (P := Tryz.prog) ((V.alloc (.cells #[.int .i64 0, .string ⟨#[]⟩, .int .i64 0, .bool false, .slice none 0 0] 38)).drew) (g + 1) 22 22 38 i0 _ 5 64 Tryz.underlying22 hi hz0 hz1 hz2 rfl (by decide) (.slice lA n lcap) n lc (row_below HL.out ((Below.refl _ _).alloc (Nat.le_refl _) _).drew) ⟨V.heap.size, 0, none⟩ 1 1 zeroP rfl (five_cells V _) five_one (by unfold maxLen; omega) (by omega) (by simp; omega)
  obtain ⟨r, cap3, rfl, hr1, hr2, hr3, z0, z1, z2, z3, z4, -⟩ := row_last HL.out.1 hown3
  have hrk : (Value.slice lA n lcap).ownBlock = some r ∨ V.heap.size ≤ r := by
    rcases hwhere with h1 | h1
    · exact .inl (by rw [← h1]; rfl)
    · have : r = V.heap.size + 1 := by simpa [Value.ownBlock] using h1
      exact .inr (by omega)
  have hb3 : SB w3 g s a pl op lv opn dep (.slice (some ⟨q, 0, none⟩) tb.length tcap) (.slice lA n lcap) := hb.kept (by
    rw [hgrow3.block g (by simp; omega) (fun e => by have := (HL.out.lt g e.symm).1; omega)]
    exact ((Below.refl V.heap.size V).alloc (Nat.le_refl _) _).block g q1)
  have ht3 : w3.ownsRow (g + 1) 5 1 (.slice (some ⟨q, 0, none⟩) tb.length tcap) tb.length (Lib.byteCells tb) := row_grown (row_below HT.out (((Below.refl _ _).alloc (Nat.le_refl _) _).drew)) hgrow3 (fun r hr => by
      intro hr'
      exact rows_apart HT.out HL.out (by decide) r hr' hr)
  have hBB : Below g V w3 := (((Below.refl g V).alloc (by omega) _).drew).grown hgrow3 (by simp; omega) (fun k hk => by have := (HL.out.lt k hk).1; omega)
  have hkp : ∀ k, k < V.heap.size → k ≠ g → (Value.slice (some ⟨q, 0, none⟩) tb.length tcap).ownBlock ≠ some k → (Value.slice lA n lcap).ownBlock ≠ some k → w3.heap[k]? = V.heap[k]? := fun k h2 _ _ h1 => by
    rw [hgrow3.block k (by simp; omega) (fun e => h1 e.symm)]
    exact ((Below.refl V.heap.size V).alloc (Nat.le_refl _) _).block k h2
  have hst : ∀ (U : World) (o : Nat) (y : Value) (k : Nat), k < V.heap.size → (Value.slice lA n lcap).ownBlock ≠ some k → (U.setCell ⟨r, o, none⟩ y).heap[k]? = U.heap[k]? := fun U o y k h1 h2 => Below.heap_setCell U _ _ k (by dsimp only; rintro rfl; rcases hrk with h | h; exact h2 h; omega)
  have hsg : ∀ (U : World) (o : Nat) (y : Value) (k : Nat), k ≠ g → (U.setCell ⟨g, o, none⟩ y).heap[k]? = U.heap[k]? := fun U o y k h1 => Below.heap_setCell U _ _ k (by dsimp only; exact h1)
  have HF1 := Lib.hid (add_one hb3 ht3 HL.out.1 hown3 hBB (.int .i64 1) (.string ⟨tb.toArray⟩) (.int .i64 0) (.bool false) (.slice none 0 0))
  have HF2 := Lib.hid (add_two hb3 ht3 HL.out.1 hown3 hBB (.int .i64 1) (.string ⟨tb.toArray⟩) (.int .i64 0) (.bool false) (.slice none 0 0))
  have HK1 := Lib.hid (show ∀ k, k < V.heap.size → k ≠ g → (Value.slice (some ⟨q, 0, none⟩) tb.length tcap).ownBlock ≠ some k → (Value.slice lA n lcap).ownBlock ≠ some k → ((((((w3.setCell ⟨r, n * 5, none⟩ (.int .i64 1)).setCell ⟨r, n * 5 + 1, none⟩ (.string ⟨tb.toArray⟩)).setCell ⟨r, n * 5 + 2, none⟩ (.int .i64 0)).setCell ⟨r, n * 5 + 3, none⟩ (.bool false)).setCell ⟨r, n * 5 + 4, none⟩ (.slice none 0 0)).setCell ⟨g, 8, none⟩ (.slice (some ⟨r, 0, none⟩) (n + 1) cap3)).heap[k]? = V.heap[k]? from fun k h1 h2 h3 h4 => (hsg _ _ _ k h2).trans ((hst _ _ _ k h1 h4).trans ((hst _ _ _ k h1 h4).trans ((hst _ _ _ k h1 h4).trans ((hst _ _ _ k h1 h4).trans ((hst _ _ _ k h1 h4).trans (hkp k h1 h2 h3 h4)))))))
  have HK2 := Lib.hid (show ∀ k, k < V.heap.size → k ≠ g → (Value.slice (some ⟨q, 0, none⟩) tb.length tcap).ownBlock ≠ some k → (Value.slice lA n lcap).ownBlock ≠ some k → ((((((w3.setCell ⟨g, 8, none⟩ (.slice (some ⟨r, 0, none⟩) (n + 1) cap3)).setCell ⟨r, n * 5, none⟩ (.int .i64 1)).setCell ⟨r, n * 5 + 1, none⟩ (.string ⟨tb.toArray⟩)).setCell ⟨r, n * 5 + 2, none⟩ (.int .i64 0)).setCell ⟨r, n * 5 + 3, none⟩ (.bool false)).setCell ⟨r, n * 5 + 4, none⟩ (.slice none 0 0)).heap[k]? = V.heap[k]? from fun k h1 h2 h3 h4 => (hst _ _ _ k h1 h4).trans ((hst _ _ _ k h1 h4).trans ((hst _ _ _ k h1 h4).trans ((hst _ _ _ k h1 h4).trans ((hst _ _ _ k h1 h4).trans ((hsg _ _ _ k h2).trans (hkp k h1 h2 h3 h4)))))))
  have HBV := Lib.hid hb
  have HRK := Lib.hid hrk
  obtain ⟨c0, -, -, -, -, -, -, c7, c8⟩ := hb.cells
  have f8 := hb.thaw 8
  have f7 := hb.thaw 7
  obtain ⟨e0, -, -, -, -, -, -, e7, e8⟩ := hb3.cells
  have t7 := hb3.thaw 7
  have t8 := hb3.thaw 8
  have hrg : ¬ r = g := by omega
  have hgr : ¬ g = r := by omega
  have hrf := hr3 (n * 5)
  have hrf1 := hr3 (n * 5 + 1)
  have hrf2 := hr3 (n * 5 + 2)
  have hrf3 := hr3 (n * 5 + 3)
  have hrf4 := hr3 (n * 5 + 4)
  have HRUN := Lib.hid hrun
  have n0' : (0 : Int) ≤ (n : Int) := by omega
  have n1 : ((n : Int) < (n : Int) + 1) = True := eq_true (by omega)
  have tl : (0 < tb.length) = True := eq_true (List.length_pos_iff.2 hne)
  clear hb ht hls hrun hown3 hgrow3 hr3 hb3 ht3 hBB hwhere hst hsg hkp hcv hne hrk
  go_enter Tryz.func48, Tryz.ntmps48
  go_wp2_with fail
  apply merge8
  case h =>
    intro hrest
    apply merge8
    case h =>
      intro hrest2
      go_region_law (refine step_append_eq8 rfl _ _ 22 rfl 22 rfl _ _ rfl rfl HRUN.out ?_)
      all_goals first | (with_reducible exact hrest.out) | (with_reducible exact hrest2.out)
    case g =>
      have hfin := And.intro HF2.out HK2.out
      have hy8 := cell8_two w3 g r (n * 5) (.slice (some ⟨r, 0, none⟩) (n + 1) cap3) (.int .i64 1) (.string ⟨tb.toArray⟩) (.int .i64 0) (.bool false) (.slice none 0 0) _ e8 hgr
      clear HF1 HF2 HK1 HK2
      generalize ((((((w3.setCell ⟨g, 8, none⟩ (.slice (some ⟨r, 0, none⟩) (n + 1) cap3)).setCell ⟨r, n * 5, none⟩ (.int .i64 1)).setCell ⟨r, n * 5 + 1, none⟩ (.string ⟨tb.toArray⟩)).setCell ⟨r, n * 5 + 2, none⟩ (.int .i64 0)).setCell ⟨r, n * 5 + 3, none⟩ (.bool false)).setCell ⟨r, n * 5 + 4, none⟩ (.slice none 0 0)) = Y at hfin hy8 ⊢
      have HY := Lib.hid hfin
      have HY8 := Lib.hid hy8
      clear hy8
      obtain ⟨⟨⟨ty, ly, hby, -, -⟩, -⟩, -⟩ := hfin
      obtain ⟨-, -, -, -, -, -, -, g7, -⟩ := hby.cells
      have i7 := hby.thaw 7
      clear hby e0 e7 e8 t7 t8 z0 z1 z2 z3 z4 hrf hrf1 hrf2 hrf3 hrf4 c0 c7 c8 f7 f8
      go_wp2
      go_end0
      obtain ⟨⟨ty', ly', hby', hty', hly'⟩, hbl'⟩ := HY.out.1
      refine ⟨rfl, HY.out.1.1.clear, Fr.mk' HBV.out (hby'.setTx _) (hbl'.setCell (by simp) _) (fun k h1 h2 h3 h4 => (Below.heap_setCell Y _ _ k (by dsimp only; exact h2)).trans (HY.out.2 k h1 h2 h3 h4)) (fun r' hr' => by simp [Value.ownBlock] at hr') (fun r' hr' => ?_)⟩
      obtain rfl := HY8.out.symm.trans hby'.cells.2.2.2.2.2.2.2.2 |> Option.some.inj
      have e' : r = r' := by simpa [Value.ownBlock] using hr'
      subst e'
      exact HRK.out
  case g =>
    have hfin := And.intro HF1.out HK1.out
    have hy8 := cell8_one w3 g r (n * 5) (.slice (some ⟨r, 0, none⟩) (n + 1) cap3) (.int .i64 1) (.string ⟨tb.toArray⟩) (.int .i64 0) (.bool false) (.slice none 0 0) _ e8 hgr
    clear HF1 HF2 HK1 HK2
    generalize ((((((w3.setCell ⟨r, n * 5, none⟩ (.int .i64 1)).setCell ⟨r, n * 5 + 1, none⟩ (.string ⟨tb.toArray⟩)).setCell ⟨r, n * 5 + 2, none⟩ (.int .i64 0)).setCell ⟨r, n * 5 + 3, none⟩ (.bool false)).setCell ⟨r, n * 5 + 4, none⟩ (.slice none 0 0)).setCell ⟨g, 8, none⟩ (.slice (some ⟨r, 0, none⟩) (n + 1) cap3)) = Y at hfin hy8 ⊢
    have HY := Lib.hid hfin
    have HY8 := Lib.hid hy8
    clear hy8
    obtain ⟨⟨⟨ty, ly, hby, -, -⟩, -⟩, -⟩ := hfin
    obtain ⟨-, -, -, -, -, -, -, g7, -⟩ := hby.cells
    have i7 := hby.thaw 7
    clear hby e0 e7 e8 t7 t8 z0 z1 z2 z3 z4 hrf hrf1 hrf2 hrf3 hrf4 c0 c7 c8 f7 f8
    go_wp2
    go_end0
    obtain ⟨⟨ty', ly', hby', hty', hly'⟩, hbl'⟩ := HY.out.1
    refine ⟨rfl, HY.out.1.1.clear, Fr.mk' HBV.out (hby'.setTx _) (hbl'.setCell (by simp) _) (fun k h1 h2 h3 h4 => (Below.heap_setCell Y _ _ k (by dsimp only; exact h2)).trans (HY.out.2 k h1 h2 h3 h4)) (fun r' hr' => by simp [Value.ownBlock] at hr') (fun r' hr' => ?_)⟩
    obtain rfl := HY8.out.symm.trans hby'.cells.2.2.2.2.2.2.2.2 |> Option.some.inj
    have e' : r = r' := by simpa [Value.ownBlock] using hr'
    subst e'
    exact HRK.out
end W
end Go.Proofs.YtmgomklpjjkehaaGreat
