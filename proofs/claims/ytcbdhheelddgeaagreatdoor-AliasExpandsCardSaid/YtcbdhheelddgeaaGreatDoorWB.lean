/- Several texts in one: W08b W08c W08d. -/
import Derived.Test.YtcbdhheelddgeaaGreatDoorW08a
import Derived.WalkLawsBesides
namespace Go.Proofs.YtcbdhheelddgeaaGreatDoor
open Go.RowKit K
namespace W
set_option maxRecDepth 100000 in
set_option maxHeartbeats 2000000 in
theorem literal_sc {W : World} {g a : Nat} {s : List UInt8} {pl : Int} {op : Bool} {lv opn dep : Int} {tb : List UInt8} {n : Nat} {lc : List Value} (c : UInt8) (m : Nat) (h : Sc W g s a pl op lv opn dep tb n lc) (hl : tb.length ≤ 100000) (ha : a ≤ 100000) (hm : m ≤ 10) :
    Calls Tryz.prog 158 #[.pointer (some ⟨g, 0, none⟩), .int .u8 c.toNat, .int .i64 m] W fun e W' => e = .returned (.tuple #[]) ∧ Sc W' g s (a + m) pl op lv opn dep (tb ++ [c]) n lc ∧ Fr g W W' := by
  obtain ⟨tx, ls, hb, ht, hls⟩ := h
  obtain ⟨i0, hi, hz0, hz1, hz2⟩ := info_parts infoByte
  obtain ⟨A, cap, rfl⟩ := row_val ht
  have HB := Lib.hid hb
  have HLS := Lib.hid hls
  have HT := Lib.hid ht
  have hlt := hb.lt
  obtain ⟨c0, c1, -, -, -, -, -, c7, c8⟩ := hb.cells
  have f1 := hb.thaw 1
  have f7 := hb.thaw 7
  have hbl : (Lib.byteCells tb).length ≤ 100000 := by rw [Lib.byteCells_length]; omega
  obtain ⟨ci, hci⟩ : ∃ ci : Int, ci = (c.toNat : Int) := ⟨_, rfl⟩
  have HCI := Lib.hid hci
  rw [← hci]
  clear hb hls ht hci
  go_enter Tryz.func158, Tryz.ntmps158
  go_wp2_with (at_builtin; refine wpList_append_own_at _ rfl _ _ 122 rfl (g + 1) 5 i0 (.int .u8 0) 1 1 Tryz.underlying122 hi hz0 hz1 hz2 rfl (by decide) _ _ _ rfl (HT.out.alloc _) ⟨W.heap.size, 0, none⟩ 1 1 [.int .u8 ci] rfl rfl (one_cells W _ _) (by intro u hu; simp at hu; subst hu; rfl) (by unfold maxLen; omega) (by omega) (by simp; omega) ?_)
  intro v' w2 hown' hgrow _ hwhere
  have hb2 : SB w2 g s a pl op lv opn dep (.slice A tb.length cap) ls := HB.out.kept (by
    rw [hgrow.block g (by simp; omega) (fun e => by have := (HT.out.lt g e.symm).1; omega)]
    exact (balloc W _).block g hlt)
  have hls2 : w2.ownsRow (g + 1) 126 5 ls n lc := row_grown (HLS.out.alloc _) hgrow (fun r hr => rows_apart HT.out HLS.out (by decide) r hr)
  obtain ⟨A', cap', rfl⟩ := row_val hown'
  obtain ⟨e0, e1, -, -, -, -, -, e7, e8⟩ := hb2.cells
  have k1 := hb2.thaw 1
  have k7 := hb2.thaw 7
  have HB2 := Lib.hid hb2
  have HL2 := Lib.hid hls2
  have HO2 := Lib.hid hown'
  have HBB := Lib.hid (show Below g W w2 from ((Below.refl g W).alloc (by omega) _).grown hgrow (by simp; omega) (fun k hk => by have := (HT.out.lt k hk).1; omega))
  have HKP := Lib.hid (show ∀ k, k < W.heap.size → k ≠ g → (Value.slice A tb.length cap).ownBlock ≠ some k → ls.ownBlock ≠ some k → w2.heap[k]? = W.heap[k]? from fun k h1 _ h3 _ => by
    rw [hgrow.block k (by simp; omega) (fun e => h3 e.symm)]
    exact (balloc W _).block k h1)
  have HWH := Lib.hid (show ∀ r, (Value.slice A' (tb.length + 1) cap').ownBlock = some r → (Value.slice A tb.length cap).ownBlock = some r ∨ W.heap.size ≤ r from fun r hr => by
    rcases hwhere with h | h
    · exact .inl (h ▸ hr)
    · rw [h] at hr; injection hr with hr; right; rw [← hr]; simp)
  clear hb2 hls2 hown' hgrow hwhere
  go_wp2
  go_end0
  have hfb := (HB2.out.setTx (.slice A' (tb.length + 1) cap')).setAt ((a : Int) + (m : Int)) (a + m) (by omega)
  refine ⟨rfl, ⟨_, _, hfb, ?_, row_set (row_set HL2.out (by simp) _) (by simp) _⟩, Fr.mk' HB.out hfb ((HBB.out.setCell (by simp) _).setCell (by simp) _) (fun k h1 h2 h3 h4 => ?_) HWH.out (fun r hr => .inl hr)⟩
  · have := HO2.out
    rw [show (tb ++ [c]).length = tb.length + 1 by simp, show Lib.byteCells (tb ++ [c]) = Lib.byteCells tb ++ [.int .u8 ci] by rw [Lib.byteCells_append, HCI.out]; rfl]
    exact row_set (row_set this (by simp) _) (by simp) _
  · exact (Below.heap_setCell _ _ _ k (by dsimp only; exact h2)).trans ((Below.heap_setCell _ _ _ k (by dsimp only; exact h2)).trans (HKP.out k h1 h2 h3 h4))
theorem literal_any {W : World} {g : Nat} {c : WP.Ctx} {st : WP.St} (b : UInt8) (m : Nat) (h : ScP W g c st) (hl : st.tx.length ≤ 100000) (ha : st.a ≤ 100000) (hm : m ≤ 10) :
    Calls Tryz.prog 158 #[.pointer (some ⟨g, 0, none⟩), .int .u8 b.toNat, .int .i64 m] W fun e W' => e = .returned (.tuple #[]) ∧ ScP W' g c (WP.lit b m st) ∧ Fr g W W' := by
  obtain ⟨lc, h1, h2⟩ := h
  exact (literal_sc b m h1 hl ha hm).mono fun e W' ⟨he, hs, hf⟩ => ⟨he, ⟨lc, hs, h2.fr hf⟩, hf⟩
set_option maxHeartbeats 1000000 in
theorem flush_nil {V : World} {g a : Nat} {s : List UInt8} {pl : Int} {op : Bool} {lv opn dep : Int} {n : Nat} {lc : List Value} (hV : Sc V g s a pl op lv opn dep [] n lc) :
    Calls Tryz.prog 138 #[.pointer (some ⟨g, 0, none⟩)] V fun e V' => e = .returned (.tuple #[]) ∧ Sc V' g s a pl op lv opn dep [] n lc ∧ Fr g V V' := by
  have HV := Lib.hid hV
  obtain ⟨tx, ls, hb, ht, hls⟩ := hV
  obtain ⟨A, cap, rfl⟩ := row_val ht
  obtain ⟨c0, -, -, -, -, -, -, c7, c8⟩ := hb.cells
  clear hb ht hls
  go_enter Tryz.func138, Tryz.ntmps138
  go_wp2
  go_end0
  exact ⟨rfl, HV.out, Fr.refl _ _⟩
theorem set_same_of {w : World} {g o : Nat} {v u : Value} (h : w.cell? ⟨g, o, none⟩ = some v) : (w.setCell ⟨g, o, none⟩ u).cell? ⟨g, o, none⟩ = some u := World.cell?_setCell_same w _ u h
theorem set_far (w : World) {g r o o' : Nat} {u : Value} (h : ¬ g = r) : (w.setCell ⟨r, o, none⟩ u).cell? ⟨g, o', none⟩ = w.cell? ⟨g, o', none⟩ :=
  World.cell?_setCell_other w _ _ u (fun e => h (congrArg Addr.block e).symm)
theorem cell8_one (w : World) (g r m : Nat) (l y0 y1 y2 y3 y4 v : Value) (h : w.cell? ⟨g, 8, none⟩ = some v) (hgr : ¬ g = r) :
    ((((((w.setCell ⟨r, m, none⟩ y0).setCell ⟨r, m + 1, none⟩ y1).setCell ⟨r, m + 2, none⟩ y2).setCell ⟨r, m + 3, none⟩ y3).setCell ⟨r, m + 4, none⟩ y4).setCell ⟨g, 8, none⟩ l).cell? ⟨g, 8, none⟩ = some l := by
  refine set_same_of (v := v) ?_
  rw [set_far _ hgr, set_far _ hgr, set_far _ hgr, set_far _ hgr, set_far _ hgr]
  exact h
theorem cell8_two (w : World) (g r m : Nat) (l y0 y1 y2 y3 y4 v : Value) (h : w.cell? ⟨g, 8, none⟩ = some v) (hgr : ¬ g = r) :
    ((((((w.setCell ⟨g, 8, none⟩ l).setCell ⟨r, m, none⟩ y0).setCell ⟨r, m + 1, none⟩ y1).setCell ⟨r, m + 2, none⟩ y2).setCell ⟨r, m + 3, none⟩ y3).setCell ⟨r, m + 4, none⟩ y4).cell? ⟨g, 8, none⟩ = some l := by
  rw [set_far _ hgr, set_far _ hgr, set_far _ hgr, set_far _ hgr, set_far _ hgr]
  exact set_same_of h
set_option maxRecDepth 100000 in
set_option maxHeartbeats 8000000 in
theorem flush_text {V : World} {g a : Nat} {s : List UInt8} {pl : Int} {op : Bool} {lv opn dep : Int} {tb : List UInt8} {n : Nat} {lc : List Value} (h : Sc V g s a pl op lv opn dep tb n lc) (hne : tb ≠ []) (hn : n ≤ 100000) :
    Calls Tryz.prog 138 #[.pointer (some ⟨g, 0, none⟩)] V fun e V' => e = .returned (.tuple #[]) ∧ Sc V' g s a pl op lv opn dep [] (n + 1) (lc ++ pc 1 tb 0 false (.slice none 0 0)) ∧ Fr g V V' := by
  obtain ⟨i0, hi, hz0, hz1, hz2⟩ := info_parts infoPart
  obtain ⟨tx, ls, hb, ht, hls⟩ := h
  obtain ⟨lA, lcap, rfl⟩ := row_val hls
  obtain ⟨q, tcap, rfl⟩ : ∃ q tcap, tx = .slice (some ⟨q, 0, none⟩) tb.length tcap := by
    rcases ht.2 with ⟨_, h2⟩ | ⟨q, cap, cur, hv, _⟩
    · exact absurd (List.eq_nil_of_length_eq_zero h2) hne
    · exact ⟨q, cap, hv⟩
  have HT := Lib.hid ht
  have HL := Lib.hid hls
  have q1 : g < V.heap.size := hb.lt
  have hcv : ∀ U : World, Below V.heap.size V U → (convert 122 9 (.slice (some ⟨q, 0, none⟩) tb.length tcap)).run Tryz.prog U = .ok (.string ⟨tb.toArray⟩) U := fun U hU =>
    run_convert_bytes_back (P := Tryz.prog) U 122 9 5 ⟨q, 0, none⟩ tcap tb Tryz.underlying122 Tryz.underlying5 Tryz.underlying9 (fun j hj => (row_below HT.out hU).cells (g := q) rfl j _ (by simp [Lib.byteCells, hj]))
  have hcv1 := hcv V.drew (Below.refl _ _).drew
  have hcv2 := hcv ((V.alloc (.cells #[.int .i64 0, .string ⟨#[]⟩, .int .i64 0, .bool false, .slice none 0 0] 126)).drew) ((Below.refl _ _).alloc (Nat.le_refl _) _).drew
  obtain ⟨v3, w3, hrun, hown3, hgrow3, -, hwhere⟩ := run_append_own_at (P := Tryz.prog) ((V.alloc (.cells #[.int .i64 0, .string ⟨#[]⟩, .int .i64 0, .bool false, .slice none 0 0] 126)).drew) (g + 1) 102 102 126 i0 _ 5 64 Tryz.underlying102 hi hz0 hz1 hz2 rfl (by decide) (.slice lA n lcap) n lc (row_below HL.out ((Below.refl _ _).alloc (Nat.le_refl _) _).drew) ⟨V.heap.size, 0, none⟩ 1 1 zeroP rfl (five_cells V _) five_one (by unfold maxLen; omega) (by omega) (by simp; omega)
  obtain ⟨r, cap3, rfl, hr1, hr2, hr3, z0, z1, z2, z3, z4, -⟩ := row_last HL.out.1 hown3
  have hrk : (Value.slice lA n lcap).ownBlock = some r ∨ V.heap.size ≤ r := by
    rcases hwhere with h1 | h1
    · exact .inl (by rw [← h1]; rfl)
    · have : r = V.heap.size + 1 := by simpa [Value.ownBlock] using h1
      exact .inr (by omega)
  have hb3 : SB w3 g s a pl op lv opn dep (.slice (some ⟨q, 0, none⟩) tb.length tcap) (.slice lA n lcap) := hb.kept (by
    rw [hgrow3.block g (by simp; omega) (fun e => by have := (HL.out.lt g e.symm).1; omega)]
    exact ((Below.refl V.heap.size V).alloc (Nat.le_refl _) _).block g q1)
  have ht3 : w3.ownsRow (g + 1) 5 1 (.slice (some ⟨q, 0, none⟩) tb.length tcap) tb.length (Lib.byteCells tb) := row_grown (row_below HT.out (((Below.refl _ _).alloc (Nat.le_refl _) _).drew)) hgrow3 (fun r hr => by
      intro hr'
      exact rows_apart HT.out HL.out (by decide) r hr' hr)
  have hBB : Below g V w3 := (((Below.refl g V).alloc (by omega) _).drew).grown hgrow3 (by simp; omega) (fun k hk => by have := (HL.out.lt k hk).1; omega)
  have hkp : ∀ k, k < V.heap.size → k ≠ g → (Value.slice (some ⟨q, 0, none⟩) tb.length tcap).ownBlock ≠ some k → (Value.slice lA n lcap).ownBlock ≠ some k → w3.heap[k]? = V.heap[k]? := fun k h2 _ _ h1 => by
    rw [hgrow3.block k (by simp; omega) (fun e => h1 e.symm)]
    exact ((Below.refl V.heap.size V).alloc (Nat.le_refl _) _).block k h2
  have hst : ∀ (U : World) (o : Nat) (y : Value) (k : Nat), k < V.heap.size → (Value.slice lA n lcap).ownBlock ≠ some k → (U.setCell ⟨r, o, none⟩ y).heap[k]? = U.heap[k]? := fun U o y k h1 h2 => Below.heap_setCell U _ _ k (by dsimp only; rintro rfl; rcases hrk with h | h; exact h2 h; omega)
  have hsg : ∀ (U : World) (o : Nat) (y : Value) (k : Nat), k ≠ g → (U.setCell ⟨g, o, none⟩ y).heap[k]? = U.heap[k]? := fun U o y k h1 => Below.heap_setCell U _ _ k (by dsimp only; exact h1)
  have HF1 := Lib.hid (add_one hb3 ht3 HL.out.1 hown3 hBB (.int .i64 1) (.string ⟨tb.toArray⟩) (.int .i64 0) (.bool false) (.slice none 0 0))
  have HF2 := Lib.hid (add_two hb3 ht3 HL.out.1 hown3 hBB (.int .i64 1) (.string ⟨tb.toArray⟩) (.int .i64 0) (.bool false) (.slice none 0 0))
  have HK1 := Lib.hid (show ∀ k, k < V.heap.size → k ≠ g → (Value.slice (some ⟨q, 0, none⟩) tb.length tcap).ownBlock ≠ some k → (Value.slice lA n lcap).ownBlock ≠ some k → ((((((w3.setCell ⟨r, n * 5, none⟩ (.int .i64 1)).setCell ⟨r, n * 5 + 1, none⟩ (.string ⟨tb.toArray⟩)).setCell ⟨r, n * 5 + 2, none⟩ (.int .i64 0)).setCell ⟨r, n * 5 + 3, none⟩ (.bool false)).setCell ⟨r, n * 5 + 4, none⟩ (.slice none 0 0)).setCell ⟨g, 8, none⟩ (.slice (some ⟨r, 0, none⟩) (n + 1) cap3)).heap[k]? = V.heap[k]? from fun k h1 h2 h3 h4 => (hsg _ _ _ k h2).trans ((hst _ _ _ k h1 h4).trans ((hst _ _ _ k h1 h4).trans ((hst _ _ _ k h1 h4).trans ((hst _ _ _ k h1 h4).trans ((hst _ _ _ k h1 h4).trans (hkp k h1 h2 h3 h4)))))))
  have HK2 := Lib.hid (show ∀ k, k < V.heap.size → k ≠ g → (Value.slice (some ⟨q, 0, none⟩) tb.length tcap).ownBlock ≠ some k → (Value.slice lA n lcap).ownBlock ≠ some k → ((((((w3.setCell ⟨g, 8, none⟩ (.slice (some ⟨r, 0, none⟩) (n + 1) cap3)).setCell ⟨r, n * 5, none⟩ (.int .i64 1)).setCell ⟨r, n * 5 + 1, none⟩ (.string ⟨tb.toArray⟩)).setCell ⟨r, n * 5 + 2, none⟩ (.int .i64 0)).setCell ⟨r, n * 5 + 3, none⟩ (.bool false)).setCell ⟨r, n * 5 + 4, none⟩ (.slice none 0 0)).heap[k]? = V.heap[k]? from fun k h1 h2 h3 h4 => (hst _ _ _ k h1 h4).trans ((hst _ _ _ k h1 h4).trans ((hst _ _ _ k h1 h4).trans ((hst _ _ _ k h1 h4).trans ((hst _ _ _ k h1 h4).trans ((hsg _ _ _ k h2).trans (hkp k h1 h2 h3 h4)))))))
  have HBV := Lib.hid hb
  have HRK := Lib.hid hrk
  obtain ⟨c0, -, -, -, -, -, -, c7, c8⟩ := hb.cells
  have f8 := hb.thaw 8
  have f7 := hb.thaw 7
  obtain ⟨e0, -, -, -, -, -, -, e7, e8⟩ := hb3.cells
  have t7 := hb3.thaw 7
  have t8 := hb3.thaw 8
  have hrg : ¬ r = g := by omega
  have hgr : ¬ g = r := by omega
  have hrf := hr3 (n * 5)
  have hrf1 := hr3 (n * 5 + 1)
  have hrf2 := hr3 (n * 5 + 2)
  have hrf3 := hr3 (n * 5 + 3)
  have hrf4 := hr3 (n * 5 + 4)
  have HRUN := Lib.hid hrun
  have n0' : (0 : Int) ≤ (n : Int) := by omega
  have n1 : ((n : Int) < (n : Int) + 1) = True := eq_true (by omega)
  have tl : (0 < tb.length) = True := eq_true (List.length_pos_iff.2 hne)
  clear hb ht hls hrun hown3 hgrow3 hr3 hb3 ht3 hBB hwhere hst hsg hkp hcv hne hrk
  go_enter Tryz.func138, Tryz.ntmps138
  go_wp2_with fail
  apply merge8
  case h =>
    intro hrest
    apply merge8
    case h =>
      intro hrest2
      go_region_law (refine step_append_eq8 rfl _ _ 102 rfl 102 rfl _ _ rfl rfl HRUN.out ?_)
      all_goals first | (with_reducible exact hrest.out) | (with_reducible exact hrest2.out)
    case g =>
      have hfin := And.intro HF2.out HK2.out
      have hy8 := cell8_two w3 g r (n * 5) (.slice (some ⟨r, 0, none⟩) (n + 1) cap3) (.int .i64 1) (.string ⟨tb.toArray⟩) (.int .i64 0) (.bool false) (.slice none 0 0) _ e8 hgr
      clear HF1 HF2 HK1 HK2
      generalize ((((((w3.setCell ⟨g, 8, none⟩ (.slice (some ⟨r, 0, none⟩) (n + 1) cap3)).setCell ⟨r, n * 5, none⟩ (.int .i64 1)).setCell ⟨r, n * 5 + 1, none⟩ (.string ⟨tb.toArray⟩)).setCell ⟨r, n * 5 + 2, none⟩ (.int .i64 0)).setCell ⟨r, n * 5 + 3, none⟩ (.bool false)).setCell ⟨r, n * 5 + 4, none⟩ (.slice none 0 0)) = Y at hfin hy8 ⊢
      have HY := Lib.hid hfin
      have HY8 := Lib.hid hy8
      clear hy8
      obtain ⟨⟨⟨ty, ly, hby, -, -⟩, -⟩, -⟩ := hfin
      obtain ⟨-, -, -, -, -, -, -, g7, -⟩ := hby.cells
      have i7 := hby.thaw 7
      clear hby e0 e7 e8 t7 t8 z0 z1 z2 z3 z4 hrf hrf1 hrf2 hrf3 hrf4 c0 c7 c8 f7 f8
      go_wp2
      go_end0
      obtain ⟨⟨ty', ly', hby', hty', hly'⟩, hbl'⟩ := HY.out.1
      refine ⟨rfl, HY.out.1.1.clear, Fr.mk' HBV.out (hby'.setTx _) (hbl'.setCell (by simp) _) (fun k h1 h2 h3 h4 => (Below.heap_setCell Y _ _ k (by dsimp only; exact h2)).trans (HY.out.2 k h1 h2 h3 h4)) (fun r' hr' => by simp [Value.ownBlock] at hr') (fun r' hr' => ?_)⟩
      obtain rfl := HY8.out.symm.trans hby'.cells.2.2.2.2.2.2.2.2 |> Option.some.inj
      have e' : r = r' := by simpa [Value.ownBlock] using hr'
      subst e'
      exact HRK.out
  case g =>
    have hfin := And.intro HF1.out HK1.out
    have hy8 := cell8_one w3 g r (n * 5) (.slice (some ⟨r, 0, none⟩) (n + 1) cap3) (.int .i64 1) (.string ⟨tb.toArray⟩) (.int .i64 0) (.bool false) (.slice none 0 0) _ e8 hgr
    clear HF1 HF2 HK1 HK2
    generalize ((((((w3.setCell ⟨r, n * 5, none⟩ (.int .i64 1)).setCell ⟨r, n * 5 + 1, none⟩ (.string ⟨tb.toArray⟩)).setCell ⟨r, n * 5 + 2, none⟩ (.int .i64 0)).setCell ⟨r, n * 5 + 3, none⟩ (.bool false)).setCell ⟨r, n * 5 + 4, none⟩ (.slice none 0 0)).setCell ⟨g, 8, none⟩ (.slice (some ⟨r, 0, none⟩) (n + 1) cap3)) = Y at hfin hy8 ⊢
    have HY := Lib.hid hfin
    have HY8 := Lib.hid hy8
    clear hy8
    obtain ⟨⟨⟨ty, ly, hby, -, -⟩, -⟩, -⟩ := hfin
    obtain ⟨-, -, -, -, -, -, -, g7, -⟩ := hby.cells
    have i7 := hby.thaw 7
    clear hby e0 e7 e8 t7 t8 z0 z1 z2 z3 z4 hrf hrf1 hrf2 hrf3 hrf4 c0 c7 c8 f7 f8
    go_wp2
    go_end0
    obtain ⟨⟨ty', ly', hby', hty', hly'⟩, hbl'⟩ := HY.out.1
    refine ⟨rfl, HY.out.1.1.clear, Fr.mk' HBV.out (hby'.setTx _) (hbl'.setCell (by simp) _) (fun k h1 h2 h3 h4 => (Below.heap_setCell Y _ _ k (by dsimp only; exact h2)).trans (HY.out.2 k h1 h2 h3 h4)) (fun r' hr' => by simp [Value.ownBlock] at hr') (fun r' hr' => ?_)⟩
    obtain rfl := HY8.out.symm.trans hby'.cells.2.2.2.2.2.2.2.2 |> Option.some.inj
    have e' : r = r' := by simpa [Value.ownBlock] using hr'
    subst e'
    exact HRK.out
end W
end Go.Proofs.YtcbdhheelddgeaaGreatDoor
namespace Go.Proofs.YtcbdhheelddgeaaGreatDoor
open Go.RowKit K
namespace WP
theorem flush_len (st : St) : (flush st).ls.length ≤ st.ls.length + 1 := by unfold flush; split <;> simp
theorem flush_dep (st : St) : (flush st).dep = st.dep := by unfold flush; split <;> rfl
theorem flush_a (st : St) : (flush st).a = st.a := by unfold flush; split <;> rfl
theorem flush_tx (st : St) : (flush st).tx = [] := by unfold flush; split <;> first | assumption | rfl
end WP
namespace W
theorem flush_any {V : World} {g : Nat} {c : WP.Ctx} {st : WP.St} (h : ScP V g c st) (hn : st.ls.length ≤ 90000) :
    Calls Tryz.prog 138 #[.pointer (some ⟨g, 0, none⟩)] V fun e V' => e = .returned (.tuple #[]) ∧ ScP V' g c (WP.flush st) ∧ Fr g V V' := by
  obtain ⟨lc, h1, h2⟩ := h
  by_cases htx : st.tx = []
  · have e : WP.flush st = st := by unfold WP.flush; rw [if_pos htx]
    rw [e]
    rw [htx] at h1
    exact (flush_nil h1).mono fun e V' ⟨he, hs, hf⟩ => ⟨he, ⟨lc, by rw [htx]; exact hs, h2.fr hf⟩, hf⟩
  · have e : WP.flush st = { st with tx := [], ls := st.ls ++ [.mk 1 st.tx 0 false []] } := by unfold WP.flush; rw [if_neg htx]
    rw [e]
    refine (flush_text h1 htx (by omega)).mono fun e V' ⟨he, hs, hf⟩ => ⟨he, ⟨_, by simpa using hs, LRep.snoc ?_ (h2.fr hf)⟩, hf⟩
    rw [PRep]
    exact ⟨none, 0, rfl, .inl rfl⟩
theorem cell7_one (w : World) (g r m : Nat) (l y0 y1 y2 y3 y4 : Value) (hgr : ¬ g = r) :
    ((((((w.setCell ⟨r, m, none⟩ y0).setCell ⟨r, m + 1, none⟩ y1).setCell ⟨r, m + 2, none⟩ y2).setCell ⟨r, m + 3, none⟩ y3).setCell ⟨r, m + 4, none⟩ y4).setCell ⟨g, 8, none⟩ l).cell? ⟨g, 7, none⟩ = w.cell? ⟨g, 7, none⟩ := by
  rw [World.cell?_setCell_other _ _ _ _ (by simp), set_far _ hgr, set_far _ hgr, set_far _ hgr, set_far _ hgr, set_far _ hgr]
theorem cell7_two (w : World) (g r m : Nat) (l y0 y1 y2 y3 y4 : Value) (hgr : ¬ g = r) :
    ((((((w.setCell ⟨g, 8, none⟩ l).setCell ⟨r, m, none⟩ y0).setCell ⟨r, m + 1, none⟩ y1).setCell ⟨r, m + 2, none⟩ y2).setCell ⟨r, m + 3, none⟩ y3).setCell ⟨r, m + 4, none⟩ y4).cell? ⟨g, 7, none⟩ = w.cell? ⟨g, 7, none⟩ := by
  rw [set_far _ hgr, set_far _ hgr, set_far _ hgr, set_far _ hgr, set_far _ hgr, World.cell?_setCell_other _ _ _ _ (by simp)]
/-- The end of add: what was proved of the world with the new part, put together. -/
theorem add_end {W x y Y : World} {g : Nat} {c : WP.Ctx} {st : WP.St} {k : Nat} {t : List UInt8} {o : Nat} {b : Bool} {ps : List WP.Part} {A : Option Addr} {pcap m n r cap3 lcap pn : Nat} {tx : Value} {lA : Option Addr} {lc : List Value}
    (hb1 : SB y g c.s st.a c.pl c.op c.lv c.opn st.dep tx (.slice lA n lcap)) (_hl1 : y.ownsRow (g + 1) 126 5 (.slice lA n lcap) n lc)
    (hY : Sc Y g c.s st.a c.pl c.op c.lv c.opn st.dep [] (n + 1) (lc ++ [.int .i64 k, .string ⟨t.toArray⟩, .int .i64 o, .bool b, .slice A pn pcap])) (hYb : Below g y Y)
    (hk : ∀ q, q < y.heap.size → q ≠ g → tx.ownBlock ≠ some q → (Value.slice lA n lcap).ownBlock ≠ some q → Y.heap[q]? = y.heap[q]?)
    (h8 : Y.cell? ⟨g, 8, none⟩ = some (.slice (some ⟨r, 0, none⟩) (n + 1) cap3)) (hrk : (Value.slice lA n lcap).ownBlock = some r ∨ y.heap.size ≤ r)
    (hxy : Fr g x y) (hWx : Below W.heap.size W x) (hg : g < W.heap.size)
    (hlr : LRep y (fun b => g < b ∧ ¬ ownSet y g b) (WP.flush st).ls lc) (hpy : PRep y (fun b => g < b ∧ ¬ ownSet y g b) (.mk k t o b ps) (pc k t o b (.slice A pn pcap))) (_hpn : pn = ps.length) (hnn : n = (WP.flush st).ls.length)
    (h7 : ∃ tx', Y.cell? ⟨g, 7, none⟩ = some tx' ∧ ∀ q, tx'.ownBlock = some q → tx.ownBlock = some q) :
    Ending.returned (.tuple #[]) = .returned (.tuple #[]) ∧ ScP (Y.setCell ⟨g, 1, none⟩ (.int .i64 m)) g c (WP.add (.mk k t o b ps) m st) ∧ Fr g W (Y.setCell ⟨g, 1, none⟩ (.int .i64 m)) := by
  obtain ⟨ty, ly, hby, hty, hly⟩ := hY
  have e8 : ly = .slice (some ⟨r, 0, none⟩) (n + 1) cap3 := Option.some.inj (hby.cells.2.2.2.2.2.2.2.2.symm.trans h8)
  have hfy : Fr g y (Y.setCell ⟨g, 1, none⟩ (.int .i64 m)) := by
    refine Fr.mk' hb1 (hby.setAt _ m rfl) (hYb.setCell (by simp) _) (fun q h1 h2 h3 h4 => (Below.heap_setCell Y _ _ q (by dsimp only; exact h2)).trans (hk q h1 h2 h3 h4)) (fun q hq => ?_) (fun q hq => ?_)
    · obtain ⟨tx', h7a, h7b⟩ := h7
      obtain rfl : ty = tx' := Option.some.inj (hby.cells.2.2.2.2.2.2.2.1.symm.trans h7a)
      exact .inl (h7b q hq)
    · subst e8
      have e' : r = q := by simpa [Value.ownBlock] using hq
      subst e'
      exact hrk
  refine ⟨rfl, ⟨_, ?_, LRep.fr (LRep.snoc hpy hlr) hfy⟩, ((Fr.of_below hWx hg).trans hxy).trans hfy⟩
  have hlen : (WP.add (.mk k t o b ps) m st).ls.length = n + 1 := by unfold WP.add; simp [hnn]
  have hdep : (WP.add (.mk k t o b ps) m st).dep = st.dep := by unfold WP.add; simp [WP.flush_dep]
  have htx : (WP.add (.mk k t o b ps) m st).tx = [] := by unfold WP.add; simp [WP.flush_tx]
  rw [hlen, hdep, htx]
  exact ⟨ty, ly, hby.setAt _ m rfl, row_set hty (by simp) _, row_set hly (by simp) _⟩
set_option maxRecDepth 100000 in
set_option maxHeartbeats 8000000 in
theorem add_any {W : World} {g : Nat} {c : WP.Ctx} {st : WP.St} (k : Nat) (t : List UInt8) (o : Nat) (b : Bool) (ps : List WP.Part) (A : Option Addr) (pcap : Nat) (m : Nat) (h : ScP W g c st) (hn : st.ls.length ≤ 90000)
    (hp : PRep W (fun b => g < b ∧ ¬ ownSet W g b) (.mk k t o b ps) (pc k t o b (.slice A ps.length pcap))) :
    Calls Tryz.prog 163 #[.pointer (some ⟨g, 0, none⟩), .agg #[.int .i64 k, .string ⟨t.toArray⟩, .int .i64 o, .bool b, .slice A ps.length pcap], .int .i64 m] W fun e W' => e = .returned (.tuple #[]) ∧ ScP W' g c (WP.add (.mk k t o b ps) m st) ∧ Fr g W W' := by
  obtain ⟨pn, hpn⟩ : ∃ pn, pn = ps.length := ⟨_, rfl⟩
  have HPN := Lib.hid hpn
  have hpn0 : 0 ≤ pn := Nat.zero_le _
  rw [← hpn] at hp ⊢
  clear hpn
  obtain ⟨i0, hi, hz0, hz1, hz2⟩ := info_parts infoPart
  obtain ⟨x, hx⟩ : ∃ x, x = W.alloc (.cells #[.int .i64 k, .string ⟨t.toArray⟩, .int .i64 o, .bool b, .slice A pn pcap] 126) := ⟨_, rfl⟩
  have HX := Lib.hid hx
  have hBx : Below W.heap.size W x := by rw [hx]; exact balloc _ _
  have hgl := h.lt
  have HFX := Lib.hid (flush_any (h.below hBx) hn)
  have HPX := Lib.hid (show PRep x (fun b => g < b ∧ ¬ ownSet x g b) (.mk k t o b ps) (pc k t o b (.slice A pn pcap)) from PRep.mono (fun b hb hl => ⟨⟨hb.1, fun e => hb.2 ((Fr.of_below hBx hgl).own b hl e)⟩, hBx.block b hl⟩) _ _ hp)
  have HNO := Lib.hid (show ¬ ownSet x g W.heap.size from fun e => by
    obtain ⟨lc, hsc, -⟩ := h
    obtain ⟨tx, ls, hb, ht, hls⟩ := hsc
    rw [own_same8 (hBx.block g hgl), own_iff hb] at e
    rcases e with e | e | e
    · omega
    · have := own_lt ht _ e; omega
    · have := own_lt hls _ e; omega)
  have hpx : x.heap[W.heap.size]? = some (.cells #[.int .i64 k, .string ⟨t.toArray⟩, .int .i64 o, .bool b, .slice A pn pcap] 126 (0, 0)) := by rw [hx]; exact al_new W _
  have HPBX := Lib.hid hpx
  have HBX := Lib.hid hBx
  have hxs : W.heap.size < x.heap.size := by rw [hx]; simp
  have HXS := Lib.hid hxs
  clear hx h hp hpx hBx hxs
  go_enter Tryz.func163, Tryz.ntmps163
  go_wp2_with fail
  rw [← HX.out]
  refine HFX.out.mono ?_
  rintro e y ⟨rfl, hscp, hfr⟩
  have hpy := (hfr.keep W.heap.size HXS.out HNO.out).trans HPBX.out
  have hys : x.heap.size ≤ y.heap.size := hfr.below.size
  have HFXY := Lib.hid hfr
  have HPY := Lib.hid (show PRep y (fun b => g < b ∧ ¬ ownSet y g b) (.mk k t o b ps) (pc k t o b (.slice A pn pcap)) from PRep.mono (fun b hb hl => ⟨⟨hb.1, fun e => hb.2 (hfr.own b hl e)⟩, hfr.keep b hl hb.2⟩) _ _ HPX.out)
  obtain ⟨lc, hsc, hlr⟩ := hscp
  have HLR := Lib.hid hlr
  have hn1 : (WP.flush st).ls.length ≤ 100000 := by have := WP.flush_len st; omega
  obtain ⟨n, hnn⟩ : ∃ n, n = (WP.flush st).ls.length := ⟨_, rfl⟩
  have HNN := Lib.hid hnn
  rw [← hnn] at hsc hn1
  have hdl : (WP.flush st).dep = st.dep := WP.flush_dep st
  have hal : (WP.flush st).a = st.a := WP.flush_a st
  have htl : (WP.flush st).tx = [] := WP.flush_tx st
  rw [hdl, hal, htl] at hsc
  clear hnn hlr hfr hdl hal htl
  obtain ⟨tx, ls, hb1, ht1, hls1⟩ := hsc
  have hn := hn1
  obtain ⟨lA, lcap, rfl⟩ := row_val hls1
  obtain ⟨c0, c1, -, -, -, -, -, c7, c8⟩ := hb1.cells
  have f8 := hb1.thaw 8
  have f1 := hb1.thaw 1
  have p0 : y.cell? ⟨W.heap.size, 0, none⟩ = some (.int .i64 k) := Lib.cell_of_heap hpy 0
  have p1 : y.cell? ⟨W.heap.size, 1, none⟩ = some (.string ⟨t.toArray⟩) := Lib.cell_of_heap hpy 1
  have p2 : y.cell? ⟨W.heap.size, 2, none⟩ = some (.int .i64 o) := Lib.cell_of_heap hpy 2
  have p3 : y.cell? ⟨W.heap.size, 3, none⟩ = some (.bool b) := Lib.cell_of_heap hpy 3
  have p4 : y.cell? ⟨W.heap.size, 4, none⟩ = some (.slice A pn pcap) := Lib.cell_of_heap hpy 4
  have HB1 := Lib.hid hb1
  have HT1 := Lib.hid ht1
  have HL1 := Lib.hid hls1
  have q1 : g < y.heap.size := by have := HXS.out; omega
  have q2 : W.heap.size < y.heap.size := by have := HXS.out; omega
  have q3 : ¬ W.heap.size = y.heap.size := by omega
  have n0' : (0 : Int) ≤ (n : Int) := by omega
  have n1 : ((n : Int) < (n : Int) + 1) = True := eq_true (by omega)
  obtain ⟨v3, w3, hrun, hown3, hgrow3, -, hwhere⟩ := run_append_own_at (P := Tryz.prog) ((y.alloc (.cells #[.int .i64 0, .string ⟨#[]⟩, .int .i64 0, .bool false, .slice none 0 0] 126)).drew) (g + 1) 102 102 126 i0 _ 5 64 Tryz.underlying102 hi hz0 hz1 hz2 rfl (by decide) (.slice lA n lcap) n lc (row_below HL1.out ((Below.refl _ _).alloc (Nat.le_refl _) _).drew) ⟨y.heap.size, 0, none⟩ 1 1 zeroP rfl (five_cells y _) five_one (by unfold maxLen; omega) (by omega) (by simp; omega)
  obtain ⟨r, cap3, rfl, hr1, hr2, hr3, z0, z1, z2, z3, z4, -⟩ := row_last HL1.out.1 hown3
  have hb3 : SB w3 g c.s st.a c.pl c.op c.lv c.opn st.dep tx (.slice lA n lcap) := HB1.out.kept (by
    rw [hgrow3.block g (by simp; omega) (fun e => by have := (HL1.out.lt g e.symm).1; omega)]
    exact ((Below.refl y.heap.size y).alloc (Nat.le_refl _) _).block g q1)
  have ht3 : w3.ownsRow (g + 1) 5 1 tx ([] : List UInt8).length (Lib.byteCells []) := row_grown (row_below HT1.out (((Below.refl _ _).alloc (Nat.le_refl _) _).drew)) hgrow3 (fun r hr => by
      intro hr'
      exact rows_apart HT1.out HL1.out (by decide) r hr' hr)
  have hrk : (Value.slice lA n lcap).ownBlock = some r ∨ y.heap.size ≤ r := by
    rcases hwhere with h1 | h1
    · exact .inl (by rw [← h1]; rfl)
    · have : r = y.heap.size + 1 := by simpa [Value.ownBlock] using h1
      exact .inr (by omega)
  have hkp : ∀ k, k < y.heap.size → k ≠ g → tx.ownBlock ≠ some k → (Value.slice lA n lcap).ownBlock ≠ some k → w3.heap[k]? = y.heap[k]? := fun k h2 _ _ h1 => by
    rw [hgrow3.block k (by simp; omega) (fun e => h1 e.symm)]
    exact ((Below.refl y.heap.size y).alloc (Nat.le_refl _) _).block k h2
  have hst : ∀ (U : World) (o : Nat) (u : Value) (k : Nat), k < y.heap.size → (Value.slice lA n lcap).ownBlock ≠ some k → (U.setCell ⟨r, o, none⟩ u).heap[k]? = U.heap[k]? := fun U o u k h1 h2 => Below.heap_setCell U _ _ k (by dsimp only; rintro rfl; rcases hrk with h | h; exact h2 h; omega)
  have hsg : ∀ (U : World) (o : Nat) (u : Value) (k : Nat), k ≠ g → (U.setCell ⟨g, o, none⟩ u).heap[k]? = U.heap[k]? := fun U o u k h1 => Below.heap_setCell U _ _ k (by dsimp only; exact h1)
  have hBB : Below g y w3 := ((((Below.refl g y).alloc (by omega) _).drew).grown hgrow3 (by simp; omega) (fun k hk => by have := (HL1.out.lt k hk).1; omega))
  have HF1 := Lib.hid (add_one hb3 ht3 HL1.out.1 hown3 hBB (.int .i64 k) (.string ⟨t.toArray⟩) (.int .i64 o) (.bool b) (.slice A pn pcap))
  have HF2 := Lib.hid (add_two hb3 ht3 HL1.out.1 hown3 hBB (.int .i64 k) (.string ⟨t.toArray⟩) (.int .i64 o) (.bool b) (.slice A pn pcap))
  have HK1 := Lib.hid (show ∀ q, q < y.heap.size → q ≠ g → tx.ownBlock ≠ some q → (Value.slice lA n lcap).ownBlock ≠ some q → ((((((w3.setCell ⟨r, n * 5, none⟩ (.int .i64 k)).setCell ⟨r, n * 5 + 1, none⟩ (.string ⟨t.toArray⟩)).setCell ⟨r, n * 5 + 2, none⟩ (.int .i64 o)).setCell ⟨r, n * 5 + 3, none⟩ (.bool b)).setCell ⟨r, n * 5 + 4, none⟩ (.slice A pn pcap)).setCell ⟨g, 8, none⟩ (.slice (some ⟨r, 0, none⟩) (n + 1) cap3)).heap[q]? = y.heap[q]? from fun q h1 h2 h3 h4 => (hsg _ _ _ q h2).trans ((hst _ _ _ q h1 h4).trans ((hst _ _ _ q h1 h4).trans ((hst _ _ _ q h1 h4).trans ((hst _ _ _ q h1 h4).trans ((hst _ _ _ q h1 h4).trans (hkp q h1 h2 h3 h4)))))))
  have HK2 := Lib.hid (show ∀ q, q < y.heap.size → q ≠ g → tx.ownBlock ≠ some q → (Value.slice lA n lcap).ownBlock ≠ some q → ((((((w3.setCell ⟨g, 8, none⟩ (.slice (some ⟨r, 0, none⟩) (n + 1) cap3)).setCell ⟨r, n * 5, none⟩ (.int .i64 k)).setCell ⟨r, n * 5 + 1, none⟩ (.string ⟨t.toArray⟩)).setCell ⟨r, n * 5 + 2, none⟩ (.int .i64 o)).setCell ⟨r, n * 5 + 3, none⟩ (.bool b)).setCell ⟨r, n * 5 + 4, none⟩ (.slice A pn pcap)).heap[q]? = y.heap[q]? from fun q h1 h2 h3 h4 => (hst _ _ _ q h1 h4).trans ((hst _ _ _ q h1 h4).trans ((hst _ _ _ q h1 h4).trans ((hst _ _ _ q h1 h4).trans ((hst _ _ _ q h1 h4).trans ((hsg _ _ _ q h2).trans (hkp q h1 h2 h3 h4)))))))
  have HRK := Lib.hid hrk
  obtain ⟨e0, e1, -, -, -, -, -, e7, e8⟩ := hb3.cells
  have t1 := hb3.thaw 1
  have t8 := hb3.thaw 8
  have hrg : ¬ r = g := by omega
  have hgr : ¬ g = r := by omega
  have hrf := hr3 (n * 5)
  have hrf1 := hr3 (n * 5 + 1)
  have hrf2 := hr3 (n * 5 + 2)
  have hrf3 := hr3 (n * 5 + 3)
  have hrf4 := hr3 (n * 5 + 4)
  have HRUN := Lib.hid hrun
  clear hpy hb1 ht1 hls1 HPBX hrun hown3 hgrow3 hr3 hb3 ht3 hBB hwhere hst hsg hkp hrk
  go_wp2_with fail
  apply merge8
  case h =>
    intro hrest
    apply merge8
    case h =>
      intro hrest2
      go_region_law (refine step_append_eq8 rfl _ _ 102 rfl 102 rfl _ _ rfl rfl HRUN.out ?_)
      all_goals first | (with_reducible exact hrest.out) | (with_reducible exact hrest2.out)
    case g =>
      have hfin := And.intro HF2.out HK2.out
      have hy8 := cell8_two w3 g r (n * 5) (.slice (some ⟨r, 0, none⟩) (n + 1) cap3) (.int .i64 k) (.string ⟨t.toArray⟩) (.int .i64 o) (.bool b) (.slice A pn pcap) _ e8 hgr
      have hy7 := cell7_two w3 g r (n * 5) (.slice (some ⟨r, 0, none⟩) (n + 1) cap3) (.int .i64 k) (.string ⟨t.toArray⟩) (.int .i64 o) (.bool b) (.slice A pn pcap) hgr
      rw [e7] at hy7
      clear HF1 HF2 HK1 HK2
      generalize ((((((w3.setCell ⟨g, 8, none⟩ (.slice (some ⟨r, 0, none⟩) (n + 1) cap3)).setCell ⟨r, n * 5, none⟩ (.int .i64 k)).setCell ⟨r, n * 5 + 1, none⟩ (.string ⟨t.toArray⟩)).setCell ⟨r, n * 5 + 2, none⟩ (.int .i64 o)).setCell ⟨r, n * 5 + 3, none⟩ (.bool b)).setCell ⟨r, n * 5 + 4, none⟩ (.slice A pn pcap)) = Y at hfin hy8 hy7 ⊢
      have HY := Lib.hid hfin
      have HY8 := Lib.hid hy8
      have HY7 := Lib.hid hy7
      clear hy8 hy7
      obtain ⟨⟨⟨ty, ly, hby, -, -⟩, -⟩, -⟩ := hfin
      obtain ⟨-, g1, -⟩ := hby.cells
      have i1 := hby.thaw 1
      clear hby e0 e1 e7 e8 t1 t8 z0 z1 z2 z3 z4 hrf hrf1 hrf2 hrf3 hrf4
      go_wp2
      go_end0
      exact add_end HB1.out HL1.out HY.out.1.1 HY.out.1.2 HY.out.2 HY8.out HRK.out HFXY.out HBX.out hgl HLR.out HPY.out HPN.out HNN.out ⟨_, HY7.out, fun _ h => h⟩
  case g =>
    have hfin := And.intro HF1.out HK1.out
    have hy8 := cell8_one w3 g r (n * 5) (.slice (some ⟨r, 0, none⟩) (n + 1) cap3) (.int .i64 k) (.string ⟨t.toArray⟩) (.int .i64 o) (.bool b) (.slice A pn pcap) _ e8 hgr
    have hy7 := cell7_one w3 g r (n * 5) (.slice (some ⟨r, 0, none⟩) (n + 1) cap3) (.int .i64 k) (.string ⟨t.toArray⟩) (.int .i64 o) (.bool b) (.slice A pn pcap) hgr
    rw [e7] at hy7
    clear HF1 HF2 HK1 HK2
    generalize ((((((w3.setCell ⟨r, n * 5, none⟩ (.int .i64 k)).setCell ⟨r, n * 5 + 1, none⟩ (.string ⟨t.toArray⟩)).setCell ⟨r, n * 5 + 2, none⟩ (.int .i64 o)).setCell ⟨r, n * 5 + 3, none⟩ (.bool b)).setCell ⟨r, n * 5 + 4, none⟩ (.slice A pn pcap)).setCell ⟨g, 8, none⟩ (.slice (some ⟨r, 0, none⟩) (n + 1) cap3)) = Y at hfin hy8 hy7 ⊢
    have HY := Lib.hid hfin
    have HY8 := Lib.hid hy8
    have HY7 := Lib.hid hy7
    clear hy8 hy7
    obtain ⟨⟨⟨ty, ly, hby, -, -⟩, -⟩, -⟩ := hfin
    obtain ⟨-, g1, -⟩ := hby.cells
    have i1 := hby.thaw 1
    clear hby e0 e1 e7 e8 t1 t8 z0 z1 z2 z3 z4 hrf hrf1 hrf2 hrf3 hrf4
    go_wp2
    go_end0
    exact add_end HB1.out HL1.out HY.out.1.1 HY.out.1.2 HY.out.2 HY8.out HRK.out HFXY.out HBX.out hgl HLR.out HPY.out HPN.out HNN.out ⟨_, HY7.out, fun _ h => h⟩
end W
end Go.Proofs.YtcbdhheelddgeaaGreatDoor
namespace Go.Proofs.YtcbdhheelddgeaaGreatDoor
open Go.RowKit K
namespace W
/-- The chain of a parser's error. -/
def faultP (f : WP.Flt) : List PanicEntry := [{ v := .iface 148 (.agg #[.int .i64 f.1, .int .i64 f.2]), recovered := false }]
theorem fail_any (a x : Int) (w : World) : Calls Tryz.prog 116 #[.int .i64 a, .int .i64 x] w fun e w' => e = .panicked (faultP (a, x)) ∧ w = w' := by
  go_enter Tryz.func116, Tryz.ntmps116
  go_wp2
  exact ⟨rfl, rfl, rfl⟩
theorem wd_starts (c : Int) (w : World) : Calls Tryz.prog 178 #[.int .u8 c] w fun e w' => e = .returned (.bool (LX.starts c)) ∧ w = w' := by
  go_enter Tryz.func178, Tryz.ntmps178
  go_wp2
  all_goals go_ret
  all_goals go_light
  all_goals exact ⟨ret_bool (by unfold LX.starts; rw [Bool.eq_iff_iff]; simp; try omega), rfl⟩
theorem wd_digit (c : Int) (w : World) : Calls Tryz.prog 168 #[.int .u8 c] w fun e w' => e = .returned (.bool (LX.digit c)) ∧ w = w' := by
  go_enter Tryz.func168, Tryz.ntmps168
  go_wp2
  all_goals go_ret
  all_goals go_light
  all_goals exact ⟨ret_bool (by unfold LX.digit; rw [Bool.eq_iff_iff]; simp; try omega), rfl⟩
/-- What ended gives. -/
def EndedOut (W : World) : Except WP.Flt Bool → Ending → World → Prop
  | .ok b, e, W' => e = .returned (.bool b) ∧ Below W.heap.size W W'
  | .error f, e, W' => e = .panicked (faultP f) ∧ Below W.heap.size W W'
set_option maxRecDepth 100000 in
set_option maxHeartbeats 4000000 in
theorem ended_any {W : World} {g : Nat} {c : WP.Ctx} {st : WP.St} (h : ScP W g c st) (ha : st.a ≤ c.s.length) (hl : c.s.length ≤ 100000) (hd : st.dep ≤ 100000) :
    Calls Tryz.prog 136 #[.pointer (some ⟨g, 0, none⟩)] W (EndedOut W (WP.ended c st)) := by
  obtain ⟨lc, ⟨tx, ls, h, -, -⟩, -⟩ := h
  obtain ⟨s, pl, op, lv, opn⟩ := c
  obtain ⟨a, dep, tb, lp⟩ := st
  dsimp only at h ha hl hd ⊢
  obtain ⟨c0, c1, c2, c3, c4, c5, c6, c7, c8⟩ := h.cells
  clear h
  have HF := Lib.hid (fun (x y : Int) (V : World) => fail_any x y V)
  have a0 : (0 : Int) ≤ (a : Int) := by omega
  by_cases hend : a = s.length
  · subst hend
    by_cases ho : 0 ≤ opn
    · rw [show WP.ended ⟨s, pl, op, lv, opn⟩ ⟨s.length, dep, tb, lp⟩ = .error (opn, 7) from by unfold WP.ended; rw [if_pos rfl, if_pos ho]]
      have o1 : (0 ≤ opn) = True := eq_true ho
      clear ho
      go_enter Tryz.func136, Tryz.ntmps136
      go_wp2_with fail
      go_quiet (fail)
      go_wp2_with fail
      refine (HF.out _ _ _).mono ?_
      rintro e w' ⟨rfl, rfl⟩
      exact ⟨rfl, rfl, (by repeat (first | exact Below.refl _ _ | apply bdN))⟩
    · rw [show WP.ended ⟨s, pl, op, lv, opn⟩ ⟨s.length, dep, tb, lp⟩ = .ok true from by unfold WP.ended; rw [if_pos rfl, if_neg ho]]
      have o1 : (0 ≤ opn) = False := eq_false ho
      clear ho
      go_enter Tryz.func136, Tryz.ntmps136
      go_wp2_with fail
      go_quiet (fail)
      go_wp2
      go_ret
      exact ⟨rfl, (by repeat (first | exact Below.refl _ _ | apply bdN))⟩
  have hlt : a < s.length := by omega
  have a1 : ((a : Int) < (s.length : Int)) = True := eq_true (by omega)
  have a2 : ¬ (a : Int) = (s.length : Int) := by omega
  have a3 := hend
  clear hend
  cases op with
  | true =>
    rw [show WP.ended ⟨s, pl, true, lv, opn⟩ ⟨a, dep, tb, lp⟩ = .ok (decide (bt s a = 125)) from by unfold WP.ended; rw [if_neg a3, if_pos rfl]]
    go_enter Tryz.func136, Tryz.ntmps136
    go_wp2_with fail
    go_quiet (fail)
    go_wp2_with fail
    go_quiet (fail)
    go_wp2
    go_ret
    exact ⟨ret_bool (by rw [Bool.eq_iff_iff]; simp), (by repeat (first | exact Below.refl _ _ | apply bdN))⟩
  | false =>
    by_cases hp1 : pl = 1
    · subst hp1
      rw [show WP.ended ⟨s, 1, false, lv, opn⟩ ⟨a, dep, tb, lp⟩ = .ok (decide (bt s a = 34)) from by unfold WP.ended; rw [if_neg a3, if_neg (by simp), if_pos rfl]]
      go_enter Tryz.func136, Tryz.ntmps136
      go_wp2_with fail
      go_quiet (fail)
      go_wp2_with fail
      go_quiet (fail)
      go_wp2
      go_ret
      exact ⟨ret_bool (by rw [Bool.eq_iff_iff]; simp), (by repeat (first | exact Below.refl _ _ | apply bdN))⟩
    have p1 : ((pl : Int) == 1) = false := by rw [beq_eq_false_iff_ne]; omega
    by_cases hp2 : pl = 2 ∧ bt s a = 41 ∧ dep = 0
    · obtain ⟨rfl, hb, rfl⟩ := hp2
      by_cases he : a + 1 = s.length
      · rw [show WP.ended ⟨s, 2, false, lv, opn⟩ ⟨a, 0, tb, lp⟩ = .error (opn, 7) from by unfold WP.ended; rw [if_neg a3, if_neg (by simp), if_neg (by simp), if_pos ⟨rfl, hb, rfl⟩, if_pos he]]
        have e1 : ((a : Int) + 1 == (s.length : Int)) = true := by rw [beq_iff_eq]; omega
        have e2 : IntKind.i64.wrap ((a : Int) + 1) = (a : Int) + 1 := IntWalk.i64_in _ (by omega)
        clear hp1
        go_enter Tryz.func136, Tryz.ntmps136
        go_wp2_with fail
        go_quiet (fail)
        go_wp2_with fail
        go_quiet (fail)
        go_wp2_with fail
        go_quiet (fail)
        go_wp2_with fail
        refine (HF.out _ _ _).mono ?_
        rintro e w' ⟨rfl, rfl⟩
        exact ⟨rfl, rfl, (by repeat (first | exact Below.refl _ _ | apply bdN))⟩
      · have he' : a + 1 < s.length := by omega
        have e1 : ((a : Int) + 1 == (s.length : Int)) = false := by rw [beq_eq_false_iff_ne]; omega
        have e2 : IntKind.i64.wrap ((a : Int) + 1) = (a : Int) + 1 := IntWalk.i64_in _ (by omega)
        have e3 : ((a : Int) + 1 < (s.length : Int)) = True := eq_true (by omega)
        have e4 : ((a : Int) + 1).toNat = a + 1 := by omega
        have e5 : (0 : Int) ≤ (a : Int) + 1 := by omega
        by_cases h41 : bt s (a + 1) = 41
        · rw [show WP.ended ⟨s, 2, false, lv, opn⟩ ⟨a, 0, tb, lp⟩ = .ok true from by unfold WP.ended; rw [if_neg a3, if_neg (by simp), if_neg (by simp), if_pos ⟨rfl, hb, rfl⟩, if_neg he, if_pos h41]]
          clear hp1
          go_enter Tryz.func136, Tryz.ntmps136
          go_wp2_with fail
          go_quiet (fail)
          go_wp2_with fail
          go_quiet (fail)
          go_wp2_with fail
          go_quiet (fail)
          go_wp2_with fail
          go_quiet (fail)
          go_wp2
          go_ret
          exact ⟨rfl, (by repeat (first | exact Below.refl _ _ | apply bdN))⟩
        · rw [show WP.ended ⟨s, 2, false, lv, opn⟩ ⟨a, 0, tb, lp⟩ = .error (a, 6) from by unfold WP.ended; rw [if_neg a3, if_neg (by simp), if_neg (by simp), if_pos ⟨rfl, hb, rfl⟩, if_neg he, if_neg h41]]
          have b41 : (bt s (a + 1) != 41) = true := by simpa using h41
          clear hp1
          go_enter Tryz.func136, Tryz.ntmps136
          go_wp2_with fail
          go_quiet (fail)
          go_wp2_with fail
          go_quiet (fail)
          go_wp2_with fail
          go_quiet (fail)
          go_wp2_with fail
          go_quiet (fail)
          go_wp2_with fail
          refine (HF.out _ _ _).mono ?_
          rintro e w' ⟨rfl, rfl⟩
          exact ⟨rfl, rfl, (by repeat (first | exact Below.refl _ _ | apply bdN))⟩
    · rw [show WP.ended ⟨s, pl, false, lv, opn⟩ ⟨a, dep, tb, lp⟩ = .ok false from by unfold WP.ended; rw [if_neg a3, if_neg (by simp), if_neg hp1, if_neg hp2]]
      by_cases h2 : pl = 2
      · subst h2
        by_cases hb : bt s a = 41
        · have hd0 : ¬ dep = 0 := fun e => hp2 ⟨rfl, hb, e⟩
          have d1 : ((dep : Int) == 0) = false := by rw [beq_eq_false_iff_ne]; omega
          clear hp1 hp2 hd0
          go_enter Tryz.func136, Tryz.ntmps136
          go_wp2_with fail
          go_quiet (fail)
          go_wp2_with fail
          go_quiet (fail)
          go_wp2
          go_ret
          exact ⟨rfl, (by repeat (first | exact Below.refl _ _ | apply bdN))⟩
        · have b1 := beq_f hb
          clear hp1 hp2
          go_enter Tryz.func136, Tryz.ntmps136
          go_wp2_with fail
          go_quiet (fail)
          go_wp2_with fail
          go_quiet (fail)
          go_wp2
          go_ret
          exact ⟨rfl, (by repeat (first | exact Below.refl _ _ | apply bdN))⟩
      · have p2 : ((pl : Int) == 2) = false := by rw [beq_eq_false_iff_ne]; omega
        clear hp2
        go_enter Tryz.func136, Tryz.ntmps136
        go_wp2_with fail
        go_quiet (fail)
        go_wp2_with fail
        go_quiet (fail)
        go_wp2
        go_ret
        exact ⟨rfl, (by repeat (first | exact Below.refl _ _ | apply bdN))⟩
end W
end Go.Proofs.YtcbdhheelddgeaaGreatDoor
