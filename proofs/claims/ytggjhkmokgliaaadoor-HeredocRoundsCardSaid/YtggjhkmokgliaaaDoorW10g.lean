/- Words: flush of the scope. -/
import Derived.Test.YtggjhkmokgliaaaDoorW10f
import Derived.Maps.AppendAt
import Derived.Laws.IdiomStrings
namespace Go.Proofs.YtggjhkmokgliaaaDoor
open Go.RowKit K
namespace W
theorem Sc.clear {V : World} {g a : Nat} {s : List UInt8} {pl : Int} {op : Bool} {lv opn dep : Int} {tb : List UInt8} {n : Nat} {lc : List Value} (h : Sc V g s a pl op lv opn dep tb n lc) : Sc (V.setCell ⟨g, 7, none⟩ (.slice none 0 0)) g s a pl op lv opn dep [] n lc := by
  obtain ⟨tx, ls, h1, h2, h3⟩ := h
  exact ⟨_, ls, h1.setTx _, ⟨rfl, .inl ⟨rfl, rfl⟩⟩, row_set h3 (by simp) _⟩
theorem own_lt {w : World} {B : Nat} {e : TypeId} {k : Nat} {v : Value} {n : Nat} {xs : List Value} (h : w.ownsRow B e k v n xs) : ∀ r, v.ownBlock = some r → r < w.heap.size := by
  intro r hr
  rcases h.2 with ⟨h2, _⟩ | ⟨g, cap, cur, hv, _, hgb, _⟩
  · rw [h2] at hr; cases hr
  · rw [hv] at hr
    have e1 : g = r := by simpa [Value.ownBlock] using hr
    subst e1
    exact (Array.getElem?_eq_some_iff.1 hgb).1
set_option maxHeartbeats 1000000 in
theorem flush_nil {W V : World} {g a : Nat} {s : List UInt8} {pl : Int} {op : Bool} {lv opn dep : Int} {n : Nat} {lc : List Value} (h : Sc W g s a pl op lv opn dep [] n lc) (hWV : Below W.heap.size W V) :
    Calls Tryd.prog 54 #[.pointer (some ⟨g, 0, none⟩)] V fun e V' => e = .returned (.tuple #[]) ∧ Sc V' g s a pl op lv opn dep [] n lc ∧ Below g V V' ∧ ∀ k, W.heap.size ≤ k → k < V.heap.size → V'.heap[k]? = V.heap[k]? := by
  have hV := h.below hWV
  have HV := Lib.hid hV
  obtain ⟨tx, ls, hb, ht, hls⟩ := hV
  obtain ⟨A, cap, rfl⟩ := row_val ht
  obtain ⟨c0, -, -, -, -, -, -, c7, c8⟩ := hb.cells
  clear hb ht hls h hWV
  simp only [List.length_nil] at c7
  go_enter Tryd.func54, Tryd.ntmps54
  go_wp2
  go_end0
  exact ⟨rfl, HV.out, Below.refl _ _, fun _ _ _ => rfl⟩
set_option maxRecDepth 100000 in
set_option maxHeartbeats 8000000 in
theorem flush_text {W V : World} {g a : Nat} {s : List UInt8} {pl : Int} {op : Bool} {lv opn dep : Int} {tb : List UInt8} {n : Nat} {lc : List Value} (h : Sc W g s a pl op lv opn dep tb n lc) (hWV : Below W.heap.size W V) (hne : tb ≠ []) (hn : n ≤ 100000) :
    Calls Tryd.prog 54 #[.pointer (some ⟨g, 0, none⟩)] V fun e V' => e = .returned (.tuple #[]) ∧ Sc V' g s a pl op lv opn dep [] (n + 1) (lc ++ pc 1 tb 0 false (.slice none 0 0)) ∧ Below g V V' ∧ ∀ k, W.heap.size ≤ k → k < V.heap.size → V'.heap[k]? = V.heap[k]? := by
  obtain ⟨i0, hi, hz0, hz1, hz2⟩ := info_parts infoPart
  obtain ⟨tx, ls, hb0, ht0, hls0⟩ := h
  have hgW := hb0.lt
  have hlsW := own_lt hls0
  have hb := hb0.kept (hWV.block g hgW)
  have ht := row_below ht0 hWV
  have hls := row_below hls0 hWV
  have hsz := hWV.size
  obtain ⟨lA, lcap, rfl⟩ := row_val hls
  obtain ⟨q, tcap, rfl⟩ : ∃ q tcap, tx = .slice (some ⟨q, 0, none⟩) tb.length tcap := by
    rcases ht.2 with ⟨_, h2⟩ | ⟨q, cap, cur, hv, _⟩
    · exact absurd (List.eq_nil_of_length_eq_zero h2) hne
    · exact ⟨q, cap, hv⟩
  have HT := Lib.hid ht
  have HL := Lib.hid hls
  have q1 : g < V.heap.size := hb.lt
  have hcv : ∀ U : World, Below V.heap.size V U → (convert 40 9 (.slice (some ⟨q, 0, none⟩) tb.length tcap)).run Tryd.prog U = .ok (.string ⟨tb.toArray⟩) U := fun U hU =>
    run_convert_bytes_back (P := Tryd.prog) U 40 9 5 ⟨q, 0, none⟩ tcap tb Tryd.underlying40 Tryd.underlying5 Tryd.underlying9 (fun j hj => (row_below HT.out hU).cells (g := q) rfl j _ (by simp [Lib.byteCells, hj]))
  have hcv1 := hcv V.drew (Below.refl _ _).drew
  have hcv2 := hcv ((V.alloc (.cells #[.int .i64 0, .string ⟨#[]⟩, .int .i64 0, .bool false, .slice none 0 0] 38)).drew) ((Below.refl _ _).alloc (Nat.le_refl _) _).drew
  obtain ⟨v3, w3, hrun, hown3, hgrow3, -, hwhere⟩ := run_append_own_at (P := Tryd.prog) ((V.alloc (.cells #[.int .i64 0, .string ⟨#[]⟩, .int .i64 0, .bool false, .slice none 0 0] 38)).drew) (g + 1) 34 34 38 i0 _ 5 64 Tryd.underlying34 hi hz0 hz1 hz2 rfl (by decide) (.slice lA n lcap) n lc (row_below HL.out ((Below.refl _ _).alloc (Nat.le_refl _) _).drew) ⟨V.heap.size, 0, none⟩ 1 1 zeroP rfl (five_cells V _) five_one (by unfold maxLen; omega) (by omega) (by simp; omega)
  obtain ⟨r, cap3, rfl, hr1, hr2, hr3, z0, z1, z2, z3, z4, -⟩ := row_last HL.out.1 hown3
  have hrk : r < W.heap.size ∨ V.heap.size < r := by
    rcases hwhere with h1 | h1
    · exact .inl (hlsW r (by rw [← h1]; rfl))
    · have : r = V.heap.size + 1 := by simpa [Value.ownBlock] using h1
      exact .inr (by omega)
  have hb3 : SB w3 g s a pl op lv opn dep (.slice (some ⟨q, 0, none⟩) tb.length tcap) (.slice lA n lcap) := hb.kept (by
    rw [hgrow3.block g (by simp; omega) (fun e => by have := (HL.out.lt g e.symm).1; omega)]
    exact ((Below.refl V.heap.size V).alloc (Nat.le_refl _) _).block g q1)
  have ht3 : w3.ownsRow (g + 1) 5 1 (.slice (some ⟨q, 0, none⟩) tb.length tcap) tb.length (Lib.byteCells tb) := row_grown (row_below HT.out (((Below.refl _ _).alloc (Nat.le_refl _) _).drew)) hgrow3 (fun r hr => by
      intro hr'
      exact rows_apart HT.out HL.out (by decide) r hr' hr)
  have hBB : Below g V w3 := (((Below.refl g V).alloc (by omega) _).drew).grown hgrow3 (by simp; omega) (fun k hk => by have := (HL.out.lt k hk).1; omega)
  have hkp : ∀ k, W.heap.size ≤ k → k < V.heap.size → w3.heap[k]? = V.heap[k]? := fun k h1 h2 => by
    rw [hgrow3.block k (by simp; omega) (fun e => by have := hlsW k e.symm; omega)]
    exact ((Below.refl V.heap.size V).alloc (Nat.le_refl _) _).block k h2
  have hst : ∀ (U : World) (o : Nat) (y : Value) (k : Nat), W.heap.size ≤ k → k < V.heap.size → (U.setCell ⟨r, o, none⟩ y).heap[k]? = U.heap[k]? := fun U o y k h1 h2 => Below.heap_setCell U _ _ k (by dsimp only; omega)
  have hsg : ∀ (U : World) (o : Nat) (y : Value) (k : Nat), W.heap.size ≤ k → k < V.heap.size → (U.setCell ⟨g, o, none⟩ y).heap[k]? = U.heap[k]? := fun U o y k h1 h2 => Below.heap_setCell U _ _ k (by dsimp only; omega)
  have HF1 := Lib.hid (add_one hb3 ht3 HL.out.1 hown3 hBB (.int .i64 1) (.string ⟨tb.toArray⟩) (.int .i64 0) (.bool false) (.slice none 0 0))
  have HF2 := Lib.hid (add_two hb3 ht3 HL.out.1 hown3 hBB (.int .i64 1) (.string ⟨tb.toArray⟩) (.int .i64 0) (.bool false) (.slice none 0 0))
  have HK1 := Lib.hid (show ∀ k, W.heap.size ≤ k → k < V.heap.size → ((((((w3.setCell ⟨r, n * 5, none⟩ (.int .i64 1)).setCell ⟨r, n * 5 + 1, none⟩ (.string ⟨tb.toArray⟩)).setCell ⟨r, n * 5 + 2, none⟩ (.int .i64 0)).setCell ⟨r, n * 5 + 3, none⟩ (.bool false)).setCell ⟨r, n * 5 + 4, none⟩ (.slice none 0 0)).setCell ⟨g, 8, none⟩ (.slice (some ⟨r, 0, none⟩) (n + 1) cap3)).heap[k]? = V.heap[k]? from fun k h1 h2 => (hsg _ _ _ k h1 h2).trans ((hst _ _ _ k h1 h2).trans ((hst _ _ _ k h1 h2).trans ((hst _ _ _ k h1 h2).trans ((hst _ _ _ k h1 h2).trans ((hst _ _ _ k h1 h2).trans (hkp k h1 h2)))))))
  have HK2 := Lib.hid (show ∀ k, W.heap.size ≤ k → k < V.heap.size → ((((((w3.setCell ⟨g, 8, none⟩ (.slice (some ⟨r, 0, none⟩) (n + 1) cap3)).setCell ⟨r, n * 5, none⟩ (.int .i64 1)).setCell ⟨r, n * 5 + 1, none⟩ (.string ⟨tb.toArray⟩)).setCell ⟨r, n * 5 + 2, none⟩ (.int .i64 0)).setCell ⟨r, n * 5 + 3, none⟩ (.bool false)).setCell ⟨r, n * 5 + 4, none⟩ (.slice none 0 0)).heap[k]? = V.heap[k]? from fun k h1 h2 => (hst _ _ _ k h1 h2).trans ((hst _ _ _ k h1 h2).trans ((hst _ _ _ k h1 h2).trans ((hst _ _ _ k h1 h2).trans ((hst _ _ _ k h1 h2).trans ((hsg _ _ _ k h1 h2).trans (hkp k h1 h2)))))))
  obtain ⟨c0, -, -, -, -, -, -, c7, c8⟩ := hb.cells
  have f8 := hb.thaw 8
  have f7 := hb.thaw 7
  obtain ⟨e0, -, -, -, -, -, -, e7, e8⟩ := hb3.cells
  have t7 := hb3.thaw 7
  have t8 := hb3.thaw 8
  have hrg : ¬ r = g := by omega
  have hgr : ¬ g = r := by omega
  have hrf := hr3 (n * 5)
  have hrf1 := hr3 (n * 5 + 1)
  have hrf2 := hr3 (n * 5 + 2)
  have hrf3 := hr3 (n * 5 + 3)
  have hrf4 := hr3 (n * 5 + 4)
  have HRUN := Lib.hid hrun
  have n0' : (0 : Int) ≤ (n : Int) := by omega
  have n1 : ((n : Int) < (n : Int) + 1) = True := eq_true (by omega)
  have tl : (0 < tb.length) = True := eq_true (List.length_pos_iff.2 hne)
  clear hb0 ht0 hls0 hb ht hls hrun hown3 hgrow3 hr3 hb3 ht3 hBB hwhere hst hsg hkp hcv hlsW hWV hne
  go_enter Tryd.func54, Tryd.ntmps54
  go_wp2_with fail
  apply merge
  case h =>
    intro hrest
    apply merge
    case h =>
      intro hrest2
      go_region_law (refine step_append_eq rfl _ _ 34 rfl 34 rfl _ _ rfl rfl HRUN.out ?_)
      all_goals first | (with_reducible exact hrest.out) | (with_reducible exact hrest2.out)
    case g =>
      have hfin := And.intro HF2.out HK2.out
      clear HF1 HF2 HK1 HK2
      generalize ((((((w3.setCell ⟨g, 8, none⟩ (.slice (some ⟨r, 0, none⟩) (n + 1) cap3)).setCell ⟨r, n * 5, none⟩ (.int .i64 1)).setCell ⟨r, n * 5 + 1, none⟩ (.string ⟨tb.toArray⟩)).setCell ⟨r, n * 5 + 2, none⟩ (.int .i64 0)).setCell ⟨r, n * 5 + 3, none⟩ (.bool false)).setCell ⟨r, n * 5 + 4, none⟩ (.slice none 0 0)) = Y at hfin ⊢
      have HY := Lib.hid hfin
      obtain ⟨⟨⟨ty, ly, hby, -, -⟩, -⟩, -⟩ := hfin
      obtain ⟨-, -, -, -, -, -, -, g7, -⟩ := hby.cells
      have i7 := hby.thaw 7
      clear hby e0 e7 e8 t7 t8 z0 z1 z2 z3 z4 hrf hrf1 hrf2 hrf3 hrf4 c0 c7 c8 f7 f8
      go_wp2
      go_end0
      exact ⟨rfl, HY.out.1.1.clear, HY.out.1.2.setCell (by simp) _, fun k h1 h2 => (Below.heap_setCell Y _ _ k (by dsimp only; omega)).trans (HY.out.2 k h1 h2)⟩
  case g =>
    have hfin := And.intro HF1.out HK1.out
    clear HF1 HF2 HK1 HK2
    generalize ((((((w3.setCell ⟨r, n * 5, none⟩ (.int .i64 1)).setCell ⟨r, n * 5 + 1, none⟩ (.string ⟨tb.toArray⟩)).setCell ⟨r, n * 5 + 2, none⟩ (.int .i64 0)).setCell ⟨r, n * 5 + 3, none⟩ (.bool false)).setCell ⟨r, n * 5 + 4, none⟩ (.slice none 0 0)).setCell ⟨g, 8, none⟩ (.slice (some ⟨r, 0, none⟩) (n + 1) cap3)) = Y at hfin ⊢
    have HY := Lib.hid hfin
    obtain ⟨⟨⟨ty, ly, hby, -, -⟩, -⟩, -⟩ := hfin
    obtain ⟨-, -, -, -, -, -, -, g7, -⟩ := hby.cells
    have i7 := hby.thaw 7
    clear hby e0 e7 e8 t7 t8 z0 z1 z2 z3 z4 hrf hrf1 hrf2 hrf3 hrf4 c0 c7 c8 f7 f8
    go_wp2
    go_end0
    exact ⟨rfl, HY.out.1.1.clear, HY.out.1.2.setCell (by simp) _, fun k h1 h2 => (Below.heap_setCell Y _ _ k (by dsimp only; omega)).trans (HY.out.2 k h1 h2)⟩
end W
end Go.Proofs.YtggjhkmokgliaaaDoor
