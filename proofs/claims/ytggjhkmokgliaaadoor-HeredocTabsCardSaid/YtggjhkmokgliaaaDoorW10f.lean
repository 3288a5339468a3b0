/- Words: add of the scope. -/
import Derived.Test.YtggjhkmokgliaaaDoorW10e
namespace Go.Proofs.YtggjhkmokgliaaaDoor
open Go.RowKit K
namespace K
theorem set_app {xs z : List Value} {j : Nat} (y : Value) : (xs ++ z).set (xs.length + j) y = xs ++ z.set j y := by
  rw [List.set_append_right _ _ (by omega)]
  congr 2
  omega
/-- The last element of a row of five cells each, stored anew. -/
theorem row_last {w : World} {B : Nat} {e : TypeId} {v : Value} {n : Nat} {xs : List Value} {z0 z1 z2 z3 z4 : Value} (hx : xs.length = n * 5) (h : w.ownsRow B e 5 v (n + 1) (xs ++ [z0, z1, z2, z3, z4])) :
    ∃ r cap, v = .slice (some ⟨r, 0, none⟩) (n + 1) cap ∧ B ≤ r ∧ r < w.heap.size ∧ (∀ j, w.frozen? ⟨r, j, none⟩ = false) ∧ w.cell? ⟨r, n * 5, none⟩ = some z0 ∧ w.cell? ⟨r, n * 5 + 1, none⟩ = some z1 ∧ w.cell? ⟨r, n * 5 + 2, none⟩ = some z2 ∧ w.cell? ⟨r, n * 5 + 3, none⟩ = some z3 ∧ w.cell? ⟨r, n * 5 + 4, none⟩ = some z4 ∧
      ∀ y0 y1 y2 y3 y4, (((((w.setCell ⟨r, n * 5, none⟩ y0).setCell ⟨r, n * 5 + 1, none⟩ y1).setCell ⟨r, n * 5 + 2, none⟩ y2).setCell ⟨r, n * 5 + 3, none⟩ y3).setCell ⟨r, n * 5 + 4, none⟩ y4).ownsRow B e 5 v (n + 1) (xs ++ [y0, y1, y2, y3, y4]) := by
  rcases h.2 with ⟨_, h2⟩ | ⟨r, cap, cur, hv, hB, hr, hc1, hc2, hc3, hc4⟩
  · omega
  · have hat : ∀ j u, [z0, z1, z2, z3, z4][j]? = some u → w.cell? ⟨r, n * 5 + j, none⟩ = some u := by
      intro j u hj
      have hj5 : j < 5 := by have := (List.getElem?_eq_some_iff.1 hj).1; simpa using this
      have e1 : (cur.toList.take ((n + 1) * 5))[n * 5 + j]? = some u := by
        rw [hc4, ← hx, List.getElem?_append_right (by omega)]
        simpa using hj
      rw [List.getElem?_take_of_lt (by omega)] at e1
      simp only [World.cell?, hr]
      simpa using e1
    refine ⟨r, cap, hv, hB, (Array.getElem?_eq_some_iff.1 hr).1, fun j => Lib.frozen_of_heap hr j, hat 0 z0 rfl, hat 1 z1 rfl, hat 2 z2 rfl, hat 3 z3 rfl, hat 4 z4 rfl, fun y0 y1 y2 y3 y4 => ?_⟩
    have a0 := heap_setCell_same w r (n * 5) _ _ y0 hr
    have a1 := heap_setCell_same _ r (n * 5 + 1) _ _ y1 a0
    have a2 := heap_setCell_same _ r (n * 5 + 2) _ _ y2 a1
    have a3 := heap_setCell_same _ r (n * 5 + 3) _ _ y3 a2
    have a4 := heap_setCell_same _ r (n * 5 + 4) _ _ y4 a3
    refine ⟨by simp [hx]; omega, .inr ⟨r, cap, _, hv, hB, a4, hc1, hc2, by simp [hc3], ?_⟩⟩
    simp only [Array.toList_setIfInBounds, List.take_set]
    rw [hc4, ← hx]
    have e0 := set_app (xs := xs) (z := [z0, z1, z2, z3, z4]) (j := 0) y0
    rw [Nat.add_zero] at e0
    rw [e0, set_app, set_app, set_app, set_app]
    rfl
end K
namespace W
theorem infoPart : (Tryd.prog.info? 38).map (fun i => (i.zero, i.size, i.bytes)) = some (some (.agg #[.int .i64 0, .string ⟨#[]⟩, .int .i64 0, .bool false, .slice none 0 0]), 5, 64) := by kernel_rfl
/-- The cells of a part. -/
def pc (k : Int) (t : List UInt8) (o : Int) (b : Bool) (ps : Value) : List Value := [.int .i64 k, .string ⟨t.toArray⟩, .int .i64 o, .bool b, ps]
def zeroP : List Value := [.int .i64 0, .string ⟨#[]⟩, .int .i64 0, .bool false, .slice none 0 0]
theorem five_cells (w : World) (t : TypeId) : ∀ (j : Nat) (u : Value), zeroP[j]? = some u → (w.alloc (.cells #[.int .i64 0, .string ⟨#[]⟩, .int .i64 0, .bool false, .slice none 0 0] t)).cell? ((⟨w.heap.size, 0, none⟩ : Addr).add j) = some u := by
  intro j u hj
  match j, hj with
  | 0, hj => simp [zeroP] at hj; subst hj; simp [Addr.add]
  | 1, hj => simp [zeroP] at hj; subst hj; simp [Addr.add]
  | 2, hj => simp [zeroP] at hj; subst hj; simp [Addr.add]
  | 3, hj => simp [zeroP] at hj; subst hj; simp [Addr.add]
  | 4, hj => simp [zeroP] at hj; subst hj; simp [Addr.add]
  | n + 5, hj => simp [zeroP] at hj
theorem five_one : ∀ u ∈ zeroP, u.oneCell' = true := by
  intro u hu
  simp [zeroP] at hu
  rcases hu with rfl | rfl | rfl | rfl | rfl <;> rfl
theorem row_set2 {w : World} {B : Nat} {e : TypeId} {k : Nat} {v : Value} {n : Nat} {xs : List Value} (h : w.ownsRow B e k v n xs) {p : Addr} (hp : ∀ r, v.ownBlock = some r → r ≠ p.block) (u : Value) : (w.setCell p u).ownsRow B e k v n xs := by
  refine ⟨h.1, ?_⟩
  rcases h.2 with h2 | ⟨g, cap, cur, hv, hb, hgb, rest⟩
  · exact .inl h2
  · exact .inr ⟨g, cap, cur, hv, hb, (Below.heap_setCell w p u g (hp g (by rw [hv]; rfl))).trans hgb, rest⟩
section
variable {W w3 : World} {g a : Nat} {s : List UInt8} {pl : Int} {op : Bool} {lv opn dep : Int} {tx ls : Value} {tb : List UInt8} {n r cap3 : Nat} {lc : List Value}
/-- A part stored at the end of the list, then the list stored, then the offset. -/
theorem add_one (hb : SB w3 g s a pl op lv opn dep tx ls) (ht : w3.ownsRow (g + 1) 5 1 tx tb.length (Lib.byteCells tb)) (hx : lc.length = n * 5) (ho : w3.ownsRow (g + 1) 38 5 (.slice (some ⟨r, 0, none⟩) (n + 1) cap3) (n + 1) (lc ++ zeroP)) (hW : Below g W w3) (y0 y1 y2 y3 y4 : Value) :
    Sc ((((((w3.setCell ⟨r, n * 5, none⟩ y0).setCell ⟨r, n * 5 + 1, none⟩ y1).setCell ⟨r, n * 5 + 2, none⟩ y2).setCell ⟨r, n * 5 + 3, none⟩ y3).setCell ⟨r, n * 5 + 4, none⟩ y4).setCell ⟨g, 8, none⟩ (.slice (some ⟨r, 0, none⟩) (n + 1) cap3)) g s a pl op lv opn dep tb (n + 1) (lc ++ [y0, y1, y2, y3, y4]) ∧
      Below g W ((((((w3.setCell ⟨r, n * 5, none⟩ y0).setCell ⟨r, n * 5 + 1, none⟩ y1).setCell ⟨r, n * 5 + 2, none⟩ y2).setCell ⟨r, n * 5 + 3, none⟩ y3).setCell ⟨r, n * 5 + 4, none⟩ y4).setCell ⟨g, 8, none⟩ (.slice (some ⟨r, 0, none⟩) (n + 1) cap3)) := by
  obtain ⟨r', cap', hv, hr1, -, -, -, -, -, -, -, hset⟩ := row_last hx ho
  injection hv with hv _ _
  injection hv with hv
  injection hv with hv _ _
  subst hv
  have hap := rows_apart ht ho (by decide)
  have hap' : ∀ q, tx.ownBlock = some q → q ≠ r := fun q hq e => hap q hq (by rw [e]; rfl)
  have hsb : ∀ {V : World} {o : Nat} {y : Value}, SB V g s a pl op lv opn dep tx ls → SB (V.setCell ⟨r, o, none⟩ y) g s a pl op lv opn dep tx ls := fun h => h.kept (Below.heap_setCell _ _ _ g (by dsimp only; omega))
  refine ⟨⟨tx, _, (hsb (hsb (hsb (hsb (hsb hb))))).setLs _, ?_, row_set (hset y0 y1 y2 y3 y4) (by simp) _⟩, ?_⟩
  · exact row_set (row_set2 (row_set2 (row_set2 (row_set2 (row_set2 ht hap' _) hap' _) hap' _) hap' _) hap' _) (by simp) _
  · have hle : g ≤ r := by omega
    exact (((((hW.setCell hle _).setCell hle _).setCell hle _).setCell hle _).setCell hle _).setCell (by simp) _
theorem add_two (hb : SB w3 g s a pl op lv opn dep tx ls) (ht : w3.ownsRow (g + 1) 5 1 tx tb.length (Lib.byteCells tb)) (hx : lc.length = n * 5) (ho : w3.ownsRow (g + 1) 38 5 (.slice (some ⟨r, 0, none⟩) (n + 1) cap3) (n + 1) (lc ++ zeroP)) (hW : Below g W w3) (y0 y1 y2 y3 y4 : Value) :
    Sc ((((((w3.setCell ⟨g, 8, none⟩ (.slice (some ⟨r, 0, none⟩) (n + 1) cap3)).setCell ⟨r, n * 5, none⟩ y0).setCell ⟨r, n * 5 + 1, none⟩ y1).setCell ⟨r, n * 5 + 2, none⟩ y2).setCell ⟨r, n * 5 + 3, none⟩ y3).setCell ⟨r, n * 5 + 4, none⟩ y4) g s a pl op lv opn dep tb (n + 1) (lc ++ [y0, y1, y2, y3, y4]) ∧
      Below g W ((((((w3.setCell ⟨g, 8, none⟩ (.slice (some ⟨r, 0, none⟩) (n + 1) cap3)).setCell ⟨r, n * 5, none⟩ y0).setCell ⟨r, n * 5 + 1, none⟩ y1).setCell ⟨r, n * 5 + 2, none⟩ y2).setCell ⟨r, n * 5 + 3, none⟩ y3).setCell ⟨r, n * 5 + 4, none⟩ y4) := by
  have ho' := row_set ho (p := ⟨g, 8, none⟩) (by simp) (.slice (some ⟨r, 0, none⟩) (n + 1) cap3)
  have ht' := row_set ht (p := ⟨g, 8, none⟩) (by simp) (.slice (some ⟨r, 0, none⟩) (n + 1) cap3)
  obtain ⟨r', cap', hv, hr1, -, -, -, -, -, -, -, hset⟩ := row_last hx ho'
  injection hv with hv _ _
  injection hv with hv
  injection hv with hv _ _
  subst hv
  have hap := rows_apart ht ho (by decide)
  have hap' : ∀ q, tx.ownBlock = some q → q ≠ r := fun q hq e => hap q hq (by rw [e]; rfl)
  have hsb : ∀ {V : World} {o : Nat} {y : Value} {l : Value}, SB V g s a pl op lv opn dep tx l → SB (V.setCell ⟨r, o, none⟩ y) g s a pl op lv opn dep tx l := fun h => h.kept (Below.heap_setCell _ _ _ g (by dsimp only; omega))
  refine ⟨⟨tx, _, hsb (hsb (hsb (hsb (hsb (hb.setLs _))))), ?_, hset y0 y1 y2 y3 y4⟩, ?_⟩
  · exact row_set2 (row_set2 (row_set2 (row_set2 (row_set2 ht' hap' _) hap' _) hap' _) hap' _) hap' _
  · have hle : g ≤ r := by omega
    exact (((((hW.setCell (by simp) _).setCell hle _).setCell hle _).setCell hle _).setCell hle _).setCell hle _
theorem Sc.setAt {V : World} (h : Sc V g s a pl op lv opn dep tb n lc) (m : Nat) : Sc (V.setCell ⟨g, 1, none⟩ (.int .i64 m)) g s m pl op lv opn dep tb n lc := by
  obtain ⟨tx, ls, h1, h2, h3⟩ := h
  exact ⟨tx, ls, h1.setAt _ m rfl, row_set h2 (by simp) _, row_set h3 (by simp) _⟩
theorem Sc.below {V V' : World} (h : Sc V g s a pl op lv opn dep tb n lc) (hb : Below V.heap.size V V') : Sc V' g s a pl op lv opn dep tb n lc := by
  obtain ⟨tx, ls, h1, h2, h3⟩ := h
  exact ⟨tx, ls, h1.kept (hb.block g h1.lt), row_below h2 hb, row_below h3 hb⟩
end
set_option maxRecDepth 100000 in
set_option maxHeartbeats 8000000 in
theorem add_any {W : World} {g a : Nat} {s : List UInt8} {pl : Int} {op : Bool} {lv opn dep : Int} {n n0 : Nat} {lc lc0 : List Value} {tb : List UInt8} (k : Int) (t : List UInt8) (o : Int) (b : Bool) (A : Option Addr) (pn pcap : Nat) (m : Nat) (h : Sc W g s a pl op lv opn dep tb n0 lc0) (hn : n ≤ 100000)
    (HFL : ∀ V, Below W.heap.size W V → Calls Tryd.prog 54 #[.pointer (some ⟨g, 0, none⟩)] V fun e V' => e = .returned (.tuple #[]) ∧ Sc V' g s a pl op lv opn dep [] n lc ∧ Below g V V' ∧ ∀ k, W.heap.size ≤ k → k < V.heap.size → V'.heap[k]? = V.heap[k]?) :
    Calls Tryd.prog 70 #[.pointer (some ⟨g, 0, none⟩), .agg #[.int .i64 k, .string ⟨t.toArray⟩, .int .i64 o, .bool b, .slice A pn pcap], .int .i64 m] W fun e W' => e = .returned (.tuple #[]) ∧ Sc W' g s m pl op lv opn dep [] (n + 1) (lc ++ pc k t o b (.slice A pn pcap)) ∧ Below g W W' := by
  obtain ⟨i0, hi, hz0, hz1, hz2⟩ := info_parts infoPart
  obtain ⟨x, hx⟩ : ∃ x, x = W.alloc (.cells #[.int .i64 k, .string ⟨t.toArray⟩, .int .i64 o, .bool b, .slice A pn pcap] 38) := ⟨_, rfl⟩
  have HX := Lib.hid hx
  have hBx : Below W.heap.size W x := by rw [hx]; exact balloc _ _
  have HFX := Lib.hid (HFL x hBx)
  have hgl : g < W.heap.size := by obtain ⟨_, _, h1, _⟩ := h; exact h1.lt
  have hpx : x.heap[W.heap.size]? = some (.cells #[.int .i64 k, .string ⟨t.toArray⟩, .int .i64 o, .bool b, .slice A pn pcap] 38 (0, 0)) := by rw [hx]; exact al_new W _
  have HPX := Lib.hid hpx
  have HBX := Lib.hid hBx
  have hxs : W.heap.size < x.heap.size := by rw [hx]; simp
  have HXS := Lib.hid hxs
  clear hx h HFL hpx hBx hxs
  go_enter Tryd.func70, Tryd.ntmps70
  go_wp2_with fail
  rw [← HX.out]
  refine HFX.out.mono ?_
  rintro e y ⟨rfl, hsc, hby, hky⟩
  have hpy := (hky W.heap.size (Nat.le_refl _) HXS.out).trans HPX.out
  have hys : x.heap.size ≤ y.heap.size := hby.size
  have HBY := Lib.hid (show Below g W y from (HBX.out.mono (by omega)).trans hby)
  obtain ⟨tx, ls, hb1, ht1, hls1⟩ := hsc
  obtain ⟨lA, lcap, rfl⟩ := row_val hls1
  obtain ⟨c0, c1, -, -, -, -, -, c7, c8⟩ := hb1.cells
  have f8 := hb1.thaw 8
  have f1 := hb1.thaw 1
  have p0 : y.cell? ⟨W.heap.size, 0, none⟩ = some (.int .i64 k) := Lib.cell_of_heap hpy 0
  have p1 : y.cell? ⟨W.heap.size, 1, none⟩ = some (.string ⟨t.toArray⟩) := Lib.cell_of_heap hpy 1
  have p2 : y.cell? ⟨W.heap.size, 2, none⟩ = some (.int .i64 o) := Lib.cell_of_heap hpy 2
  have p3 : y.cell? ⟨W.heap.size, 3, none⟩ = some (.bool b) := Lib.cell_of_heap hpy 3
  have p4 : y.cell? ⟨W.heap.size, 4, none⟩ = some (.slice A pn pcap) := Lib.cell_of_heap hpy 4
  have HB1 := Lib.hid hb1
  have HT1 := Lib.hid ht1
  have HL1 := Lib.hid hls1
  have q1 : g < y.heap.size := by have := HXS.out; omega
  have q2 : W.heap.size < y.heap.size := by have := HXS.out; omega
  have q3 : ¬ W.heap.size = y.heap.size := by omega
  have n0' : (0 : Int) ≤ (n : Int) := by omega
  have n1 : ((n : Int) < (n : Int) + 1) = True := eq_true (by omega)
  obtain ⟨v3, w3, hrun, hown3, hgrow3, -⟩ := run_append_own (P := Tryd.prog) ((y.alloc (.cells #[.int .i64 0, .string ⟨#[]⟩, .int .i64 0, .bool false, .slice none 0 0] 38)).drew) (g + 1) 34 34 38 i0 _ 5 64 Tryd.underlying34 hi hz0 hz1 hz2 rfl (by decide) (.slice lA n lcap) n lc (row_below HL1.out ((Below.refl _ _).alloc (Nat.le_refl _) _).drew) ⟨y.heap.size, 0, none⟩ 1 1 zeroP rfl (five_cells y _) five_one (by unfold maxLen; omega) (by omega) (by simp; omega)
  obtain ⟨r, cap3, rfl, hr1, hr2, hr3, z0, z1, z2, z3, z4, -⟩ := row_last HL1.out.1 hown3
  have hb3 : SB w3 g s a pl op lv opn dep tx (.slice lA n lcap) := HB1.out.kept (by
    rw [hgrow3.block g (by simp; omega) (fun e => by have := (HL1.out.lt g e.symm).1; omega)]
    exact ((Below.refl y.heap.size y).alloc (Nat.le_refl _) _).block g q1)
  have ht3 : w3.ownsRow (g + 1) 5 1 tx ([] : List UInt8).length (Lib.byteCells []) := row_grown (row_below HT1.out (((Below.refl _ _).alloc (Nat.le_refl _) _).drew)) hgrow3 (fun r hr => by
      intro hr'
      exact rows_apart HT1.out HL1.out (by decide) r hr' hr)
  have hBB : Below g W w3 := HBY.out.trans ((((Below.refl g y).alloc (by omega) _).drew).grown hgrow3 (by simp; omega) (fun k hk => by have := (HL1.out.lt k hk).1; omega))
  have HF1 := Lib.hid (add_one hb3 ht3 HL1.out.1 hown3 hBB (.int .i64 k) (.string ⟨t.toArray⟩) (.int .i64 o) (.bool b) (.slice A pn pcap))
  have HF2 := Lib.hid (add_two hb3 ht3 HL1.out.1 hown3 hBB (.int .i64 k) (.string ⟨t.toArray⟩) (.int .i64 o) (.bool b) (.slice A pn pcap))
  obtain ⟨e0, e1, -, -, -, -, -, e7, e8⟩ := hb3.cells
  have t1 := hb3.thaw 1
  have t8 := hb3.thaw 8
  have hrg : ¬ r = g := by omega
  have hgr : ¬ g = r := by omega
  have hrf := hr3 (n * 5)
  have hrf1 := hr3 (n * 5 + 1)
  have hrf2 := hr3 (n * 5 + 2)
  have hrf3 := hr3 (n * 5 + 3)
  have hrf4 := hr3 (n * 5 + 4)
  have HRUN := Lib.hid hrun
  clear hky hpy hby hb1 ht1 hls1 HPX hrun hown3 hgrow3 hr3 hb3 ht3 hBB
  go_wp2_with fail
  apply merge
  case h =>
    intro hrest
    apply merge
    case h =>
      intro hrest2
      go_region_law (refine step_append_eq rfl _ _ 34 rfl 34 rfl _ _ rfl rfl HRUN.out ?_)
      all_goals first | (with_reducible exact hrest.out) | (with_reducible exact hrest2.out)
    case g =>
      have hfin := HF2.out
      clear HF1 HF2
      generalize ((((((w3.setCell ⟨g, 8, none⟩ (.slice (some ⟨r, 0, none⟩) (n + 1) cap3)).setCell ⟨r, n * 5, none⟩ (.int .i64 k)).setCell ⟨r, n * 5 + 1, none⟩ (.string ⟨t.toArray⟩)).setCell ⟨r, n * 5 + 2, none⟩ (.int .i64 o)).setCell ⟨r, n * 5 + 3, none⟩ (.bool b)).setCell ⟨r, n * 5 + 4, none⟩ (.slice A pn pcap)) = Y at hfin ⊢
      have HY := Lib.hid hfin
      obtain ⟨⟨ty, ly, hby, -, -⟩, -⟩ := hfin
      obtain ⟨-, g1, -⟩ := hby.cells
      have i1 := hby.thaw 1
      clear hby e0 e1 e7 e8 t1 t8 z0 z1 z2 z3 z4 hrf hrf1 hrf2 hrf3 hrf4
      go_wp2
      go_end0
      exact ⟨rfl, HY.out.1.setAt m, HY.out.2.setCell (by simp) _⟩
  case g =>
    have hfin := HF1.out
    clear HF1 HF2
    generalize ((((((w3.setCell ⟨r, n * 5, none⟩ (.int .i64 k)).setCell ⟨r, n * 5 + 1, none⟩ (.string ⟨t.toArray⟩)).setCell ⟨r, n * 5 + 2, none⟩ (.int .i64 o)).setCell ⟨r, n * 5 + 3, none⟩ (.bool b)).setCell ⟨r, n * 5 + 4, none⟩ (.slice A pn pcap)).setCell ⟨g, 8, none⟩ (.slice (some ⟨r, 0, none⟩) (n + 1) cap3)) = Y at hfin ⊢
    have HY := Lib.hid hfin
    obtain ⟨⟨ty, ly, hby, -, -⟩, -⟩ := hfin
    obtain ⟨-, g1, -⟩ := hby.cells
    have i1 := hby.thaw 1
    clear hby e0 e1 e7 e8 t1 t8 z0 z1 z2 z3 z4 hrf hrf1 hrf2 hrf3 hrf4
    go_wp2
    go_end0
    exact ⟨rfl, HY.out.1.setAt m, HY.out.2.setCell (by simp) _⟩
end W
end Go.Proofs.YtggjhkmokgliaaaDoor
