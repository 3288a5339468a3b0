/- Words: add of the scope. -/
import Derived.Test.YtmgomklpjjkehaaGreatW08b
namespace Go.Proofs.YtmgomklpjjkehaaGreat
open Go.RowKit K
namespace WP
theorem flush_len (st : St) : (flush st).ls.length ≤ st.ls.length + 1 := by unfold flush; split <;> simp
theorem flush_dep (st : St) : (flush st).dep = st.dep := by unfold flush; split <;> rfl
theorem flush_a (st : St) : (flush st).a = st.a := by unfold flush; split <;> rfl
theorem flush_tx (st : St) : (flush st).tx = [] := by unfold flush; split <;> first | assumption | rfl
end WP
namespace W
theorem flush_any {V : World} {g : Nat} {c : WP.Ctx} {st : WP.St} (h : ScP V g c st) (hn : st.ls.length ≤ 90000) :
    Calls Tryz.prog 48 #[.pointer (some ⟨g, 0, none⟩)] V fun e V' => e = .returned (.tuple #[]) ∧ ScP V' g c (WP.flush st) ∧ Fr g V V' := by
  obtain ⟨lc, h1, h2⟩ := h
  by_cases htx : st.tx = []
  · have e : WP.flush st = st := by unfold WP.flush; rw [if_pos htx]
    rw [e]
    rw [htx] at h1
    exact (flush_nil h1).mono fun e V' ⟨he, hs, hf⟩ => ⟨he, ⟨lc, by rw [htx]; exact hs, h2.fr hf⟩, hf⟩
  · have e : WP.flush st = { st with tx := [], ls := st.ls ++ [.mk 1 st.tx 0 false []] } := by unfold WP.flush; rw [if_neg htx]
    rw [e]
    refine (flush_text h1 htx (by omega)).mono fun e V' ⟨he, hs, hf⟩ => ⟨he, ⟨_, by simpa using hs, LRep.snoc ?_ (h2.fr hf)⟩, hf⟩
    rw [PRep]
    exact ⟨none, 0, rfl, .inl rfl⟩
theorem cell7_one (w : World) (g r m : Nat) (l y0 y1 y2 y3 y4 : Value) (hgr : ¬ g = r) :
    ((((((w.setCell ⟨r, m, none⟩ y0).setCell ⟨r, m + 1, none⟩ y1).setCell ⟨r, m + 2, none⟩ y2).setCell ⟨r, m + 3, none⟩ y3).setCell ⟨r, m + 4, none⟩ y4).setCell ⟨g, 8, none⟩ l).cell? ⟨g, 7, none⟩ = w.cell? ⟨g, 7, none⟩ := by
  rw [World.cell?_setCell_other _ _ _ _ (by simp), set_far _ hgr, set_far _ hgr, set_far _ hgr, set_far _ hgr, set_far _ hgr]
theorem cell7_two (w : World) (g r m : Nat) (l y0 y1 y2 y3 y4 : Value) (hgr : ¬ g = r) :
    ((((((w.setCell ⟨g, 8, none⟩ l).setCell ⟨r, m, none⟩ y0).setCell ⟨r, m + 1, none⟩ y1).setCell ⟨r, m + 2, none⟩ y2).setCell ⟨r, m + 3, none⟩ y3).setCell ⟨r, m + 4, none⟩ y4).cell? ⟨g, 7, none⟩ = w.cell? ⟨g, 7, none⟩ := by
  rw [set_far _ hgr, set_far _ hgr, set_far _ hgr, set_far _ hgr, set_far _ hgr, World.cell?_setCell_other _ _ _ _ (by simp)]
/-- The end of add: what was proved of the world with the new part, put together. -/
theorem add_end {W x y Y : World} {g : Nat} {c : WP.Ctx} {st : WP.St} {k : Nat} {t : List UInt8} {o : Nat} {b : Bool} {ps : List WP.Part} {A : Option Addr} {pcap m n r cap3 lcap pn : Nat} {tx : Value} {lA : Option Addr} {lc : List Value}
    (hb1 : SB y g c.s st.a c.pl c.op c.lv c.opn st.dep tx (.slice lA n lcap)) (_hl1 : y.ownsRow (g + 1) 38 5 (.slice lA n lcap) n lc)
    (hY : Sc Y g c.s st.a c.pl c.op c.lv c.opn st.dep [] (n + 1) (lc ++ [.int .i64 k, .string ⟨t.toArray⟩, .int .i64 o, .bool b, .slice A pn pcap])) (hYb : Below g y Y)
    (hk : ∀ q, q < y.heap.size → q ≠ g → tx.ownBlock ≠ some q → (Value.slice lA n lcap).ownBlock ≠ some q → Y.heap[q]? = y.heap[q]?)
    (h8 : Y.cell? ⟨g, 8, none⟩ = some (.slice (some ⟨r, 0, none⟩) (n + 1) cap3)) (hrk : (Value.slice lA n lcap).ownBlock = some r ∨ y.heap.size ≤ r)
    (hxy : Fr g x y) (hWx : Below W.heap.size W x) (hg : g < W.heap.size)
    (hlr : LRep y (fun b => g < b ∧ ¬ ownSet y g b) (WP.flush st).ls lc) (hpy : PRep y (fun b => g < b ∧ ¬ ownSet y g b) (.mk k t o b ps) (pc k t o b (.slice A pn pcap))) (_hpn : pn = ps.length) (hnn : n = (WP.flush st).ls.length)
    (h7 : ∃ tx', Y.cell? ⟨g, 7, none⟩ = some tx' ∧ ∀ q, tx'.ownBlock = some q → tx.ownBlock = some q) :
    Ending.returned (.tuple #[]) = .returned (.tuple #[]) ∧ ScP (Y.setCell ⟨g, 1, none⟩ (.int .i64 m)) g c (WP.add (.mk k t o b ps) m st) ∧ Fr g W (Y.setCell ⟨g, 1, none⟩ (.int .i64 m)) := by
  obtain ⟨ty, ly, hby, hty, hly⟩ := hY
  have e8 : ly = .slice (some ⟨r, 0, none⟩) (n + 1) cap3 := Option.some.inj (hby.cells.2.2.2.2.2.2.2.2.symm.trans h8)
  have hfy : Fr g y (Y.setCell ⟨g, 1, none⟩ (.int .i64 m)) := by
    refine Fr.mk' hb1 (hby.setAt _ m rfl) (hYb.setCell (by simp) _) (fun q h1 h2 h3 h4 => (Below.heap_setCell Y _ _ q (by dsimp only; exact h2)).trans (hk q h1 h2 h3 h4)) (fun q hq => ?_) (fun q hq => ?_)
    · obtain ⟨tx', h7a, h7b⟩ := h7
      obtain rfl : ty = tx' := Option.some.inj (hby.cells.2.2.2.2.2.2.2.1.symm.trans h7a)
      exact .inl (h7b q hq)
    · subst e8
      have e' : r = q := by simpa [Value.ownBlock] using hq
      subst e'
      exact hrk
  refine ⟨rfl, ⟨_, ?_, LRep.fr (LRep.snoc hpy hlr) hfy⟩, ((Fr.of_below hWx hg).trans hxy).trans hfy⟩
  have hlen : (WP.add (.mk k t o b ps) m st).ls.length = n + 1 := by unfold WP.add; simp [hnn]
  have hdep : (WP.add (.mk k t o b ps) m st).dep = st.dep := by unfold WP.add; simp [WP.flush_dep]
  have htx : (WP.add (.mk k t o b ps) m st).tx = [] := by unfold WP.add; simp [WP.flush_tx]
  rw [hlen, hdep, htx]
  exact ⟨ty, ly, hby.setAt _ m rfl, row_set hty (by simp) _, row_set hly (by simp) _⟩
set_option maxRecDepth 100000 in
set_option maxHeartbeats 8000000 in
theorem add_any {W : World} {g : Nat} {c : WP.Ctx} {st : WP.St} (k : Nat) (t : List UInt8) (o : Nat) (b : Bool) (ps : List WP.Part) (A : Option Addr) (pcap : Nat) (m : Nat) (h : ScP W g c st) (hn : st.ls.length ≤ 90000)
    (hp : PRep W (fun b => g < b ∧ ¬ ownSet W g b) (.mk k t o b ps) (pc k t o b (.slice A ps.length pcap))) :
    Calls Tryz.prog 73 #[.pointer (some ⟨g, 0, none⟩), .agg #[.int .i64 k, .string ⟨t.toArray⟩, .int .i64 o, .bool b, .slice A ps.length pcap], .int .i64 m] W fun e W' => e = .returned (.tuple #[]) ∧ ScP W' g c (WP.add (.mk k t o b ps) m st) ∧ Fr g W W' := by
  obtain ⟨pn, hpn⟩ : ∃ pn, pn = ps.length := ⟨_, rfl⟩
  have HPN := Lib.hid hpn
  have hpn0 : 0 ≤ pn := Nat.zero_le _
  rw [← hpn] at hp ⊢
  clear hpn
  obtain ⟨i0, hi, hz0, hz1, hz2⟩ := info_parts infoPart
  obtain ⟨x, hx⟩ : ∃ x, x = W.alloc (.cells #[.int .i64 k, .string ⟨t.toArray⟩, .int .i64 o, .bool b, .slice A pn pcap] 38) := ⟨_, rfl⟩
  have HX := Lib.hid hx
  have hBx : Below W.heap.size W x := by rw [hx]; exact balloc _ _
  have hgl := h.lt
  have HFX := Lib.hid (flush_any (h.below hBx) hn)
  have HPX := Lib.hid (show PRep x (fun b => g < b ∧ ¬ ownSet x g b) (.mk k t o b ps) (pc k t o b (.slice A pn pcap)) from PRep.mono (fun b hb hl => ⟨⟨hb.1, fun e => hb.2 ((Fr.of_below hBx hgl).own b hl e)⟩, hBx.block b hl⟩) _ _ hp)
  have HNO := Lib.hid (show ¬ ownSet x g W.heap.size from fun e => by
    obtain ⟨lc, hsc, -⟩ := h
    obtain ⟨tx, ls, hb, ht, hls⟩ := hsc
    rw [own_same8 (hBx.block g hgl), own_iff hb] at e
    rcases e with e | e | e
    · omega
    · have := own_lt ht _ e; omega
    · have := own_lt hls _ e; omega)
  have hpx : x.heap[W.heap.size]? = some (.cells #[.int .i64 k, .string ⟨t.toArray⟩, .int .i64 o, .bool b, .slice A pn pcap] 38 (0, 0)) := by rw [hx]; exact al_new W _
  have HPBX := Lib.hid hpx
  have HBX := Lib.hid hBx
  have hxs : W.heap.size < x.heap.size := by rw [hx]; simp
  have HXS := Lib.hid hxs
  clear hx h hp hpx hBx hxs
  go_enter Tryz.func73, Tryz.ntmps73
  go_wp2_with fail
  rw [← HX.out]
  refine HFX.out.mono ?_
  rintro e y ⟨rfl, hscp, hfr⟩
  have hpy := (hfr.keep W.heap.size HXS.out HNO.out).trans HPBX.out
  have hys : x.heap.size ≤ y.heap.size := hfr.below.size
  have HFXY := Lib.hid hfr
  have HPY := Lib.hid (show PRep y (fun b => g < b ∧ ¬ ownSet y g b) (.mk k t o b ps) (pc k t o b (.slice A pn pcap)) from PRep.mono (fun b hb hl => ⟨⟨hb.1, fun e => hb.2 (hfr.own b hl e)⟩, hfr.keep b hl hb.2⟩) _ _ HPX.out)
  obtain ⟨lc, hsc, hlr⟩ := hscp
  have HLR := Lib.hid hlr
  have hn1 : (WP.flush st).ls.length ≤ 100000 := by have := WP.flush_len st; omega
  obtain ⟨n, hnn⟩ : ∃ n, n = (WP.flush st).ls.length := ⟨_, rfl⟩
  have HNN := Lib.hid hnn
  rw [← hnn] at hsc hn1
  have hdl : (WP.flush st).dep = st.dep := WP.flush_dep st
  have hal : (WP.flush st).a = st.a := WP.flush_a st
  have htl : (WP.flush st).tx = [] := WP.flush_tx st
  rw [hdl, hal, htl] at hsc
  clear hnn hlr hfr hdl hal htl
  obtain ⟨tx, ls, hb1, ht1, hls1⟩ := hsc
  have hn := hn1
  obtain ⟨lA, lcap, rfl⟩ := row_val hls1
  obtain ⟨c0, c1, -, -, -, -, -, c7, c8⟩ := hb1.cells
  have f8 := hb1.thaw 8
  have f1 := hb1.thaw 1
  have p0 : y.cell? ⟨W.heap.size, 0, none⟩ = some (.int .i64 k) := Lib.cell_of_heap hpy 0
  have p1 : y.cell? ⟨W.heap.size, 1, none⟩ = some (.string ⟨t.toArray⟩) := Lib.cell_of_heap hpy 1
  have p2 : y.cell? ⟨W.heap.size, 2, none⟩ = some (.int .i64 o) := Lib.cell_of_heap hpy 2
  have p3 : y.cell? ⟨W.heap.size, 3, none⟩ = some (.bool b) := Lib.cell_of_heap hpy 3
  have p4 : y.cell? ⟨W.heap.size, 4, none⟩ = some (.slice A pn pcap) := Lib.cell_of_heap hpy 4
  have HB1 := Lib.hid hb1
  have HT1 := Lib.hid ht1
  have HL1 := Lib.hid hls1
  have q1 : g < y.heap.size := by have := HXS.out; omega
  have q2 : W.heap.size < y.heap.size := by have := HXS.out; omega
  have q3 : ¬ W.heap.size = y.heap.size := by omega
  have n0' : (0 : Int) ≤ (n : Int) := by omega
  have n1 : ((n : Int) < (n : Int) + 1) = True := eq_true (by omega)
  obtain ⟨v3, w3, hrun, hown3, hgrow3, -, hwhere⟩ := run_append_own_at (P := Tryz.prog) ((y.alloc (.cells #[.int .i64 0, .string ⟨#[]⟩, .int .i64 0, .bool false, .slice none 0 0] 38)).drew) (g + 1) 22 22 38 i0 _ 5 64 Tryz.underlying22 hi hz0 hz1 hz2 rfl (by decide) (.slice lA n lcap) n lc (row_below HL1.out ((Below.refl _ _).alloc (Nat.le_refl _) _).drew) ⟨y.heap.size, 0, none⟩ 1 1 zeroP rfl (five_cells y _) five_one (by unfold maxLen; omega) (by omega) (by simp; omega)
  obtain ⟨r, cap3, rfl, hr1, hr2, hr3, z0, z1, z2, z3, z4, -⟩ := row_last HL1.out.1 hown3
  have hb3 : SB w3 g c.s st.a c.pl c.op c.lv c.opn st.dep tx (.slice lA n lcap) := HB1.out.kept (by
    rw [hgrow3.block g (by simp; omega) (fun e => by have := (HL1.out.lt g e.symm).1; omega)]
    exact ((Below.refl y.heap.size y).alloc (Nat.le_refl _) _).block g q1)
  have ht3 : w3.ownsRow (g + 1) 5 1 tx ([] : List UInt8).length (Lib.byteCells []) := row_grown (row_below HT1.out (((Below.refl _ _).alloc (Nat.le_refl _) _).drew)) hgrow3 (fun r hr => by
      intro hr'
      exact rows_apart HT1.out HL1.out (by decide) r hr' hr)
  have hrk : (Value.slice lA n lcap).ownBlock = some r ∨ y.heap.size ≤ r := by
    rcases hwhere with h1 | h1
    · exact .inl (by rw [← h1]; rfl)
    · have : r = y.heap.size + 1 := by simpa [Value.ownBlock] using h1
      exact .inr (by omega)
  have hkp : ∀ k, k < y.heap.size → k ≠ g → tx.ownBlock ≠ some k → (Value.slice lA n lcap).ownBlock ≠ some k → w3.heap[k]? = y.heap[k]? := fun k h2 _ _ h1 => by
    rw [hgrow3.block k (by simp; omega) (fun e => h1 e.symm)]
    exact ((Below.refl y.heap.size y).alloc (Nat.le_refl _) _).block k h2
  have hst : ∀ (U : World) (o : Nat) (u : Value) (k : Nat), k < y.heap.size → (Value.slice lA n lcap).ownBlock ≠ some k → (U.setCell ⟨r, o, none⟩ u).heap[k]? = U.heap[k]? := fun U o u k h1 h2 => Below.heap_setCell U _ _ k (by dsimp only; rintro rfl; rcases hrk with h | h; exact h2 h; omega)
  have hsg : ∀ (U : World) (o : Nat) (u : Value) (k : Nat), k ≠ g → (U.setCell ⟨g, o, none⟩ u).heap[k]? = U.heap[k]? := fun U o u k h1 => Below.heap_setCell U _ _ k (by dsimp only; exact h1)
  have hBB : Below g y w3 := ((((Below.refl g y).alloc (by omega) _).drew).grown hgrow3 (by simp; omega) (fun k hk => by have := (HL1.out.lt k hk).1; omega))
  have HF1 := Lib.hid (add_one hb3 ht3 HL1.out.1 hown3 hBB (.int .i64 k) (.string ⟨t.toArray⟩) (.int .i64 o) (.bool b) (.slice A pn pcap))
  have HF2 := Lib.hid (add_two hb3 ht3 HL1.out.1 hown3 hBB (.int .i64 k) (.string ⟨t.toArray⟩) (.int .i64 o) (.bool b) (.slice A pn pcap))
  have HK1 := Lib.hid (show ∀ q, q < y.heap.size → q ≠ g → tx.ownBlock ≠ some q → (Value.slice lA n lcap).ownBlock ≠ some q → ((((((w3.setCell ⟨r, n * 5, none⟩ (.int .i64 k)).setCell ⟨r, n * 5 + 1, none⟩ (.string ⟨t.toArray⟩)).setCell ⟨r, n * 5 + 2, none⟩ (.int .i64 o)).setCell ⟨r, n * 5 + 3, none⟩ (.bool b)).setCell ⟨r, n * 5 + 4, none⟩ (.slice A pn pcap)).setCell ⟨g, 8, none⟩ (.slice (some ⟨r, 0, none⟩) (n + 1) cap3)).heap[q]? = y.heap[q]? from fun q h1 h2 h3 h4 => (hsg _ _ _ q h2).trans ((hst _ _ _ q h1 h4).trans ((hst _ _ _ q h1 h4).trans ((hst _ _ _ q h1 h4).trans ((hst _ _ _ q h1 h4).trans ((hst _ _ _ q h1 h4).trans (hkp q h1 h2 h3 h4)))))))
  have HK2 := Lib.hid (show ∀ q, q < y.heap.size → q ≠ g → tx.ownBlock ≠ some q → (Value.slice lA n lcap).ownBlock ≠ some q → ((((((w3.setCell ⟨g, 8, none⟩ (.slice (some ⟨r, 0, none⟩) (n + 1) cap3)).setCell ⟨r, n * 5, none⟩ (.int .i64 k)).setCell ⟨r, n * 5 + 1, none⟩ (.string ⟨t.toArray⟩)).setCell ⟨r, n * 5 + 2, none⟩ (.int .i64 o)).setCell ⟨r, n * 5 + 3, none⟩ (.bool b)).setCell ⟨r, n * 5 + 4, none⟩ (.slice A pn pcap)).heap[q]? = y.heap[q]? from fun q h1 h2 h3 h4 => (hst _ _ _ q h1 h4).trans ((hst _ _ _ q h1 h4).trans ((hst _ _ _ q h1 h4).trans ((hst _ _ _ q h1 h4).trans ((hst _ _ _ q h1 h4).trans ((hsg _ _ _ q h2).trans (hkp q h1 h2 h3 h4)))))))
  have HRK := Lib.hid hrk
  obtain ⟨e0, e1, -, -, -, -, -, e7, e8⟩ := hb3.cells
  have t1 := hb3.thaw 1
  have t8 := hb3.thaw 8
  have hrg : ¬ r = g := by omega
  have hgr : ¬ g = r := by omega
  have hrf := hr3 (n * 5)
  have hrf1 := hr3 (n * 5 + 1)
  have hrf2 := hr3 (n * 5 + 2)
  have hrf3 := hr3 (n * 5 + 3)
  have hrf4 := hr3 (n * 5 + 4)
  have HRUN := Lib.hid hrun
  clear hpy hb1 ht1 hls1 HPBX hrun hown3 hgrow3 hr3 hb3 ht3 hBB hwhere hst hsg hkp hrk
  go_wp2_with fail
  apply merge8
  case h =>
    intro hrest
    apply merge8
    case h =>
      intro hrest2
      go_region_law (refine step_append_eq8 rfl _ _ 22 rfl 22 rfl _ _ rfl rfl HRUN.out ?_)
      all_goals first | (with_reducible exact hrest.out) | (with_reducible exact hrest2.out)
    case g =>
      have hfin := And.intro HF2.out HK2.out
      have hy8 := cell8_two w3 g r (n * 5) (.slice (some ⟨r, 0, none⟩) (n + 1) cap3) (.int .i64 k) (.string ⟨t.toArray⟩) (.int .i64 o) (.bool b) (.slice A pn pcap) _ e8 hgr
      have hy7 := cell7_two w3 g r (n * 5) (.slice (some ⟨r, 0, none⟩) (n + 1) cap3) (.int .i64 k) (.string ⟨t.toArray⟩) (.int .i64 o) (.bool b) (.slice A pn pcap) hgr
      rw [e7] at hy7
      clear HF1 HF2 HK1 HK2
      generalize ((((((w3.setCell ⟨g, 8, none⟩ (.slice (some ⟨r, 0, none⟩) (n + 1) cap3)).setCell ⟨r, n * 5, none⟩ (.int .i64 k)).setCell ⟨r, n * 5 + 1, none⟩ (.string ⟨t.toArray⟩)).setCell ⟨r, n * 5 + 2, none⟩ (.int .i64 o)).setCell ⟨r, n * 5 + 3, none⟩ (.bool b)).setCell ⟨r, n * 5 + 4, none⟩ (.slice A pn pcap)) = Y at hfin hy8 hy7 ⊢
      have HY := Lib.hid hfin
      have HY8 := Lib.hid hy8
      have HY7 := Lib.hid hy7
      clear hy8 hy7
      obtain ⟨⟨⟨ty, ly, hby, -, -⟩, -⟩, -⟩ := hfin
      obtain ⟨-, g1, -⟩ := hby.cells
      have i1 := hby.thaw 1
      clear hby e0 e1 e7 e8 t1 t8 z0 z1 z2 z3 z4 hrf hrf1 hrf2 hrf3 hrf4
      go_wp2
      go_end0
      exact add_end HB1.out HL1.out HY.out.1.1 HY.out.1.2 HY.out.2 HY8.out HRK.out HFXY.out HBX.out hgl HLR.out HPY.out HPN.out HNN.out ⟨_, HY7.out, fun _ h => h⟩
  case g =>
    have hfin := And.intro HF1.out HK1.out
    have hy8 := cell8_one w3 g r (n * 5) (.slice (some ⟨r, 0, none⟩) (n + 1) cap3) (.int .i64 k) (.string ⟨t.toArray⟩) (.int .i64 o) (.bool b) (.slice A pn pcap) _ e8 hgr
    have hy7 := cell7_one w3 g r (n * 5) (.slice (some ⟨r, 0, none⟩) (n + 1) cap3) (.int .i64 k) (.string ⟨t.toArray⟩) (.int .i64 o) (.bool b) (.slice A pn pcap) hgr
    rw [e7] at hy7
    clear HF1 HF2 HK1 HK2
    generalize ((((((w3.setCell ⟨r, n * 5, none⟩ (.int .i64 k)).setCell ⟨r, n * 5 + 1, none⟩ (.string ⟨t.toArray⟩)).setCell ⟨r, n * 5 + 2, none⟩ (.int .i64 o)).setCell ⟨r, n * 5 + 3, none⟩ (.bool b)).setCell ⟨r, n * 5 + 4, none⟩ (.slice A pn pcap)).setCell ⟨g, 8, none⟩ (.slice (some ⟨r, 0, none⟩) (n + 1) cap3)) = Y at hfin hy8 hy7 ⊢
    have HY := Lib.hid hfin
    have HY8 := Lib.hid hy8
    have HY7 := Lib.hid hy7
    clear hy8 hy7
    obtain ⟨⟨⟨ty, ly, hby, -, -⟩, -⟩, -⟩ := hfin
    obtain ⟨-, g1, -⟩ := hby.cells
    have i1 := hby.thaw 1
    clear hby e0 e1 e7 e8 t1 t8 z0 z1 z2 z3 z4 hrf hrf1 hrf2 hrf3 hrf4
    go_wp2
    go_end0
    exact add_end HB1.out HL1.out HY.out.1.1 HY.out.1.2 HY.out.2 HY8.out HRK.out HFXY.out HBX.out hgl HLR.out HPY.out HPN.out HNN.out ⟨_, HY7.out, fun _ h => h⟩
end W
end Go.Proofs.YtmgomklpjjkehaaGreat
