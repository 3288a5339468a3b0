/- Words: the scope of the parser in memory; literal, flush, add. -/
import Derived.Test.YtggjhkmokgliaaaDoorW10d
import Derived.Deep.RegionLaw
import Derived.Deep.QuietTactic
import Derived.BigQuiet
import Derived.StillTailTactics
import Derived.IntWalk
namespace Go.Proofs.YtggjhkmokgliaaaDoor
open Go.RowKit K
namespace K
theorem step_append_own {P : Program} {ops : Array Oper} {o : Oper} {a : Act} {w : World} {K : Act → World → Prop} {Q : Exit → Act → World → Prop} {E : Prop}
    (hg : o.guard = none) (s x : Operand) (t : TypeId) (hop : o.op = Op.call { callee := Callee.builtin Builtin.append, args := #[s, x], argTypes := #[t, t] })
    (base : Nat) (e : TypeId) (i : TypeInfo) (z : Value) (size bytes : Nat) (ht : P.underlying t = some (.slice e)) (hi : P.info? e = some i) (hz : i.zero = some z)
    (hsize : i.size = size) (hby : i.bytes = bytes) (hzs : z.cells.size = size) (hsz : 0 < size)
    (v : Value) (n : Nat) (xs : List Value) (hs : a.eval s = v) (hown : w.ownsRow base e size v n xs)
    (ad : Addr) (m c : Nat) (news : List Value) (hx : a.eval x = .slice (some ad) m c) (hl : news.length = m * size) (hnews : ∀ j u, news[j]? = some u → w.cell? (ad.add j) = some u) (h1 : ∀ u ∈ news, u.oneCell' = true)
    (h63 : n + m ≤ maxLen) (hbytes : (n + m) * bytes ≤ 140737488355328) (hbase : base ≤ w.heap.size)
    (hK : ∀ v' w', w'.ownsRow base e size v' (n + m) (xs ++ news) → w.grownBy w' v.ownBlock → K (a.put o.dst v') w') :
    if Region.wanted o (yielded ops a.tmps) = true then Oper.wp P o a w K Q else E := by
  have hw : Region.wanted o (yielded ops a.tmps) = true := by simp [Region.wanted, hg]
  rw [if_pos hw]
  obtain ⟨v', w', hr, h2, h3, _⟩ := run_append_own (P := P) w base t o.type e i z size bytes ht hi hz hsize hby hzs hsz v n xs hown ad m c news hl hnews h1 h63 hbytes hbase
  unfold Oper.wp
  simp [execOp, hop, resolve, invoke, builtin, hs, hx, hr, Result.andThen]
  exact hK v' w' h2 h3
/-- An append whose run is known, at a step of a region that draws. -/
theorem step_append_eq {P : Program} {ops : Array Oper} {o : Oper} {a : Act} {w : World} {K : Act → World → Prop} {Q : Exit → Act → World → Prop} {E : Prop}
    (hg : o.guard = none) (s x : Operand) (t : TypeId) (hop : o.op = Op.call { callee := Callee.builtin Builtin.append, args := #[s, x], argTypes := #[t, t] }) (ty : TypeId) (hty : o.type = ty)
    (v u : Value) (hs : a.eval s = v) (hx : a.eval x = u) {v' : Value} {w' : World} (hr : (Builtin.append_ #[t, t] ty #[v, u]).run P w = .ok v' w') (hK : K (a.put o.dst v') w') :
    if Region.wanted o (yielded ops a.tmps) = true then Oper.wp P o a w K Q else E := by
  have hw : Region.wanted o (yielded ops a.tmps) = true := by simp [Region.wanted, hg]
  rw [if_pos hw]
  subst hty
  unfold Oper.wp
  simp [execOp, hop, resolve, invoke, builtin, hs, hx, hr, Result.andThen]
  exact hK
theorem one_cells (w : World) (x : Value) (t : TypeId) : ∀ (j : Nat) (u : Value), [x][j]? = some u → (w.alloc (.cells #[x] t)).cell? ((⟨w.heap.size, 0, none⟩ : Addr).add j) = some u := by
  intro j u hj
  match j, hj with
  | 0, hj => simp at hj; subst hj; simp [Addr.add]
/-- A row in memory stays where other blocks turn. -/
theorem row_grown {w w' : World} {row : Option Nat} {B : Nat} {e : TypeId} {k : Nat} {v : Value} {n : Nat} {xs : List Value} (h : w.ownsRow B e k v n xs) (hg : w.grownBy w' row) (hne : ∀ r, row = some r → v.ownBlock ≠ some r) : w'.ownsRow B e k v n xs := by
  refine ⟨h.1, ?_⟩
  rcases h.2 with h2 | ⟨g, cap, cur, hv, hb, hgb, rest⟩
  · exact .inl h2
  · refine .inr ⟨g, cap, cur, hv, hb, ?_, rest⟩
    rw [hg.block g (Array.getElem?_eq_some_iff.1 hgb).1 ?_]
    · exact hgb
    · intro e'
      refine hne g e'.symm ?_
      rw [hv]; rfl
theorem row_set {w : World} {B : Nat} {e : TypeId} {k : Nat} {v : Value} {n : Nat} {xs : List Value} (h : w.ownsRow B e k v n xs) {p : Addr} (hp : p.block < B) (u : Value) : (w.setCell p u).ownsRow B e k v n xs := by
  refine ⟨h.1, ?_⟩
  rcases h.2 with h2 | ⟨g, cap, cur, hv, hb, hgb, rest⟩
  · exact .inl h2
  · exact .inr ⟨g, cap, cur, hv, hb, (Below.heap_setCell w p u g (by omega)).trans hgb, rest⟩
theorem row_below {w w' : World} {B : Nat} {e : TypeId} {k : Nat} {v : Value} {n : Nat} {xs : List Value} (h : w.ownsRow B e k v n xs) (hb : Below w.heap.size w w') : w'.ownsRow B e k v n xs := by
  refine ⟨h.1, ?_⟩
  rcases h.2 with h2 | ⟨g, cap, cur, hv, hbg, hgb, rest⟩
  · exact .inl h2
  · exact .inr ⟨g, cap, cur, hv, hbg, (hb.block g (Array.getElem?_eq_some_iff.1 hgb).1).trans hgb, rest⟩
/-- Rows of two element types lie in two blocks. -/
theorem rows_apart {w : World} {B B' : Nat} {e e' : TypeId} {k k' : Nat} {v v' : Value} {n n' : Nat} {xs xs' : List Value} (h : w.ownsRow B e k v n xs) (h' : w.ownsRow B' e' k' v' n' xs') (hne : e ≠ e') : ∀ r, v.ownBlock = some r → v'.ownBlock ≠ some r := by
  intro r hr hr'
  rcases h.2 with ⟨h2, _⟩ | ⟨g, cap, cur, hv, _, hgb, _⟩
  · rw [h2] at hr; cases hr
  · rcases h'.2 with ⟨h2, _⟩ | ⟨g', cap', cur', hv', _, hgb', _⟩
    · rw [h2] at hr'; cases hr'
    · rw [hv] at hr
      rw [hv'] at hr'
      have e1 : g = r := by simpa [Value.ownBlock] using hr
      have e2 : g' = r := by simpa [Value.ownBlock] using hr'
      subst e1
      subst e2
      rw [hgb] at hgb'
      injection hgb' with hgb'
      injection hgb' with _ h3 _
      exact hne h3
end K
namespace W
/-- The scope's box. -/
def SB (W : World) (g : Nat) (s : List UInt8) (a : Nat) (pl : Int) (op : Bool) (lv opn dep : Int) (tx ls : Value) : Prop :=
  W.heap[g]? = some (.cells #[.string ⟨s.toArray⟩, .int .i64 a, .int .i64 pl, .bool op, .int .i64 lv, .int .i64 opn, .int .i64 dep, tx, ls] 82 (0, 0))
section
variable {W W' : World} {g a : Nat} {s : List UInt8} {pl : Int} {op : Bool} {lv opn dep : Int} {tx ls : Value}
theorem SB.lt (h : SB W g s a pl op lv opn dep tx ls) : g < W.heap.size := (Array.getElem?_eq_some_iff.1 h).1
theorem SB.cells (h : SB W g s a pl op lv opn dep tx ls) : W.cell? ⟨g, 0, none⟩ = some (.string ⟨s.toArray⟩) ∧ W.cell? ⟨g, 1, none⟩ = some (.int .i64 a) ∧ W.cell? ⟨g, 2, none⟩ = some (.int .i64 pl) ∧ W.cell? ⟨g, 3, none⟩ = some (.bool op) ∧ W.cell? ⟨g, 4, none⟩ = some (.int .i64 lv) ∧ W.cell? ⟨g, 5, none⟩ = some (.int .i64 opn) ∧ W.cell? ⟨g, 6, none⟩ = some (.int .i64 dep) ∧ W.cell? ⟨g, 7, none⟩ = some tx ∧ W.cell? ⟨g, 8, none⟩ = some ls :=
  ⟨Lib.cell_of_heap h 0, Lib.cell_of_heap h 1, Lib.cell_of_heap h 2, Lib.cell_of_heap h 3, Lib.cell_of_heap h 4, Lib.cell_of_heap h 5, Lib.cell_of_heap h 6, Lib.cell_of_heap h 7, Lib.cell_of_heap h 8⟩
theorem SB.thaw (h : SB W g s a pl op lv opn dep tx ls) (k : Nat) : W.frozen? ⟨g, k, none⟩ = false := Lib.frozen_of_heap h k
theorem SB.kept (h : SB W g s a pl op lv opn dep tx ls) (hg : W'.heap[g]? = W.heap[g]?) : SB W' g s a pl op lv opn dep tx ls := hg.trans h
theorem SB.setAt (h : SB W g s a pl op lv opn dep tx ls) (x : Int) (n : Nat) (hx : x = (n : Int)) : SB (W.setCell ⟨g, 1, none⟩ (.int .i64 x)) g s n pl op lv opn dep tx ls := by
  subst hx
  have := heap_setCell_same W g 1 _ _ (.int .i64 n) h
  unfold SB; rw [this]; simp
theorem SB.setTx (h : SB W g s a pl op lv opn dep tx ls) (v : Value) : SB (W.setCell ⟨g, 7, none⟩ v) g s a pl op lv opn dep v ls := by
  have := heap_setCell_same W g 7 _ _ v h
  unfold SB; rw [this]; simp
theorem SB.setLs (h : SB W g s a pl op lv opn dep tx ls) (v : Value) : SB (W.setCell ⟨g, 8, none⟩ v) g s a pl op lv opn dep tx v := by
  have := heap_setCell_same W g 8 _ _ v h
  unfold SB; rw [this]; simp
end
/-- A scope with its text and its list of n parts. -/
def Sc (W : World) (g : Nat) (s : List UInt8) (a : Nat) (pl : Int) (op : Bool) (lv opn dep : Int) (tb : List UInt8) (n : Nat) (lc : List Value) : Prop :=
  ∃ tx ls, SB W g s a pl op lv opn dep tx ls ∧ W.ownsRow (g + 1) 5 1 tx tb.length (Lib.byteCells tb) ∧ W.ownsRow (g + 1) 38 5 ls n lc
theorem row_val {w : World} {B : Nat} {e : TypeId} {k : Nat} {v : Value} {n : Nat} {xs : List Value} (h : w.ownsRow B e k v n xs) : ∃ A c, v = .slice A n c := by
  rcases h.2 with ⟨h1, h2⟩ | ⟨g, cap, cur, hv, _⟩
  · subst h2; exact ⟨none, 0, h1⟩
  · exact ⟨_, _, hv⟩
set_option maxRecDepth 100000 in
set_option maxHeartbeats 2000000 in
theorem literal_any {W : World} {g a : Nat} {s : List UInt8} {pl : Int} {op : Bool} {lv opn dep : Int} {tb : List UInt8} {n : Nat} {lc : List Value} (c : UInt8) (m : Nat) (h : Sc W g s a pl op lv opn dep tb n lc) (hl : tb.length ≤ 100000) (ha : a ≤ 100000) (hm : m ≤ 10) :
    Calls Tryd.prog 67 #[.pointer (some ⟨g, 0, none⟩), .int .u8 c.toNat, .int .i64 m] W fun e W' => e = .returned (.tuple #[]) ∧ Sc W' g s (a + m) pl op lv opn dep (tb ++ [c]) n lc ∧ Below g W W' := by
  obtain ⟨tx, ls, hb, ht, hls⟩ := h
  obtain ⟨i0, hi, hz0, hz1, hz2⟩ := info_parts infoByte
  obtain ⟨A, cap, rfl⟩ := row_val ht
  have HB := Lib.hid hb
  have HLS := Lib.hid hls
  have HT := Lib.hid ht
  have hlt := hb.lt
  obtain ⟨c0, c1, -, -, -, -, -, c7, c8⟩ := hb.cells
  have f1 := hb.thaw 1
  have f7 := hb.thaw 7
  have hbl : (Lib.byteCells tb).length ≤ 100000 := by rw [Lib.byteCells_length]; omega
  obtain ⟨ci, hci⟩ : ∃ ci : Int, ci = (c.toNat : Int) := ⟨_, rfl⟩
  have HCI := Lib.hid hci
  rw [← hci]
  clear hb hls ht hci
  go_enter Tryd.func67, Tryd.ntmps67
  go_wp2_with (at_builtin; refine wpList_append_own _ rfl _ _ 40 rfl (g + 1) 5 i0 (.int .u8 0) 1 1 Tryd.underlying40 hi hz0 hz1 hz2 rfl (by decide) _ _ _ rfl (HT.out.alloc _) ⟨W.heap.size, 0, none⟩ 1 1 [.int .u8 ci] rfl rfl (one_cells W _ _) (by intro u hu; simp at hu; subst hu; rfl) (by unfold maxLen; omega) (by omega) (by simp; omega) ?_)
  intro v' w2 hown' hgrow _
  have hb2 : SB w2 g s a pl op lv opn dep (.slice A tb.length cap) ls := HB.out.kept (by
    rw [hgrow.block g (by simp; omega) (fun e => by have := (HT.out.lt g e.symm).1; omega)]
    exact (balloc W _).block g hlt)
  have hls2 : w2.ownsRow (g + 1) 38 5 ls n lc := row_grown (HLS.out.alloc _) hgrow (fun r hr => rows_apart HT.out HLS.out (by decide) r hr)
  obtain ⟨A', cap', rfl⟩ := row_val hown'
  obtain ⟨e0, e1, -, -, -, -, -, e7, e8⟩ := hb2.cells
  have k1 := hb2.thaw 1
  have k7 := hb2.thaw 7
  have HB2 := Lib.hid hb2
  have HL2 := Lib.hid hls2
  have HO2 := Lib.hid hown'
  have HBB := Lib.hid (show Below g W w2 from ((Below.refl g W).alloc (by omega) _).grown hgrow (by simp; omega) (fun k hk => by have := (HT.out.lt k hk).1; omega))
  clear hb2 hls2 hown' hgrow
  go_wp2
  go_end0
  refine ⟨rfl, ⟨_, _, (HB2.out.setTx _).setAt _ (a + m) (by omega), ?_, row_set (row_set HL2.out (by simp) _) (by simp) _⟩, (HBB.out.setCell (by simp) _).setCell (by simp) _⟩
  have := HO2.out
  rw [show (tb ++ [c]).length = tb.length + 1 by simp, show Lib.byteCells (tb ++ [c]) = Lib.byteCells tb ++ [.int .u8 ci] by rw [Lib.byteCells_append, HCI.out]; rfl]
  exact row_set (row_set this (by simp) _) (by simp) _
end W
end Go.Proofs.YtggjhkmokgliaaaDoor
