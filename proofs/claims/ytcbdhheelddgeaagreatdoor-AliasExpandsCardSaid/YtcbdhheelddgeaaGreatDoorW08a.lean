/- Words: the scope of the parser in memory, what stays where it works, the parts in memory. -/
import Derived.Test.YtcbdhheelddgeaaGreatDoorW07e
import Derived.Test.YtcbdhheelddgeaaGreatDoorP08
import Derived.Deep.RegionLaw
import Derived.Deep.QuietTactic
import Derived.BigQuiet
import Derived.StillTailTactics
import Derived.IntWalk
import Derived.Lib.AppendIntMem
import Derived.Lib.FrozenHead2
import Derived.Lib.Builder
import Derived.Maps.AppendAt
import Derived.Laws.IdiomStrings
namespace Go.Proofs.YtcbdhheelddgeaaGreatDoor
open Go.RowKit K
/-- A goal that several ways share. -/
structure Shared8 (G : Prop) : Prop where
  out : G
theorem merge8 {G T : Prop} (h : Shared8 G → T) (g : G) : T := h ⟨g⟩
namespace K
theorem step_append_own {P : Program} {ops : Array Oper} {o : Oper} {a : Act} {w : World} {K : Act → World → Prop} {Q : Exit → Act → World → Prop} {E : Prop}
    (hg : o.guard = none) (s x : Operand) (t : TypeId) (hop : o.op = Op.call { callee := Callee.builtin Builtin.append, args := #[s, x], argTypes := #[t, t] })
    (base : Nat) (e : TypeId) (i : TypeInfo) (z : Value) (size bytes : Nat) (ht : P.underlying t = some (.slice e)) (hi : P.info? e = some i) (hz : i.zero = some z)
    (hsize : i.size = size) (hby : i.bytes = bytes) (hzs : z.cells.size = size) (hsz : 0 < size)
    (v : Value) (n : Nat) (xs : List Value) (hs : a.eval s = v) (hown : w.ownsRow base e size v n xs)
    (ad : Addr) (m c : Nat) (news : List Value) (hx : a.eval x = .slice (some ad) m c) (hl : news.length = m * size) (hnews : ∀ j u, news[j]? = some u → w.cell? (ad.add j) = some u) (h1 : ∀ u ∈ news, u.oneCell' = true)
    (h63 : n + m ≤ maxLen) (hbytes : (n + m) * bytes ≤ 140737488355328) (hbase : base ≤ w.heap.size)
    (hK : ∀ v' w', w'.ownsRow base e size v' (n + m) (xs ++ news) → w.grownBy w' v.ownBlock → K (a.put o.dst v') w') :
    if Region.wanted o (yielded ops a.tmps) = true then Oper.wp P o a w K Q else E := by
  have hw : Region.wanted o (yielded ops a.tmps) = true := by simp [Region.wanted, hg]
  rw [if_pos hw]
  obtain ⟨v', w', hr, h2, h3, _⟩ := run_append_own (P := P) w base t o.type e i z size bytes ht hi hz hsize hby hzs hsz v n xs hown ad m c news hl hnews h1 h63 hbytes hbase
  unfold Oper.wp
  simp [execOp, hop, resolve, invoke, builtin, hs, hx, hr, Result.andThen]
  exact hK v' w' h2 h3
/-- An append whose run is known, at a step of a region that draws. -/
theorem step_append_eq8 {P : Program} {ops : Array Oper} {o : Oper} {a : Act} {w : World} {K : Act → World → Prop} {Q : Exit → Act → World → Prop} {E : Prop}
    (hg : o.guard = none) (s x : Operand) (t : TypeId) (hop : o.op = Op.call { callee := Callee.builtin Builtin.append, args := #[s, x], argTypes := #[t, t] }) (ty : TypeId) (hty : o.type = ty)
    (v u : Value) (hs : a.eval s = v) (hx : a.eval x = u) {v' : Value} {w' : World} (hr : (Builtin.append_ #[t, t] ty #[v, u]).run P w = .ok v' w') (hK : K (a.put o.dst v') w') :
    if Region.wanted o (yielded ops a.tmps) = true then Oper.wp P o a w K Q else E := by
  have hw : Region.wanted o (yielded ops a.tmps) = true := by simp [Region.wanted, hg]
  rw [if_pos hw]
  subst hty
  unfold Oper.wp
  simp [execOp, hop, resolve, invoke, builtin, hs, hx, hr, Result.andThen]
  exact hK
theorem one_cells (w : World) (x : Value) (t : TypeId) : ∀ (j : Nat) (u : Value), [x][j]? = some u → (w.alloc (.cells #[x] t)).cell? ((⟨w.heap.size, 0, none⟩ : Addr).add j) = some u := by
  intro j u hj
  match j, hj with
  | 0, hj => simp at hj; subst hj; simp [Addr.add]
/-- A row in memory stays where other blocks turn. -/
theorem row_grown {w w' : World} {row : Option Nat} {B : Nat} {e : TypeId} {k : Nat} {v : Value} {n : Nat} {xs : List Value} (h : w.ownsRow B e k v n xs) (hg : w.grownBy w' row) (hne : ∀ r, row = some r → v.ownBlock ≠ some r) : w'.ownsRow B e k v n xs := by
  refine ⟨h.1, ?_⟩
  rcases h.2 with h2 | ⟨g, cap, cur, hv, hb, hgb, rest⟩
  · exact .inl h2
  · refine .inr ⟨g, cap, cur, hv, hb, ?_, rest⟩
    rw [hg.block g (Array.getElem?_eq_some_iff.1 hgb).1 ?_]
    · exact hgb
    · intro e'
      refine hne g e'.symm ?_
      rw [hv]; rfl
theorem row_set {w : World} {B : Nat} {e : TypeId} {k : Nat} {v : Value} {n : Nat} {xs : List Value} (h : w.ownsRow B e k v n xs) {p : Addr} (hp : p.block < B) (u : Value) : (w.setCell p u).ownsRow B e k v n xs := by
  refine ⟨h.1, ?_⟩
  rcases h.2 with h2 | ⟨g, cap, cur, hv, hb, hgb, rest⟩
  · exact .inl h2
  · exact .inr ⟨g, cap, cur, hv, hb, (Below.heap_setCell w p u g (by omega)).trans hgb, rest⟩
theorem row_below {w w' : World} {B : Nat} {e : TypeId} {k : Nat} {v : Value} {n : Nat} {xs : List Value} (h : w.ownsRow B e k v n xs) (hb : Below w.heap.size w w') : w'.ownsRow B e k v n xs := by
  refine ⟨h.1, ?_⟩
  rcases h.2 with h2 | ⟨g, cap, cur, hv, hbg, hgb, rest⟩
  · exact .inl h2
  · exact .inr ⟨g, cap, cur, hv, hbg, (hb.block g (Array.getElem?_eq_some_iff.1 hgb).1).trans hgb, rest⟩
/-- Rows of two element types lie in two blocks. -/
theorem rows_apart {w : World} {B B' : Nat} {e e' : TypeId} {k k' : Nat} {v v' : Value} {n n' : Nat} {xs xs' : List Value} (h : w.ownsRow B e k v n xs) (h' : w.ownsRow B' e' k' v' n' xs') (hne : e ≠ e') : ∀ r, v.ownBlock = some r → v'.ownBlock ≠ some r := by
  intro r hr hr'
  rcases h.2 with ⟨h2, _⟩ | ⟨g, cap, cur, hv, _, hgb, _⟩
  · rw [h2] at hr; cases hr
  · rcases h'.2 with ⟨h2, _⟩ | ⟨g', cap', cur', hv', _, hgb', _⟩
    · rw [h2] at hr'; cases hr'
    · rw [hv] at hr
      rw [hv'] at hr'
      have e1 : g = r := by simpa [Value.ownBlock] using hr
      have e2 : g' = r := by simpa [Value.ownBlock] using hr'
      subst e1
      subst e2
      rw [hgb] at hgb'
      injection hgb' with hgb'
      injection hgb' with _ h3 _
      exact hne h3
theorem set_app {xs z : List Value} {j : Nat} (y : Value) : (xs ++ z).set (xs.length + j) y = xs ++ z.set j y := by
  rw [List.set_append_right _ _ (by omega)]
  congr 2
  omega
/-- The last element of a row of five cells each, stored anew. -/
theorem row_last {w : World} {B : Nat} {e : TypeId} {v : Value} {n : Nat} {xs : List Value} {z0 z1 z2 z3 z4 : Value} (hx : xs.length = n * 5) (h : w.ownsRow B e 5 v (n + 1) (xs ++ [z0, z1, z2, z3, z4])) :
    ∃ r cap, v = .slice (some ⟨r, 0, none⟩) (n + 1) cap ∧ B ≤ r ∧ r < w.heap.size ∧ (∀ j, w.frozen? ⟨r, j, none⟩ = false) ∧ w.cell? ⟨r, n * 5, none⟩ = some z0 ∧ w.cell? ⟨r, n * 5 + 1, none⟩ = some z1 ∧ w.cell? ⟨r, n * 5 + 2, none⟩ = some z2 ∧ w.cell? ⟨r, n * 5 + 3, none⟩ = some z3 ∧ w.cell? ⟨r, n * 5 + 4, none⟩ = some z4 ∧
      ∀ y0 y1 y2 y3 y4, (((((w.setCell ⟨r, n * 5, none⟩ y0).setCell ⟨r, n * 5 + 1, none⟩ y1).setCell ⟨r, n * 5 + 2, none⟩ y2).setCell ⟨r, n * 5 + 3, none⟩ y3).setCell ⟨r, n * 5 + 4, none⟩ y4).ownsRow B e 5 v (n + 1) (xs ++ [y0, y1, y2, y3, y4]) := by
  rcases h.2 with ⟨_, h2⟩ | ⟨r, cap, cur, hv, hB, hr, hc1, hc2, hc3, hc4⟩
  · omega
  · have hat : ∀ j u, [z0, z1, z2, z3, z4][j]? = some u → w.cell? ⟨r, n * 5 + j, none⟩ = some u := by
      intro j u hj
      have hj5 : j < 5 := by have := (List.getElem?_eq_some_iff.1 hj).1; simpa using this
      have e1 : (cur.toList.take ((n + 1) * 5))[n * 5 + j]? = some u := by
        rw [hc4, ← hx, List.getElem?_append_right (by omega)]
        simpa using hj
      rw [List.getElem?_take_of_lt (by omega)] at e1
      simp only [World.cell?, hr]
      simpa using e1
    refine ⟨r, cap, hv, hB, (Array.getElem?_eq_some_iff.1 hr).1, fun j => Lib.frozen_of_heap hr j, hat 0 z0 rfl, hat 1 z1 rfl, hat 2 z2 rfl, hat 3 z3 rfl, hat 4 z4 rfl, fun y0 y1 y2 y3 y4 => ?_⟩
    have a0 := heap_setCell_same w r (n * 5) _ _ y0 hr
    have a1 := heap_setCell_same _ r (n * 5 + 1) _ _ y1 a0
    have a2 := heap_setCell_same _ r (n * 5 + 2) _ _ y2 a1
    have a3 := heap_setCell_same _ r (n * 5 + 3) _ _ y3 a2
    have a4 := heap_setCell_same _ r (n * 5 + 4) _ _ y4 a3
    refine ⟨by simp [hx]; omega, .inr ⟨r, cap, _, hv, hB, a4, hc1, hc2, by simp [hc3], ?_⟩⟩
    simp only [Array.toList_setIfInBounds, List.take_set]
    rw [hc4, ← hx]
    have e0 := set_app (xs := xs) (z := [z0, z1, z2, z3, z4]) (j := 0) y0
    rw [Nat.add_zero] at e0
    rw [e0, set_app, set_app, set_app, set_app]
    rfl
end K
namespace W
theorem infoByte : (Tryz.prog.info? 5).map (fun i => (i.zero, i.size, i.bytes)) = some (some (.int .u8 0), 1, 1) := by kernel_rfl
/-- The scope's box. -/
def SB (W : World) (g : Nat) (s : List UInt8) (a : Nat) (pl : Int) (op : Bool) (lv opn dep : Int) (tx ls : Value) : Prop :=
  W.heap[g]? = some (.cells #[.string ⟨s.toArray⟩, .int .i64 a, .int .i64 pl, .bool op, .int .i64 lv, .int .i64 opn, .int .i64 dep, tx, ls] 153 (0, 0))
section
variable {W W' : World} {g a : Nat} {s : List UInt8} {pl : Int} {op : Bool} {lv opn dep : Int} {tx ls : Value}
theorem SB.lt (h : SB W g s a pl op lv opn dep tx ls) : g < W.heap.size := (Array.getElem?_eq_some_iff.1 h).1
theorem SB.cells (h : SB W g s a pl op lv opn dep tx ls) : W.cell? ⟨g, 0, none⟩ = some (.string ⟨s.toArray⟩) ∧ W.cell? ⟨g, 1, none⟩ = some (.int .i64 a) ∧ W.cell? ⟨g, 2, none⟩ = some (.int .i64 pl) ∧ W.cell? ⟨g, 3, none⟩ = some (.bool op) ∧ W.cell? ⟨g, 4, none⟩ = some (.int .i64 lv) ∧ W.cell? ⟨g, 5, none⟩ = some (.int .i64 opn) ∧ W.cell? ⟨g, 6, none⟩ = some (.int .i64 dep) ∧ W.cell? ⟨g, 7, none⟩ = some tx ∧ W.cell? ⟨g, 8, none⟩ = some ls :=
  ⟨Lib.cell_of_heap h 0, Lib.cell_of_heap h 1, Lib.cell_of_heap h 2, Lib.cell_of_heap h 3, Lib.cell_of_heap h 4, Lib.cell_of_heap h 5, Lib.cell_of_heap h 6, Lib.cell_of_heap h 7, Lib.cell_of_heap h 8⟩
theorem SB.thaw (h : SB W g s a pl op lv opn dep tx ls) (k : Nat) : W.frozen? ⟨g, k, none⟩ = false := Lib.frozen_of_heap h k
theorem SB.kept (h : SB W g s a pl op lv opn dep tx ls) (hg : W'.heap[g]? = W.heap[g]?) : SB W' g s a pl op lv opn dep tx ls := hg.trans h
theorem SB.setAt (h : SB W g s a pl op lv opn dep tx ls) (x : Int) (n : Nat) (hx : x = (n : Int)) : SB (W.setCell ⟨g, 1, none⟩ (.int .i64 x)) g s n pl op lv opn dep tx ls := by
  subst hx
  have := heap_setCell_same W g 1 _ _ (.int .i64 n) h
  unfold SB; rw [this]; simp
theorem SB.setTx (h : SB W g s a pl op lv opn dep tx ls) (v : Value) : SB (W.setCell ⟨g, 7, none⟩ v) g s a pl op lv opn dep v ls := by
  have := heap_setCell_same W g 7 _ _ v h
  unfold SB; rw [this]; simp
theorem SB.setLs (h : SB W g s a pl op lv opn dep tx ls) (v : Value) : SB (W.setCell ⟨g, 8, none⟩ v) g s a pl op lv opn dep tx v := by
  have := heap_setCell_same W g 8 _ _ v h
  unfold SB; rw [this]; simp
end
/-- A scope with its text and its list of n parts. -/
def Sc (W : World) (g : Nat) (s : List UInt8) (a : Nat) (pl : Int) (op : Bool) (lv opn dep : Int) (tb : List UInt8) (n : Nat) (lc : List Value) : Prop :=
  ∃ tx ls, SB W g s a pl op lv opn dep tx ls ∧ W.ownsRow (g + 1) 5 1 tx tb.length (Lib.byteCells tb) ∧ W.ownsRow (g + 1) 126 5 ls n lc
theorem row_val {w : World} {B : Nat} {e : TypeId} {k : Nat} {v : Value} {n : Nat} {xs : List Value} (h : w.ownsRow B e k v n xs) : ∃ A c, v = .slice A n c := by
  rcases h.2 with ⟨h1, h2⟩ | ⟨g, cap, cur, hv, _⟩
  · subst h2; exact ⟨none, 0, h1⟩
  · exact ⟨_, _, hv⟩
theorem infoPart : (Tryz.prog.info? 126).map (fun i => (i.zero, i.size, i.bytes)) = some (some (.agg #[.int .i64 0, .string ⟨#[]⟩, .int .i64 0, .bool false, .slice none 0 0]), 5, 64) := by kernel_rfl
/-- The cells of a part. -/
def pc (k : Int) (t : List UInt8) (o : Int) (b : Bool) (ps : Value) : List Value := [.int .i64 k, .string ⟨t.toArray⟩, .int .i64 o, .bool b, ps]
def zeroP : List Value := [.int .i64 0, .string ⟨#[]⟩, .int .i64 0, .bool false, .slice none 0 0]
theorem five_cells (w : World) (t : TypeId) : ∀ (j : Nat) (u : Value), zeroP[j]? = some u → (w.alloc (.cells #[.int .i64 0, .string ⟨#[]⟩, .int .i64 0, .bool false, .slice none 0 0] t)).cell? ((⟨w.heap.size, 0, none⟩ : Addr).add j) = some u := by
  intro j u hj
  match j, hj with
  | 0, hj => simp [zeroP] at hj; subst hj; simp [Addr.add]
  | 1, hj => simp [zeroP] at hj; subst hj; simp [Addr.add]
  | 2, hj => simp [zeroP] at hj; subst hj; simp [Addr.add]
  | 3, hj => simp [zeroP] at hj; subst hj; simp [Addr.add]
  | 4, hj => simp [zeroP] at hj; subst hj; simp [Addr.add]
  | n + 5, hj => simp [zeroP] at hj
theorem five_one : ∀ u ∈ zeroP, u.oneCell' = true := by
  intro u hu
  simp [zeroP] at hu
  rcases hu with rfl | rfl | rfl | rfl | rfl <;> rfl
theorem row_set2 {w : World} {B : Nat} {e : TypeId} {k : Nat} {v : Value} {n : Nat} {xs : List Value} (h : w.ownsRow B e k v n xs) {p : Addr} (hp : ∀ r, v.ownBlock = some r → r ≠ p.block) (u : Value) : (w.setCell p u).ownsRow B e k v n xs := by
  refine ⟨h.1, ?_⟩
  rcases h.2 with h2 | ⟨g, cap, cur, hv, hb, hgb, rest⟩
  · exact .inl h2
  · exact .inr ⟨g, cap, cur, hv, hb, (Below.heap_setCell w p u g (hp g (by rw [hv]; rfl))).trans hgb, rest⟩
section
variable {W w3 : World} {g a : Nat} {s : List UInt8} {pl : Int} {op : Bool} {lv opn dep : Int} {tx ls : Value} {tb : List UInt8} {n r cap3 : Nat} {lc : List Value}
/-- A part stored at the end of the list, then the list stored, then the offset. -/
theorem add_one (hb : SB w3 g s a pl op lv opn dep tx ls) (ht : w3.ownsRow (g + 1) 5 1 tx tb.length (Lib.byteCells tb)) (hx : lc.length = n * 5) (ho : w3.ownsRow (g + 1) 126 5 (.slice (some ⟨r, 0, none⟩) (n + 1) cap3) (n + 1) (lc ++ zeroP)) (hW : Below g W w3) (y0 y1 y2 y3 y4 : Value) :
    Sc ((((((w3.setCell ⟨r, n * 5, none⟩ y0).setCell ⟨r, n * 5 + 1, none⟩ y1).setCell ⟨r, n * 5 + 2, none⟩ y2).setCell ⟨r, n * 5 + 3, none⟩ y3).setCell ⟨r, n * 5 + 4, none⟩ y4).setCell ⟨g, 8, none⟩ (.slice (some ⟨r, 0, none⟩) (n + 1) cap3)) g s a pl op lv opn dep tb (n + 1) (lc ++ [y0, y1, y2, y3, y4]) ∧
      Below g W ((((((w3.setCell ⟨r, n * 5, none⟩ y0).setCell ⟨r, n * 5 + 1, none⟩ y1).setCell ⟨r, n * 5 + 2, none⟩ y2).setCell ⟨r, n * 5 + 3, none⟩ y3).setCell ⟨r, n * 5 + 4, none⟩ y4).setCell ⟨g, 8, none⟩ (.slice (some ⟨r, 0, none⟩) (n + 1) cap3)) := by
  obtain ⟨r', cap', hv, hr1, -, -, -, -, -, -, -, hset⟩ := row_last hx ho
  injection hv with hv _ _
  injection hv with hv
  injection hv with hv _ _
  subst hv
  have hap := rows_apart ht ho (by decide)
  have hap' : ∀ q, tx.ownBlock = some q → q ≠ r := fun q hq e => hap q hq (by rw [e]; rfl)
  have hsb : ∀ {V : World} {o : Nat} {y : Value}, SB V g s a pl op lv opn dep tx ls → SB (V.setCell ⟨r, o, none⟩ y) g s a pl op lv opn dep tx ls := fun h => h.kept (Below.heap_setCell _ _ _ g (by dsimp only; omega))
  refine ⟨⟨tx, _, (hsb (hsb (hsb (hsb (hsb hb))))).setLs _, ?_, row_set (hset y0 y1 y2 y3 y4) (by simp) _⟩, ?_⟩
  · exact row_set (row_set2 (row_set2 (row_set2 (row_set2 (row_set2 ht hap' _) hap' _) hap' _) hap' _) hap' _) (by simp) _
  · have hle : g ≤ r := by omega
    exact (((((hW.setCell hle _).setCell hle _).setCell hle _).setCell hle _).setCell hle _).setCell (by simp) _
theorem add_two (hb : SB w3 g s a pl op lv opn dep tx ls) (ht : w3.ownsRow (g + 1) 5 1 tx tb.length (Lib.byteCells tb)) (hx : lc.length = n * 5) (ho : w3.ownsRow (g + 1) 126 5 (.slice (some ⟨r, 0, none⟩) (n + 1) cap3) (n + 1) (lc ++ zeroP)) (hW : Below g W w3) (y0 y1 y2 y3 y4 : Value) :
    Sc ((((((w3.setCell ⟨g, 8, none⟩ (.slice (some ⟨r, 0, none⟩) (n + 1) cap3)).setCell ⟨r, n * 5, none⟩ y0).setCell ⟨r, n * 5 + 1, none⟩ y1).setCell ⟨r, n * 5 + 2, none⟩ y2).setCell ⟨r, n * 5 + 3, none⟩ y3).setCell ⟨r, n * 5 + 4, none⟩ y4) g s a pl op lv opn dep tb (n + 1) (lc ++ [y0, y1, y2, y3, y4]) ∧
      Below g W ((((((w3.setCell ⟨g, 8, none⟩ (.slice (some ⟨r, 0, none⟩) (n + 1) cap3)).setCell ⟨r, n * 5, none⟩ y0).setCell ⟨r, n * 5 + 1, none⟩ y1).setCell ⟨r, n * 5 + 2, none⟩ y2).setCell ⟨r, n * 5 + 3, none⟩ y3).setCell ⟨r, n * 5 + 4, none⟩ y4) := by
  have ho' := row_set ho (p := ⟨g, 8, none⟩) (by simp) (.slice (some ⟨r, 0, none⟩) (n + 1) cap3)
  have ht' := row_set ht (p := ⟨g, 8, none⟩) (by simp) (.slice (some ⟨r, 0, none⟩) (n + 1) cap3)
  obtain ⟨r', cap', hv, hr1, -, -, -, -, -, -, -, hset⟩ := row_last hx ho'
  injection hv with hv _ _
  injection hv with hv
  injection hv with hv _ _
  subst hv
  have hap := rows_apart ht ho (by decide)
  have hap' : ∀ q, tx.ownBlock = some q → q ≠ r := fun q hq e => hap q hq (by rw [e]; rfl)
  have hsb : ∀ {V : World} {o : Nat} {y : Value} {l : Value}, SB V g s a pl op lv opn dep tx l → SB (V.setCell ⟨r, o, none⟩ y) g s a pl op lv opn dep tx l := fun h => h.kept (Below.heap_setCell _ _ _ g (by dsimp only; omega))
  refine ⟨⟨tx, _, hsb (hsb (hsb (hsb (hsb (hb.setLs _))))), ?_, hset y0 y1 y2 y3 y4⟩, ?_⟩
  · exact row_set2 (row_set2 (row_set2 (row_set2 (row_set2 ht' hap' _) hap' _) hap' _) hap' _) hap' _
  · have hle : g ≤ r := by omega
    exact (((((hW.setCell (by simp) _).setCell hle _).setCell hle _).setCell hle _).setCell hle _).setCell hle _
theorem Sc.setAt {V : World} (h : Sc V g s a pl op lv opn dep tb n lc) (m : Nat) : Sc (V.setCell ⟨g, 1, none⟩ (.int .i64 m)) g s m pl op lv opn dep tb n lc := by
  obtain ⟨tx, ls, h1, h2, h3⟩ := h
  exact ⟨tx, ls, h1.setAt _ m rfl, row_set h2 (by simp) _, row_set h3 (by simp) _⟩
theorem Sc.below {V V' : World} (h : Sc V g s a pl op lv opn dep tb n lc) (hb : Below V.heap.size V V') : Sc V' g s a pl op lv opn dep tb n lc := by
  obtain ⟨tx, ls, h1, h2, h3⟩ := h
  exact ⟨tx, ls, h1.kept (hb.block g h1.lt), row_below h2 hb, row_below h3 hb⟩
end
theorem Sc.clear {V : World} {g a : Nat} {s : List UInt8} {pl : Int} {op : Bool} {lv opn dep : Int} {tb : List UInt8} {n : Nat} {lc : List Value} (h : Sc V g s a pl op lv opn dep tb n lc) : Sc (V.setCell ⟨g, 7, none⟩ (.slice none 0 0)) g s a pl op lv opn dep [] n lc := by
  obtain ⟨tx, ls, h1, h2, h3⟩ := h
  exact ⟨_, ls, h1.setTx _, ⟨rfl, .inl ⟨rfl, rfl⟩⟩, row_set h3 (by simp) _⟩
theorem own_lt {w : World} {B : Nat} {e : TypeId} {k : Nat} {v : Value} {n : Nat} {xs : List Value} (h : w.ownsRow B e k v n xs) : ∀ r, v.ownBlock = some r → r < w.heap.size := by
  intro r hr
  rcases h.2 with ⟨h2, _⟩ | ⟨g, cap, cur, hv, _, hgb, _⟩
  · rw [h2] at hr; cases hr
  · rw [hv] at hr
    have e1 : g = r := by simpa [Value.ownBlock] using hr
    subst e1
    exact (Array.getElem?_eq_some_iff.1 hgb).1

/-- The blocks that a scope may write: its box, the row of its text, the row of its list. -/
def ownSet (W : World) (g k : Nat) : Prop := k = g ∨ (∃ v, W.cell? ⟨g, 7, none⟩ = some v ∧ v.ownBlock = some k) ∨ (∃ v, W.cell? ⟨g, 8, none⟩ = some v ∧ v.ownBlock = some k)
theorem own_iff {W : World} {g a : Nat} {s : List UInt8} {pl : Int} {op : Bool} {lv opn dep : Int} {tx ls : Value} (h : SB W g s a pl op lv opn dep tx ls) (k : Nat) : ownSet W g k ↔ k = g ∨ tx.ownBlock = some k ∨ ls.ownBlock = some k := by
  obtain ⟨-, -, -, -, -, -, -, c7, c8⟩ := h.cells
  unfold ownSet
  rw [c7, c8]
  constructor
  · rintro (h | ⟨v, hv, h⟩ | ⟨v, hv, h⟩)
    · exact .inl h
    · injection hv with hv; subst hv; exact .inr (.inl h)
    · injection hv with hv; subst hv; exact .inr (.inr h)
  · rintro (h | h | h)
    · exact .inl h
    · exact .inr (.inl ⟨_, rfl, h⟩)
    · exact .inr (.inr ⟨_, rfl, h⟩)
/-- What a scope's method leaves as it was: all that lies below the box, and every block that is not the scope's own. -/
structure Fr (g : Nat) (W W' : World) : Prop where
  below : Below g W W'
  keep : ∀ k, k < W.heap.size → ¬ ownSet W g k → W'.heap[k]? = W.heap[k]?
  own : ∀ k, k < W.heap.size → ownSet W' g k → ownSet W g k
theorem Fr.refl (g : Nat) (W : World) : Fr g W W := ⟨Below.refl _ _, fun _ _ _ => rfl, fun _ _ h => h⟩
theorem Fr.trans {g : Nat} {W W' W'' : World} (h : Fr g W W') (h2 : Fr g W' W'') : Fr g W W'' :=
  ⟨h.below.trans h2.below, fun k hk hn => (h2.keep k (Nat.lt_of_lt_of_le hk h.below.size) (fun e => hn (h.own k hk e))).trans (h.keep k hk hn),
    fun k hk e => h.own k hk (h2.own k (Nat.lt_of_lt_of_le hk h.below.size) e)⟩
theorem own_same8 {g : Nat} {W W' : World} (h : W'.heap[g]? = W.heap[g]?) (k : Nat) : ownSet W' g k ↔ ownSet W g k := by
  unfold ownSet World.cell?
  rw [h]
theorem Fr.of_below {g : Nat} {W W' : World} (h : Below W.heap.size W W') (hg : g < W.heap.size) : Fr g W W' :=
  ⟨h.mono (by omega), fun k hk _ => h.block k hk, fun k _ e => (own_same8 (h.block g hg) k).1 e⟩
theorem Fr.mk' {W W' : World} {g a a' : Nat} {s : List UInt8} {pl : Int} {op : Bool} {lv opn dep dep' : Int} {tx ls tx' ls' : Value} (h : SB W g s a pl op lv opn dep tx ls) (h' : SB W' g s a' pl op lv opn dep' tx' ls') (hb : Below g W W')
    (hk : ∀ k, k < W.heap.size → k ≠ g → tx.ownBlock ≠ some k → ls.ownBlock ≠ some k → W'.heap[k]? = W.heap[k]?)
    (ht : ∀ r, tx'.ownBlock = some r → tx.ownBlock = some r ∨ W.heap.size ≤ r) (hl : ∀ r, ls'.ownBlock = some r → ls.ownBlock = some r ∨ W.heap.size ≤ r) : Fr g W W' := by
  refine ⟨hb, fun k h1 h2 => ?_, fun k h1 h2 => ?_⟩
  · rw [own_iff h] at h2
    exact hk k h1 (fun e => h2 (.inl e)) (fun e => h2 (.inr (.inl e))) (fun e => h2 (.inr (.inr e)))
  · rw [own_iff h'] at h2
    rw [own_iff h]
    rcases h2 with e | e | e
    · exact .inl e
    · rcases ht k e with e | e
      · exact .inr (.inl e)
      · omega
    · rcases hl k e with e | e
      · exact .inr (.inr e)
      · omega
/- The cells of parts, in blocks of which F speaks. -/
mutual
def PRep (w : World) (F : Nat → Prop) : WP.Part → List Value → Prop
  | .mk k t o c ps, vs => ∃ (A : Option Addr) (cap : Nat), vs = pc k t o c (.slice A ps.length cap) ∧ (ps = [] ∨ ∃ b cells, A = some ⟨b, 0, none⟩ ∧ F b ∧ LRep w F ps cells ∧ ∀ j u, cells[j]? = some u → w.cell? ⟨b, j, none⟩ = some u)
def LRep (w : World) (F : Nat → Prop) : List WP.Part → List Value → Prop
  | [], vs => vs = []
  | p :: ps, vs => ∃ a b, vs = a ++ b ∧ PRep w F p a ∧ LRep w F ps b
end
theorem PRep.len {w : World} {F : Nat → Prop} {p : WP.Part} {vs : List Value} (h : PRep w F p vs) : vs.length = 5 := by
  obtain ⟨k, t, o, c, ps⟩ := p
  rw [PRep] at h
  obtain ⟨A, cap, rfl, -⟩ := h
  rfl
theorem LRep.len {w : World} {F : Nat → Prop} : ∀ {ps : List WP.Part} {vs : List Value}, LRep w F ps vs → vs.length = ps.length * 5
  | [], vs, h => by rw [LRep] at h; subst h; rfl
  | p :: ps, vs, h => by
    rw [LRep] at h
    obtain ⟨a, b, rfl, h1, h2⟩ := h
    rw [List.length_append, h1.len, LRep.len h2, List.length_cons]
    omega
theorem lt_of_cell {w : World} {b o : Nat} {v : Value} (h : w.cell? ⟨b, o, none⟩ = some v) : b < w.heap.size := lt_cell h
mutual
theorem PRep.mono {w w' : World} {F F' : Nat → Prop} (hF : ∀ b, F b → b < w.heap.size → F' b ∧ w'.heap[b]? = w.heap[b]?) : ∀ (p : WP.Part) (vs : List Value), PRep w F p vs → PRep w' F' p vs
  | .mk k t o c ps, vs, h => by
    rw [PRep] at h ⊢
    obtain ⟨A, cap, h1, h2⟩ := h
    refine ⟨A, cap, h1, ?_⟩
    rcases h2 with h2 | ⟨b, cells, hA, hFb, hl, hc⟩
    · exact .inl h2
    · by_cases hps : ps = []
      · exact .inl hps
      have hlen := hl.len
      have hpos : 0 < cells.length := by rw [hlen]; have := List.length_pos_iff.2 hps; omega
      obtain ⟨u, hu⟩ : ∃ u, cells[0]? = some u := ⟨cells[0], by simp [hpos]⟩
      obtain ⟨h3, h4⟩ := hF b hFb (lt_cell (hc 0 u hu))
      refine .inr ⟨b, cells, hA, h3, LRep.mono hF ps cells hl, fun j u hj => ?_⟩
      have := hc j u hj
      unfold World.cell? at this ⊢
      rw [h4]
      exact this
theorem LRep.mono {w w' : World} {F F' : Nat → Prop} (hF : ∀ b, F b → b < w.heap.size → F' b ∧ w'.heap[b]? = w.heap[b]?) : ∀ (ps : List WP.Part) (vs : List Value), LRep w F ps vs → LRep w' F' ps vs
  | [], vs, h => by rw [LRep] at h ⊢; exact h
  | p :: ps, vs, h => by
    rw [LRep] at h ⊢
    obtain ⟨a, b, h1, h2, h3⟩ := h
    exact ⟨a, b, h1, PRep.mono hF p a h2, LRep.mono hF ps b h3⟩
end
theorem LRep.snoc {w : World} {F : Nat → Prop} {p : WP.Part} {b : List Value} (hp : PRep w F p b) : ∀ {ps : List WP.Part} {a : List Value}, LRep w F ps a → LRep w F (ps ++ [p]) (a ++ b)
  | [], a, h => by
    rw [LRep] at h
    subst h
    rw [List.nil_append, List.nil_append, LRep]
    exact ⟨b, [], (List.append_nil b).symm, hp, by rw [LRep]⟩
  | q :: ps, a, h => by
    rw [LRep] at h
    obtain ⟨x, y, rfl, h1, h2⟩ := h
    rw [List.cons_append, LRep]
    exact ⟨x, y ++ b, by rw [List.append_assoc], h1, LRep.snoc hp h2⟩
/-- A scope that stands where the plain reader stands. -/
def ScP (W : World) (g : Nat) (c : WP.Ctx) (st : WP.St) : Prop :=
  ∃ lc, Sc W g c.s st.a c.pl c.op c.lv c.opn st.dep st.tx st.ls.length lc ∧ LRep W (fun b => g < b ∧ ¬ ownSet W g b) st.ls lc
theorem Sc.lt {W : World} {g a : Nat} {s : List UInt8} {pl : Int} {op : Bool} {lv opn dep : Int} {tb : List UInt8} {n : Nat} {lc : List Value} (h : Sc W g s a pl op lv opn dep tb n lc) : g < W.heap.size := by obtain ⟨_, _, h1, _⟩ := h; exact h1.lt
theorem ScP.lt {W : World} {g : Nat} {c : WP.Ctx} {st : WP.St} (h : ScP W g c st) : g < W.heap.size := by obtain ⟨lc, h1, _⟩ := h; exact h1.lt
theorem LRep.fr {W W' : World} {g : Nat} {ps : List WP.Part} {lc : List Value} (h : LRep W (fun b => g < b ∧ ¬ ownSet W g b) ps lc) (hf : Fr g W W') : LRep W' (fun b => g < b ∧ ¬ ownSet W' g b) ps lc :=
  LRep.mono (fun b hb hl => ⟨⟨hb.1, fun e => hb.2 (hf.own b hl e)⟩, hf.keep b hl hb.2⟩) ps lc h
theorem ScP.below {W W' : World} {g : Nat} {c : WP.Ctx} {st : WP.St} (h : ScP W g c st) (hb : Below W.heap.size W W') : ScP W' g c st := by
  have hl := h.lt
  obtain ⟨lc, h1, h2⟩ := h
  exact ⟨lc, h1.below hb, h2.fr (Fr.of_below hb hl)⟩
end W
end Go.Proofs.YtcbdhheelddgeaaGreatDoor
