/- Copies within rows of pairs. Nothing of the program is in it. -/
import Derived.Test.YtelhobphphkidaaGreatDoorT09
import Derived.Laws.CopyRow
import Derived.Laws.Rows
namespace Go.Proofs.YtelhobphphkidaaGreatDoor
open Go.RowKit
namespace K
/-- 'copy(d, s)' at elements of two cells, into a row that is known whole. -/
theorem run_copy_pairs {P : Program} (w : World) (dT sT ty elem : TypeId) (g o dLen dCap : Nat) (a : Addr) (sLen sCap : Nat) (cur : Array Value) (t : TypeId) (cs : List Value) (m : Nat) (hm : Nat.min sLen dLen = m)
    (hu : P.underlying dT = some (.slice elem)) (hs : (P.info? elem).map (·.size) = some 2)
    (hg : w.heap[g]? = some (.cells cur t (0, 0))) (hn : cs.length = m * 2)
    (hsrc : ∀ j v, cs[j]? = some v → w.cell? (a.add j) = some v) (hfit : o + cs.length ≤ cur.size) (h1 : ∀ v ∈ cs, v.oneCell' = true) :
    (Builtin.copy_ #[dT, sT] ty #[.slice (some ⟨g, o, none⟩) dLen dCap, .slice (some a) sLen sCap]).run P w =
      .ok (goInt m) (w.setRow g (cur.toList.take o ++ cs ++ cur.toList.drop (o + cs.length)).toArray) := by
  have hl := run_loadCells_list (P := P) w a cs hsrc
  have hst := run_storeCells_at P g o t cs 0 cur w hg (by simpa using hfit) h1
  cases hq : P.info? elem with
  | none => simp [hq] at hs
  | some i =>
    have hi : i.size = 2 := by simpa [hq] using hs
    simp [Builtin.copy_, run_underlying hu, Builtin.lenOf, Builtin.firstCells, sizeOf, typeInfo, hq, hi, hm, ← hn, hl, hst]
theorem wpList_copy_eq {P : Program} (w : World) {ops : Array Oper} {rest : List Oper} {o : Oper} {a : Act} {Q : Exit → Act → World → Prop} (hgd : o.guard = none) (d s : Operand) (t t' : TypeId)
    (ho : o.op = .call { callee := .builtin .copy, args := #[d, s], argTypes := #[t, t'] }) (v u : Value) (hd : a.eval d = v) (hs : a.eval s = u) {v' : Value} {w' : World}
    (hr : (Builtin.copy_ #[t, t'] o.type #[v, u]).run P w = .ok v' w') (h : wpList P ops Q rest (a.put o.dst v') w') : wpList P ops Q (o :: rest) a w := by
  refine wpList_plain hgd fun K hK => ?_
  unfold Oper.wp execOp
  simp only [ho, resolve, invoke, builtin, Sem.run_bind, Sem.run_pure, Result.andThen_ok, List.map_toArray, List.map_cons, List.map_nil, hd, hs, hr]
  exact hK _ _ h
theorem step_copy_eq {P : Program} {ops : Array Oper} {o : Oper} {a : Act} {w : World} {K : Act → World → Prop} {Q : Exit → Act → World → Prop} {E : Prop}
    (hg : o.guard = none) (d x : Operand) (dT sT : TypeId) (hop : o.op = Op.call { callee := Callee.builtin Builtin.copy, args := #[d, x], argTypes := #[dT, sT] })
    (v u : Value) (hd : a.eval d = v) (hx : a.eval x = u) {v' : Value} {w' : World} (hr : (Builtin.copy_ #[dT, sT] o.type #[v, u]).run P w = .ok v' w') (hK : K (a.put o.dst v') w') :
    if Region.wanted o (yielded ops a.tmps) = true then Oper.wp P o a w K Q else E := by
  have hw : Region.wanted o (yielded ops a.tmps) = true := by simp [Region.wanted, hg]
  rw [if_pos hw]
  unfold Oper.wp
  simp [execOp, hop, resolve, invoke, builtin, hd, hx, hr, Result.andThen]
  exact hK
theorem tcells_one (ts : List Tr) : ∀ u ∈ tcells ts, u.oneCell' = true := by
  induction ts with
  | nil => intro u hu; simp [tcells] at hu
  | cons t r ih =>
    intro u hu
    simp only [tcells, List.mem_cons] at hu
    rcases hu with rfl | rfl | hu
    · rfl
    · rfl
    · exact ih u hu
/-- A list with an element put in at place i. -/
def putAt (ts : List Tr) (i : Nat) (t : Tr) : List Tr := ts.take i ++ t :: ts.drop i
theorem tcells_take (ts : List Tr) (i : Nat) : tcells (ts.take i) = (tcells ts).take (i * 2) := by
  induction ts generalizing i with
  | nil => simp [tcells]
  | cons t r ih =>
    cases i with
    | zero => simp [tcells]
    | succ i => rw [List.take_succ_cons, show (i + 1) * 2 = i * 2 + 1 + 1 by omega]; simp [tcells, ih]
theorem tcells_drop (ts : List Tr) (i : Nat) : tcells (ts.drop i) = (tcells ts).drop (i * 2) := by
  induction ts generalizing i with
  | nil => simp [tcells]
  | cons t r ih =>
    cases i with
    | zero => simp
    | succ i => rw [List.drop_succ_cons, show (i + 1) * 2 = i * 2 + 1 + 1 by omega]; simp [tcells, ih]
/-- The row behind the two copies of an insertion in place. -/
theorem splice2 (cur xs ys : List Value) (a n : Nat) (hx : cur.take n = xs) (hl : xs.length = n) (ha : a ≤ n) (hy : ys.length = 2) (hc : n + 2 ≤ cur.length) :
    let r1 := cur.take (a + 2) ++ xs.drop a ++ cur.drop (a + 2 + (xs.drop a).length)
    let r2 := r1.take a ++ ys ++ r1.drop (a + ys.length)
    r2.length = cur.length ∧ r2.take (n + 2) = xs.take a ++ ys ++ xs.drop a := by
  intro r1 r2
  have l1 : (xs.drop a).length = n - a := by simp; omega
  have e1 : r1.take a = cur.take a := by
    show (cur.take (a + 2) ++ xs.drop a ++ cur.drop (a + 2 + (xs.drop a).length)).take a = _
    rw [List.append_assoc, List.take_append_of_le_length (by simp; omega), List.take_take, Nat.min_eq_left (by omega)]
  have e2 : r1.drop (a + 2) = xs.drop a ++ cur.drop (n + 2) := by
    show (cur.take (a + 2) ++ xs.drop a ++ cur.drop (a + 2 + (xs.drop a).length)).drop (a + 2) = _
    have : (cur.take (a + 2)).length = a + 2 := by simp; omega
    rw [List.append_assoc, List.drop_append_of_le_length (by omega), List.drop_of_length_le (by omega), List.nil_append, l1, show a + 2 + (n - a) = n + 2 by omega]
  have e3 : r2 = cur.take a ++ ys ++ (xs.drop a ++ cur.drop (n + 2)) := by
    show r1.take a ++ ys ++ r1.drop (a + ys.length) = _
    rw [hy, e1, e2]
  have e4 : cur.take a = xs.take a := by rw [← hx, List.take_take, Nat.min_eq_left ha]
  constructor
  · rw [e3]
    simp
    omega
  · rw [e3, e4, ← List.append_assoc]
    have : (xs.take a ++ ys ++ xs.drop a).length = n + 2 := by simp; omega
    rw [List.take_append_of_le_length (by omega), List.take_of_length_le (by omega)]
/-- The row behind the two copies of an insertion into a new row. -/
theorem splice3 (row xs ys : List Value) (a n : Nat) (hx : row.take a = xs.take a) (hl : xs.length = n) (ha : a ≤ n) (hy : ys.length = 2) (hc : n + 2 ≤ row.length) :
    let r1 := row.take a ++ ys ++ row.drop (a + ys.length)
    let r2 := r1.take (a + 2) ++ xs.drop a ++ r1.drop (a + 2 + (xs.drop a).length)
    r1.length = row.length ∧ r2.length = row.length ∧ r2.take (n + 2) = xs.take a ++ ys ++ xs.drop a := by
  intro r1 r2
  have l1 : (xs.drop a).length = n - a := by simp; omega
  have l0 : (xs.take a).length = a := by simp; omega
  have e0 : r1 = xs.take a ++ ys ++ row.drop (a + 2) := by show row.take a ++ ys ++ row.drop (a + ys.length) = _; rw [hx, hy]
  have hlen : r1.length = row.length := by rw [e0]; simp; omega
  have e1 : r1.take (a + 2) = xs.take a ++ ys := by
    rw [e0, List.take_append_of_le_length (by simp; omega), List.take_of_length_le (by simp; omega)]
  have e2 : r2 = xs.take a ++ ys ++ xs.drop a ++ r1.drop (n + 2) := by
    show r1.take (a + 2) ++ xs.drop a ++ r1.drop (a + 2 + (xs.drop a).length) = _
    rw [e1, l1, show a + 2 + (n - a) = n + 2 by omega]
  refine ⟨hlen, ?_, ?_⟩
  · rw [e2]; simp; omega
  · have : (xs.take a ++ ys ++ xs.drop a).length = n + 2 := by simp; omega
    rw [e2, List.take_append_of_le_length (by omega), List.take_of_length_le (by omega)]
end K
end Go.Proofs.YtelhobphphkidaaGreatDoor
