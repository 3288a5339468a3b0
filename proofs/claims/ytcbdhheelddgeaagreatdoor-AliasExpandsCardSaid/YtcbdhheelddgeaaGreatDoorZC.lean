/- Several texts in one: T09 N09 W09j W09k W09l. -/
import Derived.Test.YtcbdhheelddgeaaGreatDoorK
import Derived.Below
import Derived.OneCell
import Derived.Deep.SlicePairs
import Derived.Laws.CopyRow
import Derived.Laws.Rows
import Derived.Test.YtcbdhheelddgeaaGreatDoorZD
import Derived.Lib.Overlaps
import Derived.Laws.Externs
import Derived.Deep.RegionLaw
import Derived.Deep.AppendLies
import Derived.Lib.AppendZerosOnto
import Derived.Lib.AppendZeros
import Derived.Deep.DeepAppendWide
namespace Go.Proofs.YtcbdhheelddgeaaGreatDoor
open Go.RowKit
namespace K
abbrev Tr := List UInt8 × List UInt8
def tcells : List Tr → List Value
 | [] => []
 | t :: r => .string ⟨t.1.toArray⟩ :: .string ⟨t.2.toArray⟩ :: tcells r
theorem tcells_length (ts : List Tr) : (tcells ts).length = ts.length * 2 := by
 induction ts with
 | nil => rfl
 | cons t r ih => simp [tcells, ih]; omega
theorem tcells_append (a b : List Tr) : tcells (a ++ b) = tcells a ++ tcells b := by
 induction a with
 | nil => rfl
 | cons t r ih => simp [tcells, ih]
theorem tcells_at {ts : List Tr} : ∀ {i : Nat}, i < ts.length → (tcells ts)[i * 2]? = some (.string ⟨(ts.getD i ([], [])).1.toArray⟩) ∧ (tcells ts)[i * 2 + 1]? = some (.string ⟨(ts.getD i ([], [])).2.toArray⟩) := by
 induction ts with
 | nil => intro i h; simp at h
 | cons t r ih =>
  intro i h
  cases i with
  | zero => exact ⟨rfl, rfl⟩
  | succ i =>
   have := ih (i := i) (by simpa using h)
   rw [show (i + 1) * 2 = i * 2 + 1 + 1 by omega]
   simpa [tcells] using this
/-- The slice's address A leads to the pairs ts, two cells each. -/
def TL (w : World) (A : Option Addr) (ts : List Tr) : Prop :=
 ts ≠ [] → ∃ b off, A = some ⟨b, off, none⟩ ∧ b < w.heap.size ∧ ∀ i, i < ts.length → w.cell? ⟨b, off + i * 2, none⟩ = some (.string ⟨(ts.getD i ([], [])).1.toArray⟩) ∧ w.cell? ⟨b, off + i * 2 + 1, none⟩ = some (.string ⟨(ts.getD i ([], [])).2.toArray⟩)
theorem TL.nil (w : World) (A : Option Addr) : TL w A [] := fun h => absurd rfl h
theorem TL.below {w w' : World} {A : Option Addr} {ts : List Tr} (h : TL w A ts) (hb : Below w.heap.size w w') : TL w' A ts := by
 intro hne
 obtain ⟨b, off, e, hlt, hc⟩ := h hne
 exact ⟨b, off, e, Nat.lt_of_lt_of_le hlt hb.size, fun i hi => ⟨(hb.cell (p := ⟨b, off + i * 2, none⟩) hlt).trans (hc i hi).1, (hb.cell (p := ⟨b, off + i * 2 + 1, none⟩) hlt).trans (hc i hi).2⟩⟩
theorem TL.get {w : World} {A : Option Addr} {ts : List Tr} (h : TL w A ts) {i : Nat} (hi : i < ts.length) :
  ∃ b off, A = some ⟨b, off, none⟩ ∧ b < w.heap.size ∧ w.cell? ⟨b, off + i * 2, none⟩ = some (.string ⟨(ts.getD i ([], [])).1.toArray⟩) ∧ w.cell? ⟨b, off + i * 2 + 1, none⟩ = some (.string ⟨(ts.getD i ([], [])).2.toArray⟩) := by
 obtain ⟨b, off, e, hlt, hc⟩ := h (by intro e; subst e; simp at hi)
 exact ⟨b, off, e, hlt, hc i hi⟩
/-- A value that reads as a list of pairs. -/
def TV (w : World) (v : Value) (ts : List Tr) : Prop := ∃ A c, v = .slice A ts.length c ∧ ts.length ≤ c ∧ c ≤ 9223372036854775807 ∧ (A = none → c = 0) ∧ TL w A ts
theorem TV.below {w w' : World} {v : Value} {ts : List Tr} (h : TV w v ts) (hb : Below w.heap.size w w') : TV w' v ts := by
 obtain ⟨A, c, h1, h2, h3, h4, h5⟩ := h
 exact ⟨A, c, h1, h2, h3, h4, h5.below hb⟩
theorem TV.nil (w : World) : TV w (.slice none 0 0) [] := ⟨none, 0, rfl, by simp, by omega, fun _ => rfl, TL.nil _ _⟩
theorem TV.own {w : World} {base : Nat} {e : TypeId} {v : Value} {n : Nat} {ts : List Tr} (h : w.ownsRow base e 2 v n (tcells ts)) : TV w v ts := by
 have hn : ts.length = n := by have := h.1; rw [tcells_length] at this; omega
 subst hn
 rcases h.2 with ⟨rfl, h0⟩ | ⟨g, cap, cur, rfl, hb, hg, h1, h2, _⟩
 ·have : ts = [] := List.eq_nil_of_length_eq_zero h0
  subst this
  exact TV.nil w
 ·refine ⟨some ⟨g, 0, none⟩, cap, rfl, h1, by unfold maxLen at h2; exact h2, (fun h => by cases h), fun _ => ⟨g, 0, rfl, (Array.getElem?_eq_some_iff.1 hg).1, fun i hi => ?_⟩⟩
  obtain ⟨a1, a2⟩ := tcells_at hi
  have b1 := h.cells (g := g) rfl _ _ a1
  have b2 := h.cells (g := g) rfl _ _ a2
  have e0 : ∀ j, (⟨g, 0, none⟩ : Addr).add j = ⟨g, 0 + j, none⟩ := fun j => by unfold Addr.add; split <;> simp_all
  rw [e0] at b1 b2
  exact ⟨b1, by rw [Nat.add_assoc]; exact b2⟩
theorem pair_one (z : List UInt8) (s : ByteArray) : ∀ u ∈ [Value.string ⟨z.toArray⟩, Value.string s], u.oneCell' = true := by
 intro u hu
 simp at hu
 rcases hu with rfl | rfl <;> rfl
end K
end Go.Proofs.YtcbdhheelddgeaaGreatDoor
namespace Go.Proofs.YtcbdhheelddgeaaGreatDoor
open Go.RowKit
namespace K
/-- 'copy(d, s)' at elements of two cells, into a row that is known whole. -/
theorem run_copy_pairs {P : Program} (w : World) (dT sT ty elem : TypeId) (g o dLen dCap : Nat) (a : Addr) (sLen sCap : Nat) (cur : Array Value) (t : TypeId) (cs : List Value) (m : Nat) (hm : Nat.min sLen dLen = m)
  (hu : P.underlying dT = some (.slice elem)) (hs : (P.info? elem).map (·.size) = some 2)
  (hg : w.heap[g]? = some (.cells cur t (0, 0))) (hn : cs.length = m * 2)
  (hsrc : ∀ j v, cs[j]? = some v → w.cell? (a.add j) = some v) (hfit : o + cs.length ≤ cur.size) (h1 : ∀ v ∈ cs, v.oneCell' = true) :
  (Builtin.copy_ #[dT, sT] ty #[.slice (some ⟨g, o, none⟩) dLen dCap, .slice (some a) sLen sCap]).run P w =
   .ok (goInt m) (w.setRow g (cur.toList.take o ++ cs ++ cur.toList.drop (o + cs.length)).toArray) := by
 have hl := run_loadCells_list (P := P) w a cs hsrc
 have hst := run_storeCells_at P g o t cs 0 cur w hg (by simpa using hfit) h1
 cases hq : P.info? elem with
 | none => simp [hq] at hs
 | some i =>
  have hi : i.size = 2 := by simpa [hq] using hs
  simp [Builtin.copy_, run_underlying hu, Builtin.lenOf, Builtin.firstCells, sizeOf, typeInfo, hq, hi, hm, ← hn, hl, hst]
theorem wpList_copy_eq {P : Program} (w : World) {ops : Array Oper} {rest : List Oper} {o : Oper} {a : Act} {Q : Exit → Act → World → Prop} (hgd : o.guard = none) (d s : Operand) (t t' : TypeId)
  (ho : o.op = .call { callee := .builtin .copy, args := #[d, s], argTypes := #[t, t'] }) (v u : Value) (hd : a.eval d = v) (hs : a.eval s = u) {v' : Value} {w' : World}
  (hr : (Builtin.copy_ #[t, t'] o.type #[v, u]).run P w = .ok v' w') (h : wpList P ops Q rest (a.put o.dst v') w') : wpList P ops Q (o :: rest) a w := by
 refine wpList_plain hgd fun K hK => ?_
 unfold Oper.wp execOp
 simp only [ho, resolve, invoke, builtin, Sem.run_bind, Sem.run_pure, Result.andThen_ok, List.map_toArray, List.map_cons, List.map_nil, hd, hs, hr]
 exact hK _ _ h
theorem step_copy_eq {P : Program} {ops : Array Oper} {o : Oper} {a : Act} {w : World} {K : Act → World → Prop} {Q : Exit → Act → World → Prop} {E : Prop}
  (hg : o.guard = none) (d x : Operand) (dT sT : TypeId) (hop : o.op = Op.call { callee := Callee.builtin Builtin.copy, args := #[d, x], argTypes := #[dT, sT] })
  (v u : Value) (hd : a.eval d = v) (hx : a.eval x = u) {v' : Value} {w' : World} (hr : (Builtin.copy_ #[dT, sT] o.type #[v, u]).run P w = .ok v' w') (hK : K (a.put o.dst v') w') :
  if Region.wanted o (yielded ops a.tmps) = true then Oper.wp P o a w K Q else E := by
 have hw : Region.wanted o (yielded ops a.tmps) = true := by simp [Region.wanted, hg]
 rw [if_pos hw]
 unfold Oper.wp
 simp [execOp, hop, resolve, invoke, builtin, hd, hx, hr, Result.andThen]
 exact hK
theorem tcells_one (ts : List Tr) : ∀ u ∈ tcells ts, u.oneCell' = true := by
 induction ts with
 | nil => intro u hu; simp [tcells] at hu
 | cons t r ih =>
  intro u hu
  simp only [tcells, List.mem_cons] at hu
  rcases hu with rfl | rfl | hu
  ·rfl
  ·rfl
  ·exact ih u hu
/-- A list with an element put in at place i. -/
def putAt (ts : List Tr) (i : Nat) (t : Tr) : List Tr := ts.take i ++ t :: ts.drop i
theorem tcells_take (ts : List Tr) (i : Nat) : tcells (ts.take i) = (tcells ts).take (i * 2) := by
 induction ts generalizing i with
 | nil => simp [tcells]
 | cons t r ih =>
  cases i with
  | zero => simp [tcells]
  | succ i => rw [List.take_succ_cons, show (i + 1) * 2 = i * 2 + 1 + 1 by omega]; simp [tcells, ih]
theorem tcells_drop (ts : List Tr) (i : Nat) : tcells (ts.drop i) = (tcells ts).drop (i * 2) := by
 induction ts generalizing i with
 | nil => simp [tcells]
 | cons t r ih =>
  cases i with
  | zero => simp
  | succ i => rw [List.drop_succ_cons, show (i + 1) * 2 = i * 2 + 1 + 1 by omega]; simp [tcells, ih]
/-- The row behind the two copies of an insertion in place. -/
theorem splice2 (cur xs ys : List Value) (a n : Nat) (hx : cur.take n = xs) (hl : xs.length = n) (ha : a ≤ n) (hy : ys.length = 2) (hc : n + 2 ≤ cur.length) :
  let r1 := cur.take (a + 2) ++ xs.drop a ++ cur.drop (a + 2 + (xs.drop a).length)
  let r2 := r1.take a ++ ys ++ r1.drop (a + ys.length)
  r2.length = cur.length ∧ r2.take (n + 2) = xs.take a ++ ys ++ xs.drop a := by
 intro r1 r2
 have l1 : (xs.drop a).length = n - a := by simp; omega
 have e1 : r1.take a = cur.take a := by
  show (cur.take (a + 2) ++ xs.drop a ++ cur.drop (a + 2 + (xs.drop a).length)).take a = _
  rw [List.append_assoc, List.take_append_of_le_length (by simp; omega), List.take_take, Nat.min_eq_left (by omega)]
 have e2 : r1.drop (a + 2) = xs.drop a ++ cur.drop (n + 2) := by
  show (cur.take (a + 2) ++ xs.drop a ++ cur.drop (a + 2 + (xs.drop a).length)).drop (a + 2) = _
  have : (cur.take (a + 2)).length = a + 2 := by simp; omega
  rw [List.append_assoc, List.drop_append_of_le_length (by omega), List.drop_of_length_le (by omega), List.nil_append, l1, show a + 2 + (n - a) = n + 2 by omega]
 have e3 : r2 = cur.take a ++ ys ++ (xs.drop a ++ cur.drop (n + 2)) := by
  show r1.take a ++ ys ++ r1.drop (a + ys.length) = _
  rw [hy, e1, e2]
 have e4 : cur.take a = xs.take a := by rw [← hx, List.take_take, Nat.min_eq_left ha]
 constructor
 ·rw [e3]
  simp
  omega
 ·rw [e3, e4, ← List.append_assoc]
  have : (xs.take a ++ ys ++ xs.drop a).length = n + 2 := by simp; omega
  rw [List.take_append_of_le_length (by omega), List.take_of_length_le (by omega)]
/-- The row behind the two copies of an insertion into a new row. -/
theorem splice3 (row xs ys : List Value) (a n : Nat) (hx : row.take a = xs.take a) (hl : xs.length = n) (ha : a ≤ n) (hy : ys.length = 2) (hc : n + 2 ≤ row.length) :
  let r1 := row.take a ++ ys ++ row.drop (a + ys.length)
  let r2 := r1.take (a + 2) ++ xs.drop a ++ r1.drop (a + 2 + (xs.drop a).length)
  r1.length = row.length ∧ r2.length = row.length ∧ r2.take (n + 2) = xs.take a ++ ys ++ xs.drop a := by
 intro r1 r2
 have l1 : (xs.drop a).length = n - a := by simp; omega
 have l0 : (xs.take a).length = a := by simp; omega
 have e0 : r1 = xs.take a ++ ys ++ row.drop (a + 2) := by show row.take a ++ ys ++ row.drop (a + ys.length) = _; rw [hx, hy]
 have hlen : r1.length = row.length := by rw [e0]; simp; omega
 have e1 : r1.take (a + 2) = xs.take a ++ ys := by
  rw [e0, List.take_append_of_le_length (by simp; omega), List.take_of_length_le (by simp; omega)]
 have e2 : r2 = xs.take a ++ ys ++ xs.drop a ++ r1.drop (n + 2) := by
  show r1.take (a + 2) ++ xs.drop a ++ r1.drop (a + 2 + (xs.drop a).length) = _
  rw [e1, l1, show a + 2 + (n - a) = n + 2 by omega]
 refine ⟨hlen, ?_, ?_⟩
 ·rw [e2]; simp; omega
 ·have : (xs.take a ++ ys ++ xs.drop a).length = n + 2 := by simp; omega
  rw [e2, List.take_append_of_le_length (by omega), List.take_of_length_le (by omega)]
end K
end Go.Proofs.YtcbdhheelddgeaaGreatDoor
namespace Go.Proofs.YtcbdhheelddgeaaGreatDoor
open Go.RowKit K
namespace W
theorem infoAl : (Tryz.prog.info? 32).map (fun i => (i.zero, i.size, i.bytes)) = some (some (.agg #[.string ⟨#[]⟩, .string ⟨#[]⟩]), 2, 32) := by kernel_rfl
/-- A list of pairs of the call's own comes back. -/
def TPost (w : World) (ts : List Tr) (e : Ending) (w' : World) : Prop := ∃ v, e = .returned v ∧ w'.ownsRow w.heap.size 32 2 v ts.length (tcells ts) ∧ Below w.heap.size w w'

theorem sizeAl : ∀ w, (Go.sizeOf 32).run Tryz.prog w = .ok 2 w := fun _ => by kernel_rfl

set_option maxHeartbeats 4000000 in
set_option maxRecDepth 100000 in
theorem Insert_room (g n cap i vb : Nat) (cur : Array Value) (ts : List Tr) (z : List UInt8) (s : List UInt8) (w : World) (hi : i < n) (hroom : n + 1 ≤ cap) (hcap : cap ≤ 9223372036854775807)
  (hg : w.heap[g]? = some (.cells cur 32 (0, 0))) (hcs : cur.size = cap * 2) (htk : cur.toList.take (n * 2) = tcells ts) (hn : ts.length = n)
  (hv : w.heap[vb]? = some (.cells #[.string ⟨z.toArray⟩, .string ⟨s.toArray⟩] 32 (0, 0))) (hne : vb ≠ g) :
  Calls Tryz.prog 22 #[.slice (some ⟨g, 0, none⟩) n cap, .int .i64 i, .slice (some ⟨vb, 0, none⟩) 1 1] w fun e w' =>
   e = .returned (.slice (some ⟨g, 0, none⟩) (n + 1) cap) ∧ Below g w w' ∧ ∃ row : Array Value, row.size = cap * 2 ∧ row.toList.take ((n + 1) * 2) = tcells (putAt ts i (z, s)) ∧ w'.heap[g]? = some (.cells row 32 (0, 0)) := by
 have hinfo : (Tryz.prog.info? 32).map (·.size) = some 2 := by kernel_rfl
 have hxl : (tcells ts).length = n * 2 := by rw [tcells_length, hn]
 have hcl : cur.toList.length = cap * 2 := by simpa using hcs
 have hgl : g < w.heap.size := (Array.getElem?_eq_some_iff.1 hg).1
 have hov : ∀ lb cb, (callFunc 53 #[.slice (some ⟨vb, 0, none⟩) 1 1, .slice (some ⟨g, (i + 1) * 2, none⟩) lb cb]).run Tryz.prog w = .ok (.value (.bool false)) w := fun lb cb => by
  rw [run_callFunc_extern Tryz.func53 (by kernel_rfl) (by kernel_rfl) (by kernel_rfl) (e := Extern.SlicesOverlaps.overlaps #[22, 22] #[4]) (by kernel_rfl),
   Lib.run_overlaps_apart w 22 4 32 Tryz.underlying22 2 sizeAl ⟨vb, 0, none⟩ ⟨g, (i + 1) * 2, none⟩ 1 1 lb cb hne 32 32 2 (cap * 2) (by simp [World.shape?, hv]) (by simp [World.shape?, hg, hcs]) (by omega) (by simp [World.frozen?, hv]) (by simp [World.frozen?, hv])]
  rfl
 have hsp := splice2 cur.toList (tcells ts) [.string ⟨z.toArray⟩, .string ⟨s.toArray⟩] (i * 2) (n * 2) htk hxl (by omega) rfl (by omega)
 simp only at hsp
 obtain ⟨r1, hr1⟩ : ∃ r, r = cur.toList.take (i * 2 + 2) ++ (tcells ts).drop (i * 2) ++ cur.toList.drop (i * 2 + 2 + ((tcells ts).drop (i * 2)).length) := ⟨_, rfl⟩
 rw [← hr1] at hsp
 have hdl : ((tcells ts).drop (i * 2)).length = (n - i) * 2 := by simp [hxl]; omega
 have hr1l : r1.length = cap * 2 := by rw [hr1]; simp; omega
 have hcell : ∀ j v, (tcells ts)[j]? = some v → w.cell? ⟨g, j, none⟩ = some v := fun j v hj => by
  rw [Lib.cell_of_heap hg]
  have hlt : j < n * 2 := by have := (List.getElem?_eq_some_iff.1 hj).1; omega
  rw [← htk, List.getElem?_take, if_pos hlt] at hj
  simpa using hj
 have hcp1 : ∀ ty dc sc, (Builtin.copy_ #[22, 22] ty #[.slice (some ⟨g, (i + 1) * 2, none⟩) (n - i) dc, .slice (some ⟨g, i * 2, none⟩) (n + 1 - i) sc]).run Tryz.prog w.drew =   .ok (goInt ((n - i : Nat) : Int)) (w.drew.setRow g r1.toArray) := fun ty dc sc => by
  have := run_copy_pairs (P := Tryz.prog) w.drew 22 22 ty 32 g ((i + 1) * 2) (n - i) dc ⟨g, i * 2, none⟩ (n + 1 - i) sc cur 32 ((tcells ts).drop (i * 2)) (n - i) (by simp only [Nat.min_def]; split <;> omega) Tryz.underlying22 hinfo hg hdl
   (fun j v hj => by
    rw [List.getElem?_drop] at hj
    rw [show (⟨g, i * 2, none⟩ : Addr).add j = ⟨g, i * 2 + j, none⟩ by unfold Addr.add; split <;> simp_all]
    exact hcell _ v hj) (by omega) (fun v hv => tcells_one ts v (List.mem_of_mem_drop hv))
  rw [this, hr1, show (i + 1) * 2 = i * 2 + 2 by omega]
 obtain ⟨W1, hW1⟩ : ∃ W1, W1 = w.drew.setRow g r1.toArray := ⟨_, rfl⟩
 have hgW : W1.heap[g]? = some (.cells r1.toArray 32 (0, 0)) := by rw [hW1]; exact setRow_heap w.drew g cur _ _ _ hg
 have hvW : W1.heap[vb]? = some (.cells #[.string ⟨z.toArray⟩, .string ⟨s.toArray⟩] 32 (0, 0)) := by rw [hW1]; exact (setRow_other w.drew g vb _ hne).trans hv
 have hbW : Below g w W1 := by rw [hW1]; exact ⟨rfl, rfl, rfl, by simp, fun k hk => setRow_other w.drew g k _ (by omega)⟩
 have hcp2 : ∀ ty dc, (Builtin.copy_ #[22, 22] ty #[.slice (some ⟨g, i * 2, none⟩) (n + 1 - i) dc, .slice (some ⟨vb, 0, none⟩) 1 1]).run Tryz.prog W1 = .ok (goInt 1) (W1.setRow g (r1.take (i * 2) ++ ([.string ⟨z.toArray⟩, .string ⟨s.toArray⟩] : List Value) ++ r1.drop (i * 2 + 2)).toArray) := fun ty dc => by
  have := run_copy_pairs (P := Tryz.prog) W1 22 22 ty 32 g (i * 2) (n + 1 - i) dc ⟨vb, 0, none⟩ 1 1 r1.toArray 32 [.string ⟨z.toArray⟩, .string ⟨s.toArray⟩] 1 (by simp only [Nat.min_def]; split <;> omega) Tryz.underlying22 hinfo hgW rfl
   (World.news_of_block (cs := #[.string ⟨z.toArray⟩, .string ⟨s.toArray⟩]) hvW) (by simp; omega) (pair_one _ _)
  simpa using this
 rw [← hW1] at hcp1
 have HSP := Lib.hid hsp
 have HGW := Lib.hid hgW
 have HBW := Lib.hid hbW
 have k1 : ¬ cap = i := by omega
 have k2 : ¬ cap = i + 1 := by omega
 have k3 : ((i : Int) == (n : Int)) = false := by simp; omega
 have k4 : (0 : Int) ≤ (i : Int) + 1 := by omega
 have k5 : (i : Int) + 1 ≤ (n : Int) + 1 := by omega
 have k6 : (i : Int) ≤ (n : Int) + 1 := by omega
 have k7 : IntKind.i64.wrap ((i : Int) + 1) = (i : Int) + 1 := by rw [IntKind.wrap_i64]; omega
 have k8 : ((i : Int) + 1).toNat = i + 1 := by omega
 have HCL := Lib.hid hcl
 clear hsp hgW hbW hvW hW1 hcell hdl hr1l hr1 hxl hcl htk hcs hv hg hinfo
 go_enter Tryz.func22, Tryz.ntmps22
 go_wp2_with (simp only [hov])
 go_region_law (refine step_copy_eq rfl _ _ 22 22 rfl _ _ (by simp [Act.eval, Act.put]) (by simp [Act.eval, Act.put]) (hcp1 _ _ _) ?_)
 go_wp2_with (at_builtin; refine wpList_copy_eq _ rfl _ _ 22 22 rfl _ _ rfl rfl (hcp2 _ _) ?_)
 go_ret
 have hb2 : ∀ row, Below g W1 (W1.setRow g row) := fun row => ⟨rfl, rfl, rfl, by simp, fun k hk => setRow_other W1 g k row (by omega)⟩
 refine ⟨rfl, HBW.out.trans (hb2 _), _, ?_, ?_, setRow_heap W1 g r1.toArray _ _ _ HGW.out⟩
 ·rw [← HCL.out, ← HSP.out.1]; simp
 ·rw [show (n + 1) * 2 = n * 2 + 2 by omega]
  have e : (r1.take (i * 2) ++ Value.string ⟨z.toArray⟩ :: Value.string ⟨s.toArray⟩ :: r1.drop (i * 2 + 2)).toArray.toList = r1.take (i * 2) ++ [Value.string ⟨z.toArray⟩, Value.string ⟨s.toArray⟩] ++ r1.drop (i * 2 + [Value.string ⟨z.toArray⟩, Value.string ⟨s.toArray⟩].length) := by simp
  rw [e]
  refine HSP.out.2.trans ?_
  unfold putAt
  rw [tcells_append, tcells, tcells_take, tcells_drop]
  simp
end W
end Go.Proofs.YtcbdhheelddgeaaGreatDoor
namespace Go.Proofs.YtcbdhheelddgeaaGreatDoor
open Go.RowKit K
namespace W

set_option maxHeartbeats 4000000 in
set_option maxRecDepth 100000 in
theorem Insert_grow (g n i vb : Nat) (cur : Array Value) (ts : List Tr) (z : List UInt8) (s : List UInt8) (w : World) (hi : i < n) (hnn : n ≤ 1000000)
  (hg : w.heap[g]? = some (.cells cur 32 (0, 0))) (htk : cur.toList.take (n * 2) = tcells ts) (hn : ts.length = n)
  (hv : w.heap[vb]? = some (.cells #[.string ⟨z.toArray⟩, .string ⟨s.toArray⟩] 32 (0, 0))) :
  Calls Tryz.prog 22 #[.slice (some ⟨g, 0, none⟩) n n, .int .i64 i, .slice (some ⟨vb, 0, none⟩) 1 1] w fun e w' =>
   ∃ cap, e = .returned (.slice (some ⟨w.heap.size, 0, none⟩) (n + 1) cap) ∧ Below w.heap.size w w' ∧ n + 1 ≤ cap ∧ cap ≤ maxLen ∧ ∃ row : Array Value, row.size = cap * 2 ∧ row.toList.take ((n + 1) * 2) = tcells (putAt ts i (z, s)) ∧ w'.heap[w.heap.size]? = some (.cells row 32 (0, 0)) := by
 obtain ⟨i0, hi0, hz0, hzs, hzb⟩ := info_parts infoAl
 have hinfo : (Tryz.prog.info? 32).map (·.size) = some 2 := by kernel_rfl
 have hxl : (tcells ts).length = n * 2 := by rw [tcells_length, hn]
 have hgl : g < w.heap.size := (Array.getElem?_eq_some_iff.1 hg).1
 have hvl : vb < w.heap.size := (Array.getElem?_eq_some_iff.1 hv).1
 have hcell : ∀ (W : World), W.heap[g]? = some (.cells cur 32 (0, 0)) → ∀ j v, (tcells ts)[j]? = some v → W.cell? ⟨g, j, none⟩ = some v := fun W hW j v hj => by
  rw [Lib.cell_of_heap hW]
  have hlt : j < n * 2 := by have := (List.getElem?_eq_some_iff.1 hj).1; omega
  rw [← htk, List.getElem?_take, if_pos hlt] at hj
  simpa using hj
 have hold : (Builtin.firstCells i0.size i (.slice (some ⟨g, 0, none⟩) i n)).run Tryz.prog w.drew = .ok ((tcells ts).take (i * 2)).toArray w.drew := by
  rw [hzs]
  refine run_firstCells_some w.drew 2 i ⟨g, 0, none⟩ i n ((tcells ts).take (i * 2)) (by simp; omega) (fun j v hj => ?_)
  rw [List.getElem?_take] at hj
  split at hj
  ·rw [show (⟨g, 0, none⟩ : Addr).add j = ⟨g, j, none⟩ by unfold Addr.add; split <;> simp_all]
   exact hcell w.drew hg j v hj
  ·cases hj
 obtain ⟨G, hG⟩ : ∃ G, G = grownCap w (n + 1) n 32 := ⟨_, rfl⟩
 have hGn : n + 1 ≤ G := by rw [hG]; exact grownCap_ge w _ _ _
 have hG63 : G ≤ maxLen := by rw [hG]; exact grownCap_le_maxLen w (n + 1) n 32 (by unfold maxLen; omega)
 obtain ⟨ROW, hROW⟩ : ∃ ROW : Array Value, ROW = ((tcells ts).take (i * 2)).toArray ++ Builtin.zeroCells (Value.agg #[.string ⟨#[]⟩, .string ⟨#[]⟩]).cells (n + 1 - i) ++ Builtin.zeroCells (Value.agg #[.string ⟨#[]⟩, .string ⟨#[]⟩]).cells (G - (n + 1)) := ⟨_, rfl⟩
 have hrz : ∀ ty, (Builtin.append_ #[22, 3] ty #[.slice (some ⟨g, 0, none⟩) i n, .int .i64 ((n : Int) + 1 - (i : Int))]).run Tryz.prog w = .ok (.slice (some ⟨w.heap.size, 0, none⟩) (n + 1) G) (w.drew.alloc (.cells ROW 32)) := fun ty => by
  have h := Lib.run_append_grow_zeros w 22 3 ty 32 i0 _ .i64 .i64 Tryz.underlying22 Tryz.underlying3 hi0 hz0 (some ⟨g, 0, none⟩) i n ((tcells ts).take (i * 2)) hold (n + 1 - i) (by omega) (by omega) (by omega) (by omega) (by rw [hzb]; omega) (by rw [hzb, show i + (n + 1 - i) = n + 1 by omega]; exact growslice_fits_wide (by omega) (by omega))
  rw [show i + (n + 1 - i) = n + 1 by omega, ← hG, ← hROW] at h
  rw [show (n : Int) + 1 - (i : Int) = ((n + 1 - i : Nat) : Int) by omega]
  exact h
 have hRl : ROW.size = G * 2 := by
  rw [hROW]
  simp [Builtin.zeroCells, Value.cells]
  omega
 have hRt : ROW.toList.take (i * 2) = (tcells ts).take (i * 2) := by
  rw [hROW]
  have hl : ((tcells ts).take (i * 2)).length = i * 2 := by simp; omega
  simp only [Array.toList_append, List.append_assoc]
  rw [List.take_append_of_le_length (by simp; omega), List.take_of_length_le (by simp; omega)]
 have hsp := splice3 ROW.toList (tcells ts) [.string ⟨z.toArray⟩, .string ⟨s.toArray⟩] (i * 2) (n * 2) hRt hxl (by omega) rfl (by simp; omega)
 simp only at hsp
 obtain ⟨r1, hr1⟩ : ∃ r, r = ROW.toList.take (i * 2) ++ [Value.string ⟨z.toArray⟩, Value.string ⟨s.toArray⟩] ++ ROW.toList.drop (i * 2 + [Value.string ⟨z.toArray⟩, Value.string ⟨s.toArray⟩].length) := ⟨_, rfl⟩
 rw [← hr1] at hsp
 obtain ⟨W1, hW1⟩ : ∃ W1, W1 = w.drew.alloc (.cells ROW 32) := ⟨_, rfl⟩
 rw [← hW1] at hrz
 have hN1 : W1.heap[w.heap.size]? = some (.cells ROW 32 (0, 0)) := by rw [hW1]; exact heap_alloc_new w.drew _
 have hb1 : Below w.heap.size w W1 := by rw [hW1]; exact (Below.refl _ w).drew.alloc (Nat.le_refl _) _
 have hcpA : ∀ ty dc, (Builtin.copy_ #[22, 22] ty #[.slice (some ⟨w.heap.size, i * 2, none⟩) (n + 1 - i) dc, .slice (some ⟨vb, 0, none⟩) 1 1]).run Tryz.prog W1 = .ok (goInt 1) (W1.setRow w.heap.size r1.toArray) := fun ty dc => by
  have := run_copy_pairs (P := Tryz.prog) W1 22 22 ty 32 w.heap.size (i * 2) (n + 1 - i) dc ⟨vb, 0, none⟩ 1 1 ROW 32 [.string ⟨z.toArray⟩, .string ⟨s.toArray⟩] 1 (by simp only [Nat.min_def]; split <;> omega) Tryz.underlying22 hinfo hN1 rfl
   (World.news_of_block (cs := #[.string ⟨z.toArray⟩, .string ⟨s.toArray⟩]) ((hb1.block vb hvl).trans hv)) (by simp; omega) (pair_one _ _)
  rw [this, hr1]
  rfl
 obtain ⟨W2, hW2⟩ : ∃ W2, W2 = W1.setRow w.heap.size r1.toArray := ⟨_, rfl⟩
 rw [← hW2] at hcpA
 have hN2 : W2.heap[w.heap.size]? = some (.cells r1.toArray 32 (0, 0)) := by rw [hW2]; exact setRow_heap W1 _ ROW _ _ _ hN1
 have hset : ∀ (W : World) row, Below w.heap.size W (W.setRow w.heap.size row) := fun W row => ⟨rfl, rfl, rfl, by simp, fun k hk => setRow_other W _ k row (by omega)⟩
 have hb2 : Below w.heap.size w W2 := by rw [hW2]; exact hb1.trans (hset W1 _)
 have hcpB : ∀ ty dc sc, (Builtin.copy_ #[22, 22] ty #[.slice (some ⟨w.heap.size, (i + 1) * 2, none⟩) (n - i) dc, .slice (some ⟨g, i * 2, none⟩) (n - i) sc]).run Tryz.prog W2.drew = .ok (goInt ((n - i : Nat) : Int)) (W2.drew.setRow w.heap.size (r1.take (i * 2 + 2) ++ (tcells ts).drop (i * 2) ++ r1.drop (i * 2 + 2 + ((tcells ts).drop (i * 2)).length)).toArray) := fun ty dc sc => by
  have := run_copy_pairs (P := Tryz.prog) W2.drew 22 22 ty 32 w.heap.size ((i + 1) * 2) (n - i) dc ⟨g, i * 2, none⟩ (n - i) sc r1.toArray 32 ((tcells ts).drop (i * 2)) (n - i) (by simp) Tryz.underlying22 hinfo hN2 (by simp [hxl]; omega)
   (fun j v hj => by
    rw [List.getElem?_drop] at hj
    rw [show (⟨g, i * 2, none⟩ : Addr).add j = ⟨g, i * 2 + j, none⟩ by unfold Addr.add; split <;> simp_all]
    exact hcell W2.drew ((hb2.block g hgl).trans hg) _ v hj) (by have := hsp.1; simp [hxl] at this ⊢; omega) (fun v hv => tcells_one ts v (List.mem_of_mem_drop hv))
  rw [this, show (i + 1) * 2 = i * 2 + 2 by omega]
 obtain ⟨r2, hr2⟩ : ∃ r, r = r1.take (i * 2 + 2) ++ (tcells ts).drop (i * 2) ++ r1.drop (i * 2 + 2 + ((tcells ts).drop (i * 2)).length) := ⟨_, rfl⟩
 rw [← hr2] at hcpB hsp
 have HSP := Lib.hid hsp
 have HB2 := Lib.hid hb2
 have HN2 := Lib.hid hN2
 have HSET := Lib.hid hset
 have HRL := Lib.hid hRl
 have HG := Lib.hid (And.intro hGn hG63)
 have hG1 : G ≤ 9223372036854775807 := by unfold maxLen at hG63; exact hG63
 have j1 : ¬ n = i := by omega
 have j2 : ¬ G = i := by omega
 have j3 : ¬ G = i + 1 := by omega
 have k3 : ((i : Int) == (n : Int)) = false := by simp; omega
 have k4 : (0 : Int) ≤ (i : Int) + 1 := by omega
 have k5 : (i : Int) + 1 ≤ (n : Int) + 1 := by omega
 have k6 : (i : Int) ≤ (n : Int) := by omega
 have k7 : IntKind.i64.wrap ((i : Int) + 1) = (i : Int) + 1 := by rw [IntKind.wrap_i64]; omega
 have k8 : ((i : Int) + 1).toNat = i + 1 := by omega
 have k9 : (n : Int) < (n : Int) + 1 := by omega
 clear hr2 hsp hb1 hb2 hN1 hN2 hset hcell hold hRl hRt hROW hG hG63 hr1 hW1 hW2 hxl htk hv hg hinfo hz0 hzs hzb hi0
 go_enter Tryz.func22, Tryz.ntmps22
 go_wp2_with (first
  | (at_builtin; refine Lib.wpList_append_run _ rfl _ _ _ _ rfl _ _ rfl rfl _ _ (hrz _) ?_)
  | (at_builtin; refine wpList_copy_eq _ rfl _ _ 22 22 rfl _ _ rfl rfl (hcpA _ _) ?_))
 go_region_law (refine step_copy_eq rfl _ _ 22 22 rfl _ _ (by simp [Act.eval, Act.put]) (by simp [Act.eval, Act.put]) (hcpB _ _ _) ?_)
 go_wp2
 go_ret
 refine ⟨G, rfl, HB2.out.drew.trans (HSET.out _ _), HG.out.1, HG.out.2, r2.toArray, ?_, ?_, setRow_heap W2.drew _ r1.toArray _ _ _ HN2.out⟩
 ·have h := HSP.out.2.1
  have h2 := HRL.out
  simp at h ⊢
  omega
 ·rw [show (n + 1) * 2 = n * 2 + 2 by omega]
  refine HSP.out.2.2.trans ?_
  unfold putAt
  rw [tcells_append, tcells, tcells_take, tcells_drop]
  simp
/-- slices.Insert of one trap into a list of the call's own. -/
theorem Insert_any (base : Nat) (v : Value) (ts : List Tr) (i vb : Nat) (z : List UInt8) (s : List UInt8) (w : World) (hown : w.ownsRow base 32 2 v ts.length (tcells ts)) (hi : i ≤ ts.length) (hn : ts.length ≤ 1000) (hbase : base ≤ w.heap.size)
  (hv : w.heap[vb]? = some (.cells #[.string ⟨z.toArray⟩, .string ⟨s.toArray⟩] 32 (0, 0))) (hne : v.ownBlock ≠ some vb) :
  Calls Tryz.prog 22 #[v, .int .i64 i, .slice (some ⟨vb, 0, none⟩) 1 1] w fun e w' => ∃ v', e = .returned v' ∧ w'.ownsRow base 32 2 v' (ts.length + 1) (tcells (putAt ts i (z, s))) ∧ Below base w w' := by
 have hpl : (tcells (putAt ts i (z, s))).length = (ts.length + 1) * 2 := by rw [tcells_length]; simp [putAt]; omega
 by_cases hin : i = ts.length
 ·subst hin
  obtain ⟨i0, hi0, hz0, hzs, hzb⟩ := info_parts infoAl
  have HPA := Lib.hid (show tcells ts ++ [.string ⟨z.toArray⟩, .string ⟨s.toArray⟩] = tcells (putAt ts ts.length (z, s)) by unfold putAt; rw [tcells_append, List.take_length, List.drop_length]; rfl)
  have hnews := World.news_of_block (cs := #[.string ⟨z.toArray⟩, .string ⟨s.toArray⟩]) hv
  have HO := Lib.hid hown
  obtain ⟨n, hnn⟩ : ∃ n, ts.length = n := ⟨_, rfl⟩
  rw [hnn] at hown hn HPA HO ⊢
  have k3 : ((n : Int) == (n : Int)) = true := by simp
  have hcs : (v = .slice none 0 0 ∧ n = 0) ∨ ∃ g cap, v = .slice (some ⟨g, 0, none⟩) n cap ∧ n ≤ cap ∧ cap ≤ 9223372036854775807 := by
   rcases hown.2 with h | ⟨g, cap, cur, h, _, _, h1, h2, _⟩
   ·exact .inl h
   ·exact .inr ⟨g, cap, h, h1, by unfold maxLen at h2; exact h2⟩
  clear hnn hpl
  rcases hcs with ⟨rfl, rfl⟩ | ⟨g, cap, rfl, hc1, hc2⟩
  case' inr =>
   by_cases hcn : cap = n
   case' pos => subst hcn
  all_goals
   go_enter Tryz.func22, Tryz.ntmps22
   go_wp2_with (at_builtin; refine wpList_append_own _ rfl _ _ 22 rfl base 32 i0 (.agg #[.string ⟨#[]⟩, .string ⟨#[]⟩]) 2 32 Tryz.underlying22 hi0 hz0 hzs hzb rfl (by decide) _ _ _ rfl hown ⟨vb, 0, none⟩ 1 1 [.string ⟨z.toArray⟩, .string ⟨s.toArray⟩] rfl rfl hnews (pair_one _ _) (by unfold maxLen; omega) (by omega) hbase ?_)
   intro v2 w2 hown2 hgrow2 _
   rw [HPA.out] at hown2
   have hb2 : Below base w w2 := (Below.refl _ _).grown hgrow2 hbase (fun k hk => (HO.out.lt k hk).1)
   have HO2 := Lib.hid hown2
   have HB2 := Lib.hid hb2
   clear hown2 hgrow2 hb2 hown
   go_wp2
   go_ret
   exact ⟨_, rfl, HO2.out, HB2.out⟩
 ·rcases hown.2 with ⟨_, h0⟩ | ⟨g, cap, cur, rfl, hb, hg, h1, h2, h3, h4⟩
  ·omega
  ·by_cases hr : ts.length + 1 ≤ cap
   ·refine (Insert_room g ts.length cap i vb cur ts z s w (by omega) hr (by unfold maxLen at h2; exact h2) hg h3 h4 rfl hv (by intro e; subst e; exact hne rfl)).mono fun e w' ⟨h5, h6, row, r1, r2, r3⟩ => ?_
    exact ⟨_, h5, ⟨hpl, .inr ⟨g, cap, row, rfl, hb, r3, by omega, h2, r1, r2⟩⟩, h6.mono hb⟩
   ·obtain rfl : cap = ts.length := by omega
    refine (Insert_grow g ts.length i vb cur ts z s w (by omega) (by omega) hg h4 rfl hv).mono fun e w' ⟨cap, h5, h6, h7, h8, row, r1, r2, r3⟩ => ?_
    exact ⟨_, h5, ⟨hpl, .inr ⟨w.heap.size, cap, row, rfl, hbase, r3, h7, h8, r1, r2⟩⟩, h6.mono hbase⟩
end W
end Go.Proofs.YtcbdhheelddgeaaGreatDoor
namespace Go.Proofs.YtcbdhheelddgeaaGreatDoor
open Go.RowKit K
namespace W
theorem TL_news {w : World} {ad : Addr} {ts : List Tr} (h : TL w (some ad) ts) : ∀ (j : Nat) (u : Value), (tcells ts)[j]? = some u → w.cell? (ad.add j) = some u := by
 intro j u hj
 have hlt : j < ts.length * 2 := by have := (List.getElem?_eq_some_iff.1 hj).1; rw [tcells_length] at this; exact this
 obtain ⟨b, off, e, _, hc⟩ := h (by intro e; subst e; simp at hlt)
 injection e with e
 subst e
 have e0 : (⟨b, off, none⟩ : Addr).add j = ⟨b, off + j, none⟩ := by unfold Addr.add; split <;> simp_all
 rw [e0]
 have hi : j / 2 < ts.length := by omega
 obtain ⟨c0, c1⟩ := hc (j / 2) hi
 obtain ⟨t0, t1⟩ := tcells_at hi
 rcases Nat.mod_two_eq_zero_or_one j with hm | hm
 ·have ej : j = j / 2 * 2 := by omega
  rw [ej] at hj ⊢
  rw [t0] at hj
  injection hj with hj
  rw [← hj]
  have : j / 2 * 2 / 2 * 2 = j / 2 * 2 := by omega
  exact c0
 ·have ej : j = j / 2 * 2 + 1 := by omega
  rw [ej] at hj ⊢
  rw [t1] at hj
  injection hj with hj
  rw [← hj, ← Nat.add_assoc]
  exact c1
theorem Clone_any (v : Value) (ts : List Tr) (w : World) (hV : TV w v ts) (hn : ts.length ≤ 1000) :
  Calls Tryz.prog 21 #[v] w (TPost w ts) := by
 obtain ⟨i0, hi0, hz0, hzs, hzb⟩ := info_parts infoAl
 obtain ⟨A, c, rfl, hc1, hc2, hA, hT⟩ := hV
 have qn : ∀ (w : World) (a : Option Addr) (n c n' c' : Nat), (binOp .eql 22 (.slice a n c) (.slice none n' c')).run Tryz.prog w = .ok (.bool a.isNone) w := fun w a n c n' c' => Lib.run_eql_slice_nil w _ _ a n c n' c' Tryz.underlying22
 cases A with
 | none =>
  have hl : ts = [] := by
   have := hA rfl
   exact List.eq_nil_of_length_eq_zero (by omega)
  subst hl
  obtain rfl : c = 0 := hA rfl
  clear hn hc1 hc2 hA hT hi0 hz0 hzs hzb
  go_enter Tryz.func21, Tryz.ntmps21
  go_wp2
  go_ret
  exact ⟨_, rfl, World.ownsRow_nil _ _ _ _, Below.refl _ _⟩
 | some ad =>
  have hnews := TL_news (hT.below (w' := w.alloc (.cells #[] 32)) ((Below.refl _ _).alloc (Nat.le_refl _) _))
  have hm : (w.alloc (.cells #[] 32)).ownsRow w.heap.size 32 2 (.slice (some ⟨w.heap.size, 0, none⟩) 0 0) 0 [] := World.ownsRow_made w #[] 0 (Nat.le_refl _) (by unfold maxLen; omega) (by simp)
  have HM := Lib.hid hm
  obtain ⟨n, hnn⟩ : ∃ n, ts.length = n := ⟨_, rfl⟩
  have HNN := Lib.hid hnn
  have hcl : (tcells ts).length = n * 2 := by rw [tcells_length, hnn]
  have HCL := Lib.hid hcl
  have HT1 := Lib.hid (tcells_one ts)
  rw [hnn] at hn hc1 ⊢
  clear hnn hcl hA hT
  go_enter Tryz.func21, Tryz.ntmps21
  go_wp2_with (at_builtin; refine wpList_append_own _ rfl _ _ 22 rfl w.heap.size 32 i0 (.agg #[.string ⟨#[]⟩, .string ⟨#[]⟩]) 2 32 Tryz.underlying22 hi0 hz0 hzs hzb rfl (by decide) _ _ _ rfl HM.out ad n c (tcells ts) rfl HCL.out hnews HT1.out (by unfold maxLen; omega) (by omega) (by simp) ?_)
  intro v2 w2 hown2 hgrow2 _
  have HB2 := Lib.hid (show Below w.heap.size w w2 from ((Below.refl _ w).alloc (Nat.le_refl _) _).grown hgrow2 (by simp) (fun k hk => (HM.out.lt k hk).1))
  try simp only [Nat.zero_add, List.nil_append] at hown2
  have HO2 := Lib.hid hown2
  clear hown2 hgrow2
  go_wp2
  go_ret
  exact ⟨_, rfl, by rw [HNN.out]; exact HO2.out, HB2.out⟩
end W
end Go.Proofs.YtcbdhheelddgeaaGreatDoor
