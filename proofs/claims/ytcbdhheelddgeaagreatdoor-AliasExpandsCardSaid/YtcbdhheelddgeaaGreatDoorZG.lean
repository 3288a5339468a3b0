/- Several texts in one: M9 M9b M9c. -/
import Derived.Test.YtcbdhheelddgeaaGreatDoorK
import Derived.Maps.RangeRun
import Derived.Below
namespace Go.Proofs.YtcbdhheelddgeaaGreatDoor
open Go.RowKit Go.MapKept
open Go.ChangeMaps (setBlock)
namespace K
abbrev SE := List UInt8 × Int
def sget : List SE → List UInt8 → Option Int
 | [], _ => none
 | (k, v) :: r, x => if k = x then some v else sget r x
def sput : List SE → List UInt8 → Int → List SE
 | [], k, v => [(k, v)]
 | (a, u) :: r, k, v => if a = k then (k, v) :: r else (a, u) :: sput r k v
def ments : Nat → List SE → List MapEntry
 | _, [] => []
 | i, (k, v) :: r => { key := .string ⟨k.toArray⟩, val := .int .i64 v, born := i } :: ments (i + 1) r
def SM (W : World) (b : Nat) (T : List SE) : Prop := W.heap[b]? = some (.map (ments 0 T).toArray T.length)
theorem sput_mem (k : List UInt8) (v : Int) : ∀ T x, x ∈ sput T k v → x = (k, v) ∨ x ∈ T
 | [], x, h => by simp [sput] at h; exact .inl h
 | (a, u) :: r, x, h => by
  unfold sput at h
  split at h
  ·rcases List.mem_cons.1 h with h | h
   ·exact .inl h
   ·exact .inr (List.mem_cons_of_mem _ h)
  ·rcases List.mem_cons.1 h with h | h
   ·exact .inr (by rw [h]; exact List.mem_cons_self)
   ·rcases sput_mem k v r x h with h | h
    ·exact .inl h
    ·exact .inr (List.mem_cons_of_mem _ h)
theorem find_ments (k : List UInt8) : ∀ (T : List SE) (i j : Nat),
  (sget T k = none ∧ Instr.findNow .string (.string ⟨k.toArray⟩) (ments i T) j = some none ∧ (sput T k 0).length = T.length + 1 ∧ ∀ u, ments i T ++ [{ key := .string ⟨k.toArray⟩, val := .int .i64 u, born := i + T.length }] = ments i (sput T k u)) ∨
  ∃ v q, sget T k = some v ∧ Instr.findNow .string (.string ⟨k.toArray⟩) (ments i T) j = some (some (j + q, .int .i64 v)) ∧ ((ments i T)[q]?).map (·.key) = some (.string ⟨k.toArray⟩) ∧ ∀ u, (ments i T).modify q (fun e => { e with key := .string ⟨k.toArray⟩, val := .int .i64 u }) = ments i (sput T k u) ∧ (sput T k u).length = T.length
 | [], i, j => .inl ⟨rfl, rfl, rfl, fun u => by simp [ments, sput]⟩
 | (a, v) :: r, i, j => by
  obtain ⟨x, hx, hiff⟩ := sameNow_of_keys (show IsKey .string (Value.string ⟨k.toArray⟩) from trivial) (show IsKey .string (Value.string ⟨a.toArray⟩) from trivial)
  by_cases h : a = k
  ·subst h
   have hx1 : x = true := hiff.2 rfl
   subst hx1
   exact .inr ⟨v, 0, by simp [sget], by simp [ments, Instr.findNow, hx], by simp [ments], fun u => ⟨by simp [ments, sput], by simp [sput]⟩⟩
  ·have hx0 : x = false := by
    cases x
    ·rfl
    ·have := hiff.1 rfl
     injection this with e
     injection e with e
     exact absurd (List.toArray_inj e).symm h
   subst hx0
   rcases find_ments k r (i + 1) (j + 1) with ⟨h1, h2, h3, h4⟩ | ⟨w, q, h1, h2, h3, h4⟩
   ·refine .inl ⟨by simp [sget, h, h1], by simp [ments, Instr.findNow, hx, h2], by simp [sput, h, h3], fun u => ?_⟩
    have := h4 u
    simp only [ments, sput, if_neg h, List.cons_append]
    rw [← this]
    congr 4
    simp; omega
   ·refine .inr ⟨w, q + 1, by simp [sget, h, h1], ?_, by simpa [ments] using h3, fun u => ?_⟩
    ·simp [ments, Instr.findNow, hx, h2]
     omega
    ·obtain ⟨g1, g2⟩ := h4 u
     exact ⟨by simp [ments, sput, h, g1], by simp [sput, h, g2]⟩
theorem SM.lt {W : World} {b : Nat} {T : List SE} (h : SM W b T) : b < W.heap.size := (Array.getElem?_eq_some_iff.1 h).1
theorem SM.kept {W W' : World} {b : Nat} {T : List SE} (h : SM W b T) (hb : W'.heap[b]? = W.heap[b]?) : SM W' b T := hb.trans h
theorem SM.made (W : World) : SM (W.alloc (.map #[] 0)) W.heap.size [] := by
 unfold SM
 rw [heap_alloc_new]
 rfl
theorem block_set (w : World) (b : Nat) (o : Obj) : (setBlock w b o).heap.size = w.heap.size ∧ ∀ q, q ≠ b → (setBlock w b o).heap[q]? = w.heap[q]? := by
 refine ⟨by simp [setBlock], fun q hq => ?_⟩
 simp [setBlock, Ne.symm hq]
theorem block_below {B b : Nat} {a w : World} (h : Below B a w) (hb : B ≤ b) (o : Obj) : Below B a (setBlock w b o) :=
 h.trans ⟨rfl, rfl, rfl, by rw [(block_set w b o).1]; exact Nat.le_refl _, fun k hk => (block_set w b o).2 k (by omega)⟩
/-- 'v, ok := m[k]'. -/
theorem SM.look {P : Program} {t kt et : TypeId} {W : World} {b : Nat} {T : List SE} (h : SM W b T) (ht : P.underlying t = some (.map kt et)) (hk : P.underlying kt = some .string) (hz : (zeroValue et).run P W = .ok (.int .i64 0) W) (k : List UInt8) :
  (Instr.lookup t (.map (some b)) (.string ⟨k.toArray⟩) true).run P W = .ok (.tuple #[.int .i64 ((sget T k).getD 0), .bool (sget T k).isSome]) W := by
 unfold SM at h
 have hg : (getObj b).run P W = .ok (.map (ments 0 T).toArray T.length) W := by simp [getObj, Sem.run, h]
 have hc : ∀ e, (Instr.checkKey e 10000 kt (.string ⟨k.toArray⟩)).run P W = .ok () W := fun e => run_checkKey hk (show IsKey .string (Value.string ⟨k.toArray⟩) from trivial) e 9999
 rcases find_ments k T 0 0 with ⟨h1, h2, _⟩ | ⟨v, q, h1, h2, _⟩
 ·have hf := run_findKey (w := W) hk h2
  simp [Instr.lookup, run_underlying ht, hg, hc, hf, hz, h1]
 ·have hf := run_findKey (w := W) hk h2
  simp [Instr.lookup, run_underlying ht, hg, hc, hf, h1]
/-- 'm[k] = u'. -/
theorem SM.put {P : Program} {t kt et : TypeId} {W : World} {b : Nat} {T : List SE} (h : SM W b T) (ht : P.underlying t = some (.map kt et)) (hk : P.underlying kt = some .string) (k : List UInt8) (u : Int) :
  (Instr.mapUpdate t (.map (some b)) (.string ⟨k.toArray⟩) (.int .i64 u)).run P W = .ok () (setBlock W b (.map (ments 0 (sput T k u)).toArray (sput T k u).length)) := by
 unfold SM at h
 have hg : (getObj b).run P W = .ok (.map (ments 0 T).toArray T.length) W := by simp [getObj, Sem.run, h]
 have hc : ∀ e, (Instr.checkKey e 10000 kt (.string ⟨k.toArray⟩)).run P W = .ok () W := fun e => run_checkKey hk (show IsKey .string (Value.string ⟨k.toArray⟩) from trivial) e 9999
 have hset : ∀ o, (setObj b o).run P W = .ok () (setBlock W b o) := fun o => by simp [setObj, Sem.run, h, setBlock]
 rcases find_ments k T 0 0 with ⟨h1, h2, h3, h4⟩ | ⟨v, q, h1, h2, h3, h4⟩
 ·have hf := run_findKey (w := W) hk h2
  have hl : (sput T k u).length = T.length + 1 := by
   have := congrArg List.length (h4 u)
   have h5 : ∀ (T : List SE) (i : Nat), (ments i T).length = T.length := fun T => by
    induction T with
    | nil => intro i; rfl
    | cons a r ih => intro i; simp [ments, ih]
   rw [List.length_append, h5, h5] at this
   simpa using this.symm
  have h6 := h4 u
  rw [Nat.zero_add] at h6
  simp [Instr.mapUpdate, run_underlying ht, hg, hc, hf, hset, ← h6, hl]
 ·have hf := run_findKey (w := W) hk h2
  obtain ⟨g1, g2⟩ := h4 u
  have hst : (Instr.keyThatStays (.string ⟨k.toArray⟩) (.string ⟨k.toArray⟩)).run P W = .ok (.string ⟨k.toArray⟩) W := run_keyThatStays (show IsKey .string (Value.string ⟨k.toArray⟩) from trivial)
  rw [Nat.zero_add] at hf
  simp [Instr.mapUpdate, run_underlying ht, hg, hc, hf, h3, hst, hset, g1, g2]
theorem SM.set {W : World} {b : Nat} {T : List SE} (h : SM W b T) (T' : List SE) : SM (setBlock W b (.map (ments 0 T').toArray T'.length)) b T' := by
 have := h.lt
 unfold SM
 simp [setBlock, this]
end K
end Go.Proofs.YtcbdhheelddgeaaGreatDoor
namespace Go.Proofs.YtcbdhheelddgeaaGreatDoor
open Go.RowKit Go.MapKept
namespace K
/-- The entries midway: those seen are turned by f. -/
def mixF (f : Int → Int) (seen : Array Nat) : Nat → List SE → List SE
 | _, [] => []
 | i, (k, v) :: r => (k, if seen.contains i then f v else v) :: mixF f seen (i + 1) r
theorem mixF_none (f : Int → Int) : ∀ (T : List SE) (i : Nat), mixF f #[] i T = T
 | [], _ => rfl
 | (k, v) :: r, i => by simp [mixF, mixF_none f r (i + 1)]
theorem mixF_length (f : Int → Int) (seen : Array Nat) : ∀ (T : List SE) (i : Nat), (mixF f seen i T).length = T.length
 | [], _ => rfl
 | (k, v) :: r, i => by simp [mixF, mixF_length f seen r (i + 1)]
theorem mixF_push (f : Int → Int) (seen : Array Nat) (j : Nat) : ∀ (T : List SE) (i : Nat), (j < i ∨ i + T.length ≤ j) → mixF f (seen.push j) i T = mixF f seen i T
 | [], _, _ => rfl
 | (k, v) :: r, i, h => by
  simp only [List.length_cons] at h
  simp only [mixF]
  rw [mixF_push f seen j r (i + 1) (by omega)]
  have : ((seen.push j).contains i) = seen.contains i := by
   rw [Bool.eq_iff_iff]
   simp
   intro e
   omega
  rw [this]
theorem ments_mem : ∀ (T : List SE) (i : Nat) (e : MapEntry), e ∈ ments i T → ∃ j k v, T[j]? = some (k, v) ∧ e = { key := .string ⟨k.toArray⟩, val := .int .i64 v, born := i + j }
 | [], _, e, h => by simp [ments] at h
 | (k, v) :: r, i, e, h => by
  unfold ments at h
  rcases List.mem_cons.1 h with h | h
  ·exact ⟨0, k, v, rfl, h⟩
  ·obtain ⟨j, k', v', h1, h2⟩ := ments_mem r (i + 1) e h
   exact ⟨j + 1, k', v', h1, by rw [h2]; congr 1; omega⟩
theorem ments_born : ∀ (T : List SE) (i : Nat), (ments i T).map (·.born) = List.range' i T.length
 | [], _ => rfl
 | (k, v) :: r, i => by simp [ments, ments_born r (i + 1), List.range'_succ]
theorem ments_get : ∀ (T : List SE) (i j : Nat) (k : List UInt8) (v : Int), T[j]? = some (k, v) → { key := .string ⟨k.toArray⟩, val := .int .i64 v, born := i + j } ∈ ments i T
 | [], _, _, _, _, h => by simp at h
 | (a, u) :: r, i, 0, k, v, h => by simp at h; rw [h.1, h.2]; simp [ments]
 | (a, u) :: r, i, j + 1, k, v, h => by
  have := ments_get r (i + 1) j k v (by simpa using h)
  unfold ments
  rw [show i + (j + 1) = i + 1 + j by omega]
  exact List.mem_cons_of_mem _ this
theorem mixF_get (f : Int → Int) (seen : Array Nat) : ∀ (T : List SE) (i j : Nat) (k : List UInt8) (v : Int), (mixF f seen i T)[j]? = some (k, v) → ∃ u, T[j]? = some (k, u) ∧ v = if seen.contains (i + j) then f u else u
 | [], _, _, _, _, h => by simp [mixF] at h
 | (a, u) :: r, i, 0, k, v, h => by simp [mixF] at h; exact ⟨u, by simp [h.1], by simp [h.2.symm]⟩
 | (a, u) :: r, i, j + 1, k, v, h => by
  obtain ⟨u', h1, h2⟩ := mixF_get f seen r (i + 1) j k v (by simpa [mixF] using h)
  exact ⟨u', by simpa using h1, by rw [h2, show i + 1 + j = i + (j + 1) by omega]⟩
/-- A round: the entry j is turned. -/
theorem mixF_put (f : Int → Int) (seen : Array Nat) : ∀ (T : List SE) (i j : Nat) (k : List UInt8) (v : Int), (T.map Prod.fst).Nodup → T[j]? = some (k, v) → sput (mixF f seen i T) k (f v) = mixF f (seen.push (i + j)) i T
 | [], _, _, _, _, _, h => by simp at h
 | (a, u) :: r, i, 0, k, v, hn, h => by
  simp at h
  obtain ⟨rfl, rfl⟩ := h
  simp only [mixF, sput, if_true]
  rw [mixF_push f seen (i + 0) r (i + 1) (by omega)]
  simp
 | (a, u) :: r, i, j + 1, k, v, hn, h => by
  simp only [List.map_cons, List.nodup_cons] at hn
  have hr : r[j]? = some (k, v) := by simpa using h
  have hne : ¬ a = k := by
   rintro rfl
   exact hn.1 (List.mem_map.2 ⟨(a, v), List.mem_of_getElem? hr, rfl⟩)
  simp only [mixF, sput, if_neg hne]
  rw [mixF_put f seen r (i + 1) j k v hn.2 hr, show i + 1 + j = i + (j + 1) by omega]
  have : ((seen.push (i + (j + 1))).contains i) = seen.contains i := by
   rw [Bool.eq_iff_iff]
   simp
  rw [this]
/-- A round that stores nothing. -/
theorem mixF_same (f : Int → Int) (seen : Array Nat) : ∀ (T : List SE) (i j : Nat) (k : List UInt8) (v : Int), T[j]? = some (k, v) → f v = v → mixF f (seen.push (i + j)) i T = mixF f seen i T
 | [], _, _, _, _, h, _ => by simp at h
 | (a, u) :: r, i, 0, k, v, h, hf => by
  simp at h
  obtain ⟨rfl, rfl⟩ := h
  simp only [mixF]
  rw [mixF_push f seen (i + 0) r (i + 1) (by omega)]
  simp [hf]
 | (a, u) :: r, i, j + 1, k, v, h, hf => by
  have hr : r[j]? = some (k, v) := by simpa using h
  simp only [mixF]
  rw [show i + (j + 1) = i + 1 + j by omega, mixF_same f seen r (i + 1) j k v hr hf]
  have : ((seen.push (i + 1 + j)).contains i) = seen.contains i := by
   rw [Bool.eq_iff_iff]
   simp
   intro e
   omega
  rw [this]
/-- At the end all are turned. -/
theorem mixF_all (f : Int → Int) (seen : Array Nat) : ∀ (T : List SE) (i : Nat), (∀ j, j < T.length → seen.contains (i + j) = true) → mixF f seen i T = T.map fun e => (e.1, f e.2)
 | [], _, _ => rfl
 | (k, v) :: r, i, h => by
  have h0 := h 0 (by simp)
  simp only [Nat.add_zero] at h0
  simp only [mixF, List.map_cons]
  rw [mixF_all f seen r (i + 1) (fun j hj => by have := h (j + 1) (by simp; omega); rwa [show i + (j + 1) = i + 1 + j by omega] at this), h0]
  rfl
theorem left_none {T : List SE} {seen : Array Nat} (h : (leftOf (ments 0 T).toArray seen).size = 0) : ∀ j, j < T.length → seen.contains (0 + j) = true := by
 intro j hj
 have h1 : leftOf (ments 0 T).toArray seen = #[] := Array.eq_empty_of_size_eq_zero h
 unfold leftOf at h1
 rw [Array.filter_eq_empty_iff] at h1
 obtain ⟨k, v, hx⟩ : ∃ k v, T[j]? = some (k, v) := ⟨_, _, List.getElem?_eq_getElem hj⟩
 have := h1 _ (by simpa using ments_get T 0 j k v hx)
 simpa using this
theorem left_mem {T : List SE} {seen : Array Nat} {e : MapEntry} (h : e ∈ (leftOf (ments 0 T).toArray seen).toList) : ∃ j k v, T[j]? = some (k, v) ∧ e = { key := .string ⟨k.toArray⟩, val := .int .i64 v, born := j } ∧ seen.contains j = false := by
 unfold leftOf at h
 simp at h
 obtain ⟨j, k, v, h1, h2⟩ := ments_mem T 0 e h.1
 rw [Nat.zero_add] at h2
 refine ⟨j, k, v, h1, h2, ?_⟩
 rw [h2] at h
 simpa using h.2
theorem sput_keys (k : List UInt8) (v : Int) : ∀ T, ((T.map Prod.fst).Nodup → ((sput T k v).map Prod.fst).Nodup)
 | [], _ => by simp [sput]
 | (a, u) :: r, h => by
  simp only [List.map_cons, List.nodup_cons] at h
  unfold sput
  split
  ·rename_i e; subst e; simpa using h
  ·rename_i hne
   simp only [List.map_cons, List.nodup_cons]
   refine ⟨fun hm => ?_, sput_keys k v r h.2⟩
   obtain ⟨x, hx, e⟩ := List.mem_map.1 hm
   rcases sput_mem k v r x hx with rfl | hx
   ·exact hne e.symm
   ·exact h.1 (List.mem_map.2 ⟨x, hx, e⟩)
end K
end Go.Proofs.YtcbdhheelddgeaaGreatDoor
namespace Go.Proofs.YtcbdhheelddgeaaGreatDoor
open Go.RowKit Go.MapKept
open Go.ChangeMaps (setBlock)
namespace K
/-- The world of a range over the map mb with its iterator in r; U: the world ahead of it. -/
structure RW (f : Int → Int) (T : List SE) (mb r : Nat) (U wr : World) (seen : Array Nat) : Prop where
 it : wr.heap[r]? = some (.mapIter (some mb) T.length seen T.length)
 m : SM wr mb (mixF f seen 0 T)
 far : ∀ q, q ≠ r → q ≠ mb → wr.heap[q]? = U.heap[q]?
 size : wr.heap.size = U.heap.size + 1
 below : ∀ B, B ≤ mb → B ≤ r → Below B U wr
 nodup : seen.toList.Nodup
 lt : ∀ j ∈ seen.toList, j < T.length
section
variable {f : Int → Int} {T : List SE} {mb r : Nat} {U wr : World} {seen : Array Nat}
theorem RW.start (hr : r = U.heap.size) (hM : SM U mb T) : RW f T mb r U (U.alloc (.mapIter (some mb) T.length #[] T.length)) #[] := by
 have hlt := hM.lt
 subst hr
 refine ⟨heap_alloc_new _ _, ?_, fun q h1 _ => ?_, by simp, fun B _ hB => (Below.refl B U).alloc hB _, by simp, by simp⟩
 ·rw [mixF_none]
  exact hM.kept (Below.heap_alloc _ _ _ hlt)
 ·by_cases hq : q < U.heap.size
  ·exact Below.heap_alloc _ _ _ hq
  ·rw [Array.getElem?_eq_none (by simp; omega), Array.getElem?_eq_none (by omega)]
theorem nodup_le : ∀ (n : Nat) (l : List Nat), l.Nodup → (∀ x ∈ l, x < n) → l.length ≤ n
 | 0, l, _, h => by
  cases l with
  | nil => simp
  | cons a r => have := h a (by simp); omega
 | n + 1, l, hn, h => by
  have h1 := nodup_le n (l.erase n) (hn.erase n) (fun x hx => by
   rw [hn.mem_erase_iff] at hx
   have := h x hx.2
   omega)
  rw [List.length_erase] at h1
  split at h1 <;> omega
theorem RW.size_le (h : RW f T mb r U wr seen) : seen.size ≤ T.length := by
 have := nodup_le _ _ h.nodup h.lt
 simpa using this
/-- The iterator's step; w1: wr or wr with a draw. -/
theorem RW.next {P : Program} (h : RW f T mb r U wr seen) (hrm : r ≠ mb) :
  (mixF f seen 0 T = T.map (fun e => (e.1, f e.2)) ∧ (Instr.next (.pointer (some ⟨r, 0, none⟩)) false 0).run P wr = .ok (.tuple #[.bool false]) wr) ∨
  ∃ j k u, ∃ W : World, T[j]? = some (k, u) ∧ j ∉ seen.toList ∧ (Instr.next (.pointer (some ⟨r, 0, none⟩)) false 0).run P wr = .ok (.tuple #[.bool true, .string ⟨k.toArray⟩, .int .i64 u]) W ∧ (Instr.entry (.pointer (some ⟨r, 0, none⟩))).run P W = .ok (.tuple #[.string ⟨k.toArray⟩, .int .i64 u]) W ∧
   W.heap[r]? = some (.mapIter (some mb) T.length (seen.push j) T.length) ∧ SM W mb (mixF f seen 0 T) ∧ (∀ q, q ≠ r → q ≠ mb → W.heap[q]? = U.heap[q]?) ∧ W.heap.size = U.heap.size + 1 ∧ (∀ B, B ≤ mb → B ≤ r → Below B U W) := by
 have hm1 := h.m
 unfold SM at hm1
 rw [mixF_length] at hm1
 have hborn : ∀ x ∈ (ments 0 (mixF f seen 0 T)).toArray.toList, x.born < T.length := fun x hx => by
  obtain ⟨j, k, v, h1, h2⟩ := ments_mem _ 0 x (by simpa using hx)
  rw [h2]
  have := (List.getElem?_eq_some_iff.1 h1).1
  rw [mixF_length] at this
  simpa using this
 rcases run_next_at (P := P) wr 0 r mb T.length T.length seen _ _ h.it hm1 hborn (Nat.le_refl _) with ⟨h0, hrun⟩ | ⟨e, he, w1, hw1, hrun⟩
 ·have hall := left_none h0
  exact .inl ⟨mixF_all f seen T 0 (fun j hj => hall j (by rwa [mixF_length])), hrun⟩
 ·obtain ⟨j, k, u, hj, rfl, hns⟩ := left_mem he
  obtain ⟨u', hT, hu⟩ := mixF_get f seen T 0 j k u hj
  rw [Nat.zero_add, hns] at hu
  simp only [Bool.false_eq_true, if_false] at hu
  subst hu
  have hh : w1.heap = wr.heap := by rcases hw1 with rfl | rfl <;> rfl
  have hbw : ∀ B, Below B wr w1 := fun B => by rcases hw1 with rfl | rfl; exact Below.refl _ _; exact (Below.refl _ _).drew
  have hit : w1.heap[r]? = some (.mapIter (some mb) T.length seen T.length) := by rw [hh]; exact h.it
  have hrlt := (Array.getElem?_eq_some_iff.1 hit).1
  obtain ⟨b1, b2⟩ := block_set w1 r (.mapIter (some mb) T.length (seen.push j) T.length)
  have hr2 : (setBlock w1 r (.mapIter (some mb) T.length (seen.push j) T.length)).heap[r]? = some (.mapIter (some mb) T.length (seen.push j) T.length) := by simp [setBlock, hrlt]
  have hm2 : SM (setBlock w1 r (.mapIter (some mb) T.length (seen.push j) T.length)) mb (mixF f seen 0 T) := h.m.kept ((b2 mb hrm.symm).trans (by rw [hh]))
  refine .inr ⟨j, k, u, _, hT, by simpa using hns, hrun, ?_, hr2, hm2, fun q h1 h2 => ((b2 q h1).trans (by rw [hh])).trans (h.far q h1 h2), by rw [b1, hh]; exact h.size, fun B h1 h2 => block_below ((h.below B h1 h2).trans (hbw B)) h2 _⟩
  have hm3 := hm2
  unfold SM at hm3
  rw [mixF_length] at hm3
  refine run_entry_at _ r mb T.length seen _ _ { key := .string ⟨k.toArray⟩, val := .int .i64 u, born := j } hr2 hm3 ?_ ?_
  ·have := ments_get (mixF f seen 0 T) 0 j k u hj
   rw [Nat.zero_add] at this
   simpa using this
  ·have := ments_born (mixF f seen 0 T) 0
   simp only [this]
   exact List.nodup_range'
end
section
variable {f : Int → Int} {T : List SE} {mb r j : Nat} {U W : World} {seen : Array Nat}
theorem RW.round_same (hn : seen.toList.Nodup) (hl : ∀ i ∈ seen.toList, i < T.length) {k : List UInt8} {u : Int} (hT : T[j]? = some (k, u)) (hj : j ∉ seen.toList) (hf : f u = u) (h1 : W.heap[r]? = some (.mapIter (some mb) T.length (seen.push j) T.length)) (h2 : SM W mb (mixF f seen 0 T)) (h3 : ∀ q, q ≠ r → q ≠ mb → W.heap[q]? = U.heap[q]?) (h4 : W.heap.size = U.heap.size + 1) (h5 : ∀ B, B ≤ mb → B ≤ r → Below B U W) : RW f T mb r U W (seen.push j) := by
 have hjl := (List.getElem?_eq_some_iff.1 hT).1
 refine ⟨h1, ?_, h3, h4, h5, ?_, fun i hi => ?_⟩
 ·have := mixF_same f seen T 0 j k u hT hf
  rw [Nat.zero_add] at this
  rw [this]
  exact h2
 ·simp only [Array.toList_push]
  rw [List.nodup_append]
  exact ⟨hn, by simp, fun a ha b hb => by simp at hb; rw [hb]; rintro rfl; exact hj ha⟩
 ·simp only [Array.toList_push, List.mem_append, List.mem_singleton] at hi
  rcases hi with hi | rfl
  ·exact hl i hi
  ·exact hjl
theorem RW.round_put (hk : (T.map Prod.fst).Nodup) (hrm : r ≠ mb) (hn : seen.toList.Nodup) (hl : ∀ i ∈ seen.toList, i < T.length) {k : List UInt8} {u : Int} (hT : T[j]? = some (k, u)) (hj : j ∉ seen.toList) (h1 : W.heap[r]? = some (.mapIter (some mb) T.length (seen.push j) T.length)) (h2 : SM W mb (mixF f seen 0 T)) (h3 : ∀ q, q ≠ r → q ≠ mb → W.heap[q]? = U.heap[q]?) (h4 : W.heap.size = U.heap.size + 1) (h5 : ∀ B, B ≤ mb → B ≤ r → Below B U W) :
  RW f T mb r U (setBlock W mb (.map (ments 0 (sput (mixF f seen 0 T) k (f u))).toArray (sput (mixF f seen 0 T) k (f u)).length)) (seen.push j) := by
 have hjl := (List.getElem?_eq_some_iff.1 hT).1
 have hput := mixF_put f seen T 0 j k u hk hT
 rw [Nat.zero_add] at hput
 obtain ⟨b1, b2⟩ := block_set W mb (.map (ments 0 (sput (mixF f seen 0 T) k (f u))).toArray (sput (mixF f seen 0 T) k (f u)).length)
 refine ⟨(b2 r hrm).trans h1, ?_, fun q q1 q2 => (b2 q q2).trans (h3 q q1 q2), b1.trans h4, fun B q1 q2 => block_below (h5 B q1 q2) q1 _, ?_, fun i hi => ?_⟩
 ·have := h2.set (sput (mixF f seen 0 T) k (f u))
  rw [hput] at this ⊢
  exact this
 ·simp only [Array.toList_push]
  rw [List.nodup_append]
  exact ⟨hn, by simp, fun a ha b hb => by simp at hb; rw [hb]; rintro rfl; exact hj ha⟩
 ·simp only [Array.toList_push, List.mem_append, List.mem_singleton] at hi
  rcases hi with hi | rfl
  ·exact hl i hi
  ·exact hjl
end
end K
end Go.Proofs.YtcbdhheelddgeaaGreatDoor
