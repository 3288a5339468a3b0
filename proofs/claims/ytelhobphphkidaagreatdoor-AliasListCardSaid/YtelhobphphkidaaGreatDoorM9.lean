/- A map from strings to ints as a list of its entries, in the order of their births; none is ever deleted. Nothing of the program is in it. -/
import Derived.Test.YtelhobphphkidaaGreatDoorK
import Derived.Maps.RangeRun
import Derived.Below
namespace Go.Proofs.YtelhobphphkidaaGreatDoor
open Go.RowKit Go.MapKept
open Go.ChangeMaps (setBlock)
namespace K
abbrev SE := List UInt8 × Int
def sget : List SE → List UInt8 → Option Int
  | [], _ => none
  | (k, v) :: r, x => if k = x then some v else sget r x
def sput : List SE → List UInt8 → Int → List SE
  | [], k, v => [(k, v)]
  | (a, u) :: r, k, v => if a = k then (k, v) :: r else (a, u) :: sput r k v
def ments : Nat → List SE → List MapEntry
  | _, [] => []
  | i, (k, v) :: r => { key := .string ⟨k.toArray⟩, val := .int .i64 v, born := i } :: ments (i + 1) r
def SM (W : World) (b : Nat) (T : List SE) : Prop := W.heap[b]? = some (.map (ments 0 T).toArray T.length)
theorem sput_length_le (k : List UInt8) (v : Int) : ∀ T, (sput T k v).length ≤ T.length + 1
  | [] => by simp [sput]
  | (a, u) :: r => by unfold sput; split <;> simp; exact sput_length_le k v r
theorem sput_mem (k : List UInt8) (v : Int) : ∀ T x, x ∈ sput T k v → x = (k, v) ∨ x ∈ T
  | [], x, h => by simp [sput] at h; exact .inl h
  | (a, u) :: r, x, h => by
    unfold sput at h
    split at h
    · rcases List.mem_cons.1 h with h | h
      · exact .inl h
      · exact .inr (List.mem_cons_of_mem _ h)
    · rcases List.mem_cons.1 h with h | h
      · exact .inr (by rw [h]; exact List.mem_cons_self)
      · rcases sput_mem k v r x h with h | h
        · exact .inl h
        · exact .inr (List.mem_cons_of_mem _ h)
theorem ments_keys : ∀ (T : List SE) (i : Nat), ∀ x ∈ ments i T, IsKey .string x.key
  | [], _, x, h => by simp [ments] at h
  | (k, v) :: r, i, x, h => by
    unfold ments at h
    rcases List.mem_cons.1 h with h | h
    · rw [h]; trivial
    · exact ments_keys r (i + 1) x h
theorem find_ments (k : List UInt8) : ∀ (T : List SE) (i j : Nat),
    (sget T k = none ∧ Instr.findNow .string (.string ⟨k.toArray⟩) (ments i T) j = some none ∧ (sput T k 0).length = T.length + 1 ∧ ∀ u, ments i T ++ [{ key := .string ⟨k.toArray⟩, val := .int .i64 u, born := i + T.length }] = ments i (sput T k u)) ∨
    ∃ v q, sget T k = some v ∧ Instr.findNow .string (.string ⟨k.toArray⟩) (ments i T) j = some (some (j + q, .int .i64 v)) ∧ ((ments i T)[q]?).map (·.key) = some (.string ⟨k.toArray⟩) ∧ ∀ u, (ments i T).modify q (fun e => { e with key := .string ⟨k.toArray⟩, val := .int .i64 u }) = ments i (sput T k u) ∧ (sput T k u).length = T.length
  | [], i, j => .inl ⟨rfl, rfl, rfl, fun u => by simp [ments, sput]⟩
  | (a, v) :: r, i, j => by
    obtain ⟨x, hx, hiff⟩ := sameNow_of_keys (show IsKey .string (Value.string ⟨k.toArray⟩) from trivial) (show IsKey .string (Value.string ⟨a.toArray⟩) from trivial)
    by_cases h : a = k
    · subst h
      have hx1 : x = true := hiff.2 rfl
      subst hx1
      exact .inr ⟨v, 0, by simp [sget], by simp [ments, Instr.findNow, hx], by simp [ments], fun u => ⟨by simp [ments, sput], by simp [sput]⟩⟩
    · have hx0 : x = false := by
        cases x
        · rfl
        · have := hiff.1 rfl
          injection this with e
          injection e with e
          exact absurd (List.toArray_inj e).symm h
      subst hx0
      rcases find_ments k r (i + 1) (j + 1) with ⟨h1, h2, h3, h4⟩ | ⟨w, q, h1, h2, h3, h4⟩
      · refine .inl ⟨by simp [sget, h, h1], by simp [ments, Instr.findNow, hx, h2], by simp [sput, h, h3], fun u => ?_⟩
        have := h4 u
        simp only [ments, sput, if_neg h, List.cons_append]
        rw [← this]
        congr 4
        simp; omega
      · refine .inr ⟨w, q + 1, by simp [sget, h, h1], ?_, by simpa [ments] using h3, fun u => ?_⟩
        · simp [ments, Instr.findNow, hx, h2]
          omega
        · obtain ⟨g1, g2⟩ := h4 u
          exact ⟨by simp [ments, sput, h, g1], by simp [sput, h, g2]⟩
theorem SM.lt {W : World} {b : Nat} {T : List SE} (h : SM W b T) : b < W.heap.size := (Array.getElem?_eq_some_iff.1 h).1
theorem SM.kept {W W' : World} {b : Nat} {T : List SE} (h : SM W b T) (hb : W'.heap[b]? = W.heap[b]?) : SM W' b T := hb.trans h
theorem SM.made (W : World) : SM (W.alloc (.map #[] 0)) W.heap.size [] := by
  unfold SM
  rw [heap_alloc_new]
  rfl
theorem block_set (w : World) (b : Nat) (o : Obj) : (setBlock w b o).heap.size = w.heap.size ∧ ∀ q, q ≠ b → (setBlock w b o).heap[q]? = w.heap[q]? := by
  refine ⟨by simp [setBlock], fun q hq => ?_⟩
  simp [setBlock, Ne.symm hq]
theorem block_below {B b : Nat} {a w : World} (h : Below B a w) (hb : B ≤ b) (o : Obj) : Below B a (setBlock w b o) :=
  h.trans ⟨rfl, rfl, rfl, by rw [(block_set w b o).1]; exact Nat.le_refl _, fun k hk => (block_set w b o).2 k (by omega)⟩
/-- 'v, ok := m[k]'. -/
theorem SM.look {P : Program} {t kt et : TypeId} {W : World} {b : Nat} {T : List SE} (h : SM W b T) (ht : P.underlying t = some (.map kt et)) (hk : P.underlying kt = some .string) (hz : (zeroValue et).run P W = .ok (.int .i64 0) W) (k : List UInt8) :
    (Instr.lookup t (.map (some b)) (.string ⟨k.toArray⟩) true).run P W = .ok (.tuple #[.int .i64 ((sget T k).getD 0), .bool (sget T k).isSome]) W := by
  unfold SM at h
  have hg : (getObj b).run P W = .ok (.map (ments 0 T).toArray T.length) W := by simp [getObj, Sem.run, h]
  have hc : ∀ e, (Instr.checkKey e 10000 kt (.string ⟨k.toArray⟩)).run P W = .ok () W := fun e => run_checkKey hk (show IsKey .string (Value.string ⟨k.toArray⟩) from trivial) e 9999
  rcases find_ments k T 0 0 with ⟨h1, h2, _⟩ | ⟨v, q, h1, h2, _⟩
  · have hf := run_findKey (w := W) hk h2
    simp [Instr.lookup, run_underlying ht, hg, hc, hf, hz, h1]
  · have hf := run_findKey (w := W) hk h2
    simp [Instr.lookup, run_underlying ht, hg, hc, hf, h1]
/-- 'm[k] = u'. -/
theorem SM.put {P : Program} {t kt et : TypeId} {W : World} {b : Nat} {T : List SE} (h : SM W b T) (ht : P.underlying t = some (.map kt et)) (hk : P.underlying kt = some .string) (k : List UInt8) (u : Int) :
    (Instr.mapUpdate t (.map (some b)) (.string ⟨k.toArray⟩) (.int .i64 u)).run P W = .ok () (setBlock W b (.map (ments 0 (sput T k u)).toArray (sput T k u).length)) := by
  unfold SM at h
  have hg : (getObj b).run P W = .ok (.map (ments 0 T).toArray T.length) W := by simp [getObj, Sem.run, h]
  have hc : ∀ e, (Instr.checkKey e 10000 kt (.string ⟨k.toArray⟩)).run P W = .ok () W := fun e => run_checkKey hk (show IsKey .string (Value.string ⟨k.toArray⟩) from trivial) e 9999
  have hset : ∀ o, (setObj b o).run P W = .ok () (setBlock W b o) := fun o => by simp [setObj, Sem.run, h, setBlock]
  rcases find_ments k T 0 0 with ⟨h1, h2, h3, h4⟩ | ⟨v, q, h1, h2, h3, h4⟩
  · have hf := run_findKey (w := W) hk h2
    have hl : (sput T k u).length = T.length + 1 := by
      have := congrArg List.length (h4 u)
      have h5 : ∀ (T : List SE) (i : Nat), (ments i T).length = T.length := fun T => by
        induction T with
        | nil => intro i; rfl
        | cons a r ih => intro i; simp [ments, ih]
      rw [List.length_append, h5, h5] at this
      simpa using this.symm
    have h6 := h4 u
    rw [Nat.zero_add] at h6
    simp [Instr.mapUpdate, run_underlying ht, hg, hc, hf, hset, ← h6, hl]
  · have hf := run_findKey (w := W) hk h2
    obtain ⟨g1, g2⟩ := h4 u
    have hst : (Instr.keyThatStays (.string ⟨k.toArray⟩) (.string ⟨k.toArray⟩)).run P W = .ok (.string ⟨k.toArray⟩) W := run_keyThatStays (show IsKey .string (Value.string ⟨k.toArray⟩) from trivial)
    rw [Nat.zero_add] at hf
    simp [Instr.mapUpdate, run_underlying ht, hg, hc, hf, h3, hst, hset, g1, g2]
theorem SM.set {W : World} {b : Nat} {T : List SE} (h : SM W b T) (T' : List SE) : SM (setBlock W b (.map (ments 0 T').toArray T'.length)) b T' := by
  have := h.lt
  unfold SM
  simp [setBlock, this]
end K
end Go.Proofs.YtelhobphphkidaaGreatDoor
