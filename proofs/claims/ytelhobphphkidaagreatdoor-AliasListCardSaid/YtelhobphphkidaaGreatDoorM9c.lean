/- A range over a map from strings to ints whose rounds store at keys that are there: its world. Nothing of the program is in it. -/
import Derived.Test.YtelhobphphkidaaGreatDoorM9b
namespace Go.Proofs.YtelhobphphkidaaGreatDoor
open Go.RowKit Go.MapKept
open Go.ChangeMaps (setBlock)
namespace K
/-- The world of a range over the map mb with its iterator in r; U: the world ahead of it. -/
structure RW (f : Int → Int) (T : List SE) (mb r : Nat) (U wr : World) (seen : Array Nat) : Prop where
  it : wr.heap[r]? = some (.mapIter (some mb) T.length seen T.length)
  m : SM wr mb (mixF f seen 0 T)
  far : ∀ q, q ≠ r → q ≠ mb → wr.heap[q]? = U.heap[q]?
  size : wr.heap.size = U.heap.size + 1
  below : ∀ B, B ≤ mb → B ≤ r → Below B U wr
  nodup : seen.toList.Nodup
  lt : ∀ j ∈ seen.toList, j < T.length
section
variable {f : Int → Int} {T : List SE} {mb r : Nat} {U wr : World} {seen : Array Nat}
theorem RW.start (hr : r = U.heap.size) (hM : SM U mb T) : RW f T mb r U (U.alloc (.mapIter (some mb) T.length #[] T.length)) #[] := by
  have hlt := hM.lt
  subst hr
  refine ⟨heap_alloc_new _ _, ?_, fun q h1 _ => ?_, by simp, fun B _ hB => (Below.refl B U).alloc hB _, by simp, by simp⟩
  · rw [mixF_none]
    exact hM.kept (Below.heap_alloc _ _ _ hlt)
  · by_cases hq : q < U.heap.size
    · exact Below.heap_alloc _ _ _ hq
    · rw [Array.getElem?_eq_none (by simp; omega), Array.getElem?_eq_none (by omega)]
theorem nodup_le : ∀ (n : Nat) (l : List Nat), l.Nodup → (∀ x ∈ l, x < n) → l.length ≤ n
  | 0, l, _, h => by
    cases l with
    | nil => simp
    | cons a r => have := h a (by simp); omega
  | n + 1, l, hn, h => by
    have h1 := nodup_le n (l.erase n) (hn.erase n) (fun x hx => by
      rw [hn.mem_erase_iff] at hx
      have := h x hx.2
      omega)
    rw [List.length_erase] at h1
    split at h1 <;> omega
theorem RW.size_le (h : RW f T mb r U wr seen) : seen.size ≤ T.length := by
  have := nodup_le _ _ h.nodup h.lt
  simpa using this
/-- The iterator's step; w1: wr or wr with a draw. -/
theorem RW.next {P : Program} (h : RW f T mb r U wr seen) (hrm : r ≠ mb) :
    (mixF f seen 0 T = T.map (fun e => (e.1, f e.2)) ∧ (Instr.next (.pointer (some ⟨r, 0, none⟩)) false 0).run P wr = .ok (.tuple #[.bool false]) wr) ∨
    ∃ j k u, ∃ W : World, T[j]? = some (k, u) ∧ j ∉ seen.toList ∧ (Instr.next (.pointer (some ⟨r, 0, none⟩)) false 0).run P wr = .ok (.tuple #[.bool true, .string ⟨k.toArray⟩, .int .i64 u]) W ∧ (Instr.entry (.pointer (some ⟨r, 0, none⟩))).run P W = .ok (.tuple #[.string ⟨k.toArray⟩, .int .i64 u]) W ∧
      W.heap[r]? = some (.mapIter (some mb) T.length (seen.push j) T.length) ∧ SM W mb (mixF f seen 0 T) ∧ (∀ q, q ≠ r → q ≠ mb → W.heap[q]? = U.heap[q]?) ∧ W.heap.size = U.heap.size + 1 ∧ (∀ B, B ≤ mb → B ≤ r → Below B U W) := by
  have hm1 := h.m
  unfold SM at hm1
  rw [mixF_length] at hm1
  have hborn : ∀ x ∈ (ments 0 (mixF f seen 0 T)).toArray.toList, x.born < T.length := fun x hx => by
    obtain ⟨j, k, v, h1, h2⟩ := ments_mem _ 0 x (by simpa using hx)
    rw [h2]
    have := (List.getElem?_eq_some_iff.1 h1).1
    rw [mixF_length] at this
    simpa using this
  rcases run_next_at (P := P) wr 0 r mb T.length T.length seen _ _ h.it hm1 hborn (Nat.le_refl _) with ⟨h0, hrun⟩ | ⟨e, he, w1, hw1, hrun⟩
  · have hall := left_none h0
    exact .inl ⟨mixF_all f seen T 0 (fun j hj => hall j (by rwa [mixF_length])), hrun⟩
  · obtain ⟨j, k, u, hj, rfl, hns⟩ := left_mem he
    obtain ⟨u', hT, hu⟩ := mixF_get f seen T 0 j k u hj
    rw [Nat.zero_add, hns] at hu
    simp only [Bool.false_eq_true, if_false] at hu
    subst hu
    have hh : w1.heap = wr.heap := by rcases hw1 with rfl | rfl <;> rfl
    have hbw : ∀ B, Below B wr w1 := fun B => by rcases hw1 with rfl | rfl; exact Below.refl _ _; exact (Below.refl _ _).drew
    have hit : w1.heap[r]? = some (.mapIter (some mb) T.length seen T.length) := by rw [hh]; exact h.it
    have hrlt := (Array.getElem?_eq_some_iff.1 hit).1
    obtain ⟨b1, b2⟩ := block_set w1 r (.mapIter (some mb) T.length (seen.push j) T.length)
    have hr2 : (setBlock w1 r (.mapIter (some mb) T.length (seen.push j) T.length)).heap[r]? = some (.mapIter (some mb) T.length (seen.push j) T.length) := by simp [setBlock, hrlt]
    have hm2 : SM (setBlock w1 r (.mapIter (some mb) T.length (seen.push j) T.length)) mb (mixF f seen 0 T) := h.m.kept ((b2 mb hrm.symm).trans (by rw [hh]))
    refine .inr ⟨j, k, u, _, hT, by simpa using hns, hrun, ?_, hr2, hm2, fun q h1 h2 => ((b2 q h1).trans (by rw [hh])).trans (h.far q h1 h2), by rw [b1, hh]; exact h.size, fun B h1 h2 => block_below ((h.below B h1 h2).trans (hbw B)) h2 _⟩
    have hm3 := hm2
    unfold SM at hm3
    rw [mixF_length] at hm3
    refine run_entry_at _ r mb T.length seen _ _ { key := .string ⟨k.toArray⟩, val := .int .i64 u, born := j } hr2 hm3 ?_ ?_
    · have := ments_get (mixF f seen 0 T) 0 j k u hj
      rw [Nat.zero_add] at this
      simpa using this
    · have := ments_born (mixF f seen 0 T) 0
      simp only [this]
      exact List.nodup_range'
end
section
variable {f : Int → Int} {T : List SE} {mb r j : Nat} {U W : World} {seen : Array Nat}
theorem RW.round_same (hn : seen.toList.Nodup) (hl : ∀ i ∈ seen.toList, i < T.length) {k : List UInt8} {u : Int} (hT : T[j]? = some (k, u)) (hj : j ∉ seen.toList) (hf : f u = u) (h1 : W.heap[r]? = some (.mapIter (some mb) T.length (seen.push j) T.length)) (h2 : SM W mb (mixF f seen 0 T)) (h3 : ∀ q, q ≠ r → q ≠ mb → W.heap[q]? = U.heap[q]?) (h4 : W.heap.size = U.heap.size + 1) (h5 : ∀ B, B ≤ mb → B ≤ r → Below B U W) : RW f T mb r U W (seen.push j) := by
  have hjl := (List.getElem?_eq_some_iff.1 hT).1
  refine ⟨h1, ?_, h3, h4, h5, ?_, fun i hi => ?_⟩
  · have := mixF_same f seen T 0 j k u hT hf
    rw [Nat.zero_add] at this
    rw [this]
    exact h2
  · simp only [Array.toList_push]
    rw [List.nodup_append]
    exact ⟨hn, by simp, fun a ha b hb => by simp at hb; rw [hb]; rintro rfl; exact hj ha⟩
  · simp only [Array.toList_push, List.mem_append, List.mem_singleton] at hi
    rcases hi with hi | rfl
    · exact hl i hi
    · exact hjl
theorem RW.round_put (hk : (T.map Prod.fst).Nodup) (hrm : r ≠ mb) (hn : seen.toList.Nodup) (hl : ∀ i ∈ seen.toList, i < T.length) {k : List UInt8} {u : Int} (hT : T[j]? = some (k, u)) (hj : j ∉ seen.toList) (h1 : W.heap[r]? = some (.mapIter (some mb) T.length (seen.push j) T.length)) (h2 : SM W mb (mixF f seen 0 T)) (h3 : ∀ q, q ≠ r → q ≠ mb → W.heap[q]? = U.heap[q]?) (h4 : W.heap.size = U.heap.size + 1) (h5 : ∀ B, B ≤ mb → B ≤ r → Below B U W) :
    RW f T mb r U (setBlock W mb (.map (ments 0 (sput (mixF f seen 0 T) k (f u))).toArray (sput (mixF f seen 0 T) k (f u)).length)) (seen.push j) := by
  have hjl := (List.getElem?_eq_some_iff.1 hT).1
  have hput := mixF_put f seen T 0 j k u hk hT
  rw [Nat.zero_add] at hput
  obtain ⟨b1, b2⟩ := block_set W mb (.map (ments 0 (sput (mixF f seen 0 T) k (f u))).toArray (sput (mixF f seen 0 T) k (f u)).length)
  refine ⟨(b2 r hrm).trans h1, ?_, fun q q1 q2 => (b2 q q2).trans (h3 q q1 q2), b1.trans h4, fun B q1 q2 => block_below (h5 B q1 q2) q1 _, ?_, fun i hi => ?_⟩
  · have := h2.set (sput (mixF f seen 0 T) k (f u))
    rw [hput] at this ⊢
    exact this
  · simp only [Array.toList_push]
    rw [List.nodup_append]
    exact ⟨hn, by simp, fun a ha b hb => by simp at hb; rw [hb]; rintro rfl; exact hj ha⟩
  · simp only [Array.toList_push, List.mem_append, List.mem_singleton] at hi
    rcases hi with hi | rfl
    · exact hl i hi
    · exact hjl
end
end K
end Go.Proofs.YtelhobphphkidaaGreatDoor
