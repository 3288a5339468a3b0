/- Chapter 9: lists of aliases out of arguments. -/
import Derived.Test.YtcbdhheelddgeaaGreatDoorZC
import Derived.Test.YtcbdhheelddgeaaGreatDoorRows
import Derived.Deep.SlicePairs
namespace Go.Proofs.YtcbdhheelddgeaaGreatDoor
open Go.RowKit K
namespace W
section
open Go.ChangeShapes Go.WideShapes
variable {H : Type} {enc : TypeId × Value → H} {w : World}
theorem weight_mem0 {P : Program} {e : TypeId} {f0 f1 : Field} (he : P.underlying e = some (.struct #[f0, f1])) (D0 D1 : Nat → DataW H) (s : List UInt8) (k : Nat) (hs : D0 k = .lit (.string s)) :
  ∀ (l : List Nat), k ∈ l → s.length ∈ DataW.weightsAll P e (l.map fun i => (.agg [D0 i, D1 i] : DataW H)) := by
 intro l
 induction l with
 | nil => intro h; simp at h
 | cons z l ih =>
  intro h
  simp only [List.map_cons, DataW.weightsAll, List.mem_append]
  rcases List.mem_cons.1 h with rfl | h
  ·refine .inl ?_
   simp [DataW.weights, he, DataW.weightsEach, hs]
  ·exact .inr (ih h)
theorem weight_mem {P : Program} {e : TypeId} {f0 f1 : Field} (he : P.underlying e = some (.struct #[f0, f1])) (D0 D1 : Nat → DataW H) (s : List UInt8) (k : Nat) (hs : D1 k = .lit (.string s)) :
  ∀ (l : List Nat), k ∈ l → s.length ∈ DataW.weightsAll P e (l.map fun i => (.agg [D0 i, D1 i] : DataW H)) := by
 intro l
 induction l with
 | nil => intro h; simp at h
 | cons z l ih =>
  intro h
  simp only [List.map_cons, DataW.weightsAll, List.mem_append]
  rcases List.mem_cons.1 h with rfl | h
  ·refine .inl ?_
   simp [DataW.weights, he, DataW.weightsEach, hs]
  ·exact .inr (ih h)
set_option maxRecDepth 100000 in
theorem als_of {r : Reach} {b0 : Nat} {v : Value} {d : DataW H} {p : List MemPlace} (hv0 : Value.okWide Tryz.prog w r b0 22 v) (h : DataW.Trod enc Tryz.prog w 0 (fun _ => true) true 22 v d p) (hw : ∀ n ∈ d.weights Tryz.prog 22, n ≤ reachBytes) :
  ∃ ts : List Tr, TV w v ts ∧ ∀ t ∈ ts, t.1.length ≤ 140737488351232 ∧ t.2.length ≤ 140737488351232 := by
 obtain ⟨m0, h⟩ := h
 obtain ⟨a0, len0, cap0, rfl⟩ := okWide_slice Tryz.underlying22 hv0
 rcases Go.Deep.open_slice_pairs Tryz.underlying22 Tryz.underlying32 (by kernel_rfl) (by kernel_rfl) (by kernel_rfl) (by kernel_rfl) (by kernel_rfl) h with ⟨hcs, _⟩ | ⟨a, len, cap, m, n, V0, V1, D0, D1, P0, P1, hcs, _, hl, hm, hmm, hx, hcell⟩
 ·have e : Value.slice a0 len0 cap0 = .slice none 0 0 := List.head_eq_of_cons_eq hcs
  rw [e]
  exact ⟨[], TV.nil w, by simp⟩
 ·have e : Value.slice a0 len0 cap0 = .slice (some a) len cap := List.head_eq_of_cons_eq hcs
  rw [e]
  simp at hmm
  subst hmm
  have each : ∀ i, i < m → ∃ q : Tr, V0 i = .string ⟨q.1.toArray⟩ ∧ V1 i = .string ⟨q.2.toArray⟩ ∧ D0 i = .lit (.string q.1) ∧ D1 i = .lit (.string q.2) := by
   intro i hi
   obtain ⟨_, _, h0, h1⟩ := hcell i hi
   obtain ⟨z, hz, hz2, _⟩ := DataW.trod_string Tryz.underlying9 h0
   obtain ⟨s, hs, hs2, _⟩ := DataW.trod_string Tryz.underlying9 h1
   simp at hz hs
   refine ⟨(z.data.toList, s.data.toList), ?_, ?_, ?_, ?_⟩
   ·rw [hz]
   ·rw [hs]
   ·exact (by simpa using hz2 : D0 i = _ ∧ _).1
   ·exact (by simpa using hs2 : D1 i = _ ∧ _).1
  obtain ⟨q, hq⟩ := Go.Deep.choose_lt each
  have hlen : ((List.range len).map q).length = len := by simp
  have hget : ∀ i, i < len → ((List.range len).map q).getD i ([], []) = q i := by
   intro i hi
   simp [List.getD_eq_getElem?_getD, hi]
  refine ⟨(List.range len).map q, ⟨some a, m, by rw [hlen], by rw [hlen]; exact hl, by unfold maxLen at hm; exact hm, (fun h => by cases h), ?_⟩, ?_⟩
  ·intro hne
   have hpos : 0 < len := by
    rcases Nat.eq_zero_or_pos len with h0 | h0
    ·subst h0; simp at hne
    ·exact h0
   obtain ⟨b, off, spot⟩ := a
   have hc0 := (hcell 0 (by omega)).1
   have hspot : spot = none := by simpa [Addr.add] using World.cell?_spot hc0
   subst hspot
   have hlt : b < w.heap.size := by
    rcases Nat.lt_or_ge b w.heap.size with h' | h'
    ·exact h'
    ·simp [World.cell?, Addr.add, Array.getElem?_eq_none h'] at hc0
   refine ⟨b, off, rfl, hlt, fun i hi => ?_⟩
   rw [hlen] at hi
   obtain ⟨c0, c1, _, _⟩ := hcell i (by omega)
   obtain ⟨e0, e1, _⟩ := hq i (by omega)
   have ea : ∀ j, (⟨b, off, none⟩ : Addr).add j = ⟨b, off + j, none⟩ := fun j => by unfold Addr.add; split <;> simp_all
   rw [ea] at c0 c1
   rw [hget i hi, c0, e0, Nat.add_assoc, c1, e1]
   exact ⟨rfl, rfl⟩
  ·intro t ht
   simp only [List.mem_map, List.mem_range] at ht
   obtain ⟨k, hk, rfl⟩ := ht
   have hd : d = (.slice ((List.range len).map fun i => .agg [D0 i, D1 i]) ((List.range (m - len)).map fun j => .agg [D0 (len + j), D1 (len + j)])) := by
    have := congrArg Prod.fst hx
    simpa using this
   rw [hd] at hw
   simp only [DataW.weights, Tryz.underlying22, List.mem_cons, List.mem_append] at hw
   have h0 := hw _ (Or.inr (Or.inl (weight_mem0 Tryz.underlying32 D0 D1 (q k).1 k (hq k (by omega)).2.2.1 (List.range len) (by simp [hk]))))
   have h1 := hw _ (Or.inr (Or.inl (weight_mem Tryz.underlying32 D0 D1 (q k).2 k (hq k (by omega)).2.2.2 (List.range len) (by simp [hk]))))
   exact ⟨by simpa [reachBytes] using h0, by simpa [reachBytes] using h1⟩
end
end W
end Go.Proofs.YtcbdhheelddgeaaGreatDoor
