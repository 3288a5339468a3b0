/- Chapter 29: lists of files out of arguments. -/
import Derived.Test.YtmccfdmnidbalaaGreatDoorO29z
import Derived.Deep.SlicePairs
namespace Go.Proofs.YtmccfdmnidbalaaGreatDoor
open Go.RowKit K
namespace W
section
open Go.ChangeShapes Go.WideShapes
variable {H : Type} {enc : TypeId × Value → H} {w : World}
theorem FV.nil (w : World) : FV w (.slice none 0 0) [] := ⟨none, 0, rfl, by simp, by omega, fun i hi => absurd hi (by simp)⟩
/-- The cells of one element. -/
theorem file_cells {P : Program} {e : TypeId} {f0 f1 f2 : Field} {base n : Nat} {spare : Nat → Bool} {held : Bool} {a : Addr} {i : Nat} {x : DataW H × List MemPlace} (he : P.underlying e = some (.struct #[f0, f1, f2])) (ce : P.cellsOf e = 3)
    (o0 : f0.offset = 0) (o1 : f1.offset = 1) (o2 : f2.offset = 2) (c0 : P.cellsOf f0.type = 1) (c1 : P.cellsOf f1.type = 1) (c2 : P.cellsOf f2.type = 1)
    (u0 : P.underlying f0.type = some .string) (u1 : P.underlying f1.type = some .bool) (u2 : P.underlying f2.type = some .string)
    (h : ∃ cs', w.cells? base (a.add (i * P.cellsOf e)) (P.cellsOf e) = some cs' ∧ DataW.trod enc P w base spare held n e cs' = some x) :
    ∃ q : Fi, w.cell? (a.add (i * 3)) = some (.string ⟨q.1.toArray⟩) ∧ w.cell? (a.add (i * 3 + 1)) = some (.bool q.2.1) ∧ w.cell? (a.add (i * 3 + 2)) = some (.string ⟨q.2.2.toArray⟩) := by
  obtain ⟨cs', h1, h2⟩ := h
  rw [ce] at h1
  obtain ⟨_, hlen, hc⟩ := World.cells?_some h1
  obtain ⟨xs, k, hk, hxy, _, hxl, hf⟩ := DataW.trod_struct he h2
  match xs, hxl, cs', hlen with
  | [y0, y1, y2], _, [v0, v1, v2], _ =>
    have g0 := hf 0 f0 rfl
    have g1 := hf 1 f1 rfl
    have g2 := hf 2 f2 rfl
    simp [o0, o1, o2, c0, c1, c2] at g0 g1 g2
    obtain ⟨s0, hs0, _⟩ := DataW.trod_string u0 g0
    obtain ⟨s1, hs1, _⟩ := DataW.trod_bool u1 g1
    obtain ⟨s2, hs2, _⟩ := DataW.trod_string u2 g2
    simp at hs0 hs1 hs2
    have e0 := hc 0 (by omega)
    have e1 := hc 1 (by omega)
    have e2 := hc 2 (by omega)
    rw [Go.Deep.add_add] at e0 e1 e2
    refine ⟨(s0.data.toList, s1, s2.data.toList), ?_, ?_, ?_⟩
    · simpa [hs0] using e0
    · simpa [hs1] using e1
    · simpa [hs2] using e2
set_option maxRecDepth 100000 in
theorem files_of {r : Reach} {b0 : Nat} {v : Value} {d : DataW H} {p : List MemPlace} (hv0 : Value.okWide Tryz.prog w r b0 23 v) (h : DataW.Trod enc Tryz.prog w 0 (fun _ => true) true 23 v d p) (_hw : ∀ n ∈ d.weights Tryz.prog 23, n ≤ reachBytes) :
    ∃ fs : List Fi, FV w v fs := by
  obtain ⟨m0, h⟩ := h
  obtain ⟨a0, len0, cap0, rfl⟩ := okWide_slice Tryz.underlying23 hv0
  have ce : Tryz.prog.cellsOf 35 = 3 := by kernel_rfl
  rcases Go.Deep.open_slice Tryz.underlying23 h with ⟨hcs, _⟩ | ⟨a, len, cap, m, n, D, Pl, hcs, hb, hl, hm, hmm, hx, hcell⟩
  · have e : Value.slice a0 len0 cap0 = .slice none 0 0 := List.head_eq_of_cons_eq hcs
    rw [e]
    exact ⟨[], FV.nil w⟩
  · have e : Value.slice a0 len0 cap0 = .slice (some a) len cap := List.head_eq_of_cons_eq hcs
    rw [e]
    simp at hmm
    subst hmm
    have each : ∀ i, i < m → ∃ q : Fi, w.cell? (a.add (i * 3)) = some (.string ⟨q.1.toArray⟩) ∧ w.cell? (a.add (i * 3 + 1)) = some (.bool q.2.1) ∧ w.cell? (a.add (i * 3 + 2)) = some (.string ⟨q.2.2.toArray⟩) := fun i hi =>
      file_cells Tryz.underlying35 ce (by kernel_rfl) (by kernel_rfl) (by kernel_rfl) (by kernel_rfl) (by kernel_rfl) (by kernel_rfl) Tryz.underlying9 Tryz.underlying4 Tryz.underlying9 (hcell i hi)
    obtain ⟨q, hq⟩ := Go.Deep.choose_lt each
    have hlen : ((List.range len).map q).length = len := by simp
    have hget : ∀ i, i < len → ((List.range len).map q).getD i fz = q i := by
      intro i hi
      simp [List.getD_eq_getElem?_getD, hi]
    refine ⟨(List.range len).map q, some a, m, by rw [hlen], by rw [hlen]; exact hl, by unfold maxLen at hm; exact hm, fun i hi => ?_⟩
    rw [hlen] at hi
    obtain ⟨b, off, spot⟩ := a
    obtain ⟨c0, c1, c2⟩ := hq i (by omega)
    have z0 := (hq 0 (by omega)).1
    have hspot : spot = none := by simpa [Addr.add] using World.cell?_spot z0
    subst hspot
    have hlt : b < w.heap.size := by
      rcases Nat.lt_or_ge b w.heap.size with h' | h'
      · exact h'
      · simp [World.cell?, Addr.add, Array.getElem?_eq_none h'] at z0
    have ea : ∀ j, (⟨b, off, none⟩ : Addr).add j = ⟨b, off + j, none⟩ := fun j => by unfold Addr.add; split <;> simp_all
    rw [ea] at c0 c1 c2
    refine ⟨b, off, rfl, hlt, ?_, ?_, ?_⟩
    · rw [hget i hi, c0]
    · rw [hget i hi, Nat.add_assoc, c1]
    · rw [hget i hi, Nat.add_assoc, c2]
end
end W
end Go.Proofs.YtmccfdmnidbalaaGreatDoor
