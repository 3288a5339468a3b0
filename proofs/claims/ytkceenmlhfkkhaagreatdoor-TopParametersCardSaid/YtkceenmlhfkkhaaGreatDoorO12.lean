/- Chapter 12: a list of strings out of an argument. -/
import Derived.Test.YtkceenmlhfkkhaaGreatDoorK
import Derived.SliceStrings
import Derived.SizedLaws
import Derived.Below
import Derived.Test.YtkceenmlhfkkhaaGreatDoorRows
namespace Go.Proofs.YtkceenmlhfkkhaaGreatDoor
open Go.RowKit
namespace K
/-- The slice's address A leads to the strings ls, one cell each. -/
def SL (w : World) (A : Option Addr) (ls : List (List UInt8)) : Prop :=
  ls ≠ [] → ∃ b off, A = some ⟨b, off, none⟩ ∧ b < w.heap.size ∧ ∀ i (h : i < ls.length), w.cell? ⟨b, off + i, none⟩ = some (.string ⟨(ls[i]).toArray⟩)
theorem SL.nil (w : World) (A : Option Addr) : SL w A [] := fun h => absurd rfl h
theorem SL.below {w w' : World} {A : Option Addr} {ls : List (List UInt8)} (h : SL w A ls) (hb : Below w.heap.size w w') : SL w' A ls := by
  intro hne
  obtain ⟨b, off, e, hlt, hc⟩ := h hne
  exact ⟨b, off, e, Nat.lt_of_lt_of_le hlt hb.size, fun i hi => (hb.cell (p := ⟨b, off + i, none⟩) hlt).trans (hc i hi)⟩
theorem SL.alloc {w : World} {A : Option Addr} {ls : List (List UInt8)} (h : SL w A ls) (o : Obj) : SL (w.alloc o) A ls := h.below ((Below.refl _ _).alloc (Nat.le_refl _) _)
theorem SL.drew {w : World} {A : Option Addr} {ls : List (List UInt8)} (h : SL w A ls) : SL w.drew A ls := h.below (Below.refl _ _).drew
theorem SL.get {w : World} {A : Option Addr} {ls : List (List UInt8)} (h : SL w A ls) {k : Nat} (hk : k < ls.length) :
    ∃ b off, A = some ⟨b, off, none⟩ ∧ b < w.heap.size ∧ w.cell? ⟨b, off + k, none⟩ = some (.string ⟨(ls.getD k []).toArray⟩) := by
  obtain ⟨b, off, e, hlt, hc⟩ := h (by intro e; subst e; simp at hk)
  refine ⟨b, off, e, hlt, ?_⟩
  rw [hc k hk, List.getD_eq_getElem?_getD, List.getElem?_eq_getElem hk]
  rfl
/-! ### Opening an argument -/
section
variable {H : Type} {enc : TypeId × Value → H} {P : Program} {w : World}
open Go.ChangeShapes Go.WideShapes

theorem strings_of {t e : TypeId} {fuel : Nat} {v : Value} {x : DataW H × List MemPlace} (ht : P.underlying t = some (.slice e)) (he : P.underlying e = some .string) (hc : P.cellsOf e = 1)
    (h : DataW.trod enc P w 0 (fun _ => true) true fuel t [v] = some x) (hw : ∀ n ∈ x.1.weights P t, n ≤ reachBytes) (hbytes : P.bytesOf e = 16) :
    ∃ (A : Option Addr) (c : Nat) (ls : List (List UInt8)), v = .slice A ls.length c ∧ ls.length ≤ c ∧ c ≤ 8796093022208 ∧ (A = none → c = 0) ∧ SL w A ls ∧ ∀ s ∈ ls, s.length ≤ 140737488351232 := by
  rcases open_strings ht he hc h with ⟨hcs, _⟩ | ⟨a, len, cap, ss, hcs, _, hl, _, hz, hx, hcell, _⟩
  · simp at hcs
    exact ⟨none, 0, [], by simp [hcs], by simp, by omega, fun _ => rfl, SL.nil _ _, by simp⟩
  · simp at hcs
    simp at hz
    have hlen : ((ss.take len).map fun s => s.data.toList).length = len := by simp; omega
    have hw' : ∀ n ∈ (DataW.slice (strs (H := H) (ss.take len)) (strs (ss.drop len))).weights P t, n ≤ reachBytes := by rw [hx] at hw; exact hw
    simp only [DataW.weights, ht, List.mem_cons, List.mem_append] at hw'
    have hcap : cap ≤ 8796093022208 := by
      have := hw' _ (Or.inl rfl)
      rw [hbytes] at this
      simp [strs, reachBytes] at this
      omega
    refine ⟨some a, cap, (ss.take len).map fun s => s.data.toList, by rw [hlen]; exact hcs, by rw [hlen]; exact hl, hcap, (fun h => by cases h), ?_, ?_⟩
    · intro hne
      have hpos : 0 < len := by
        rcases Nat.eq_zero_or_pos len with h0 | h0
        · subst h0; simp at hne
        · exact h0
      obtain ⟨b, off, spot⟩ := a
      have hc0 := hcell 0 (by omega)
      have hspot : spot = none := by simpa [Addr.add] using World.cell?_spot hc0
      subst hspot
      have hlt : b < w.heap.size := by
        rcases Nat.lt_or_ge b w.heap.size with h' | h'
        · exact h'
        · simp [World.cell?, Addr.add, Array.getElem?_eq_none h'] at hc0
      refine ⟨b, off, rfl, hlt, fun i hi => ?_⟩
      rw [hlen] at hi
      have := hcell i (by omega)
      rw [show (⟨b, off, none⟩ : Addr).add i = ⟨b, off + i, none⟩ by unfold Addr.add; split <;> simp_all] at this
      rw [this]
      have hi2 : i < ss.length := by omega
      simp [List.getD_eq_getElem?_getD, List.getElem?_eq_getElem hi2]
    · intro s hs
      simp only [List.mem_map] at hs
      obtain ⟨y, hy, rfl⟩ := hs
      have hm : ∀ (l : List ByteArray), y ∈ l → y.data.toList.length ∈ DataW.weightsAll (H := H) P e (strs l) := by
        intro l
        induction l with
        | nil => intro h; simp at h
        | cons z l ih =>
          intro h
          simp only [strs, List.map_cons, DataW.weightsAll, List.mem_append]
          rcases List.mem_cons.1 h with rfl | h
          · exact .inl (by simp [DataW.weights])
          · exact .inr (ih h)
      have := hw' _ (Or.inr (Or.inl (hm _ hy)))
      simpa [reachBytes] using this
end
end K
open K
namespace W
/-- A slice of strings, as an argument. -/
def StV (w : World) (v : Value) (ls : List (List UInt8)) : Prop := ∃ A c, v = .slice A ls.length c ∧ ls.length ≤ c ∧ c ≤ 8796093022208 ∧ SL w A ls ∧ ∀ s ∈ ls, s.length ≤ 140737488351232
section
open Go.ChangeShapes Go.WideShapes
variable {H : Type} {enc : TypeId × Value → H} {w : World}
set_option maxRecDepth 100000 in
theorem strs_of {r : Reach} {b0 : Nat} {v : Value} {d : DataW H} {p : List MemPlace} (hv0 : Value.okWide Tryz.prog w r b0 24 v) (h : DataW.Trod enc Tryz.prog w 0 (fun _ => true) true 24 v d p) (hw : ∀ n ∈ d.weights Tryz.prog 24, n ≤ reachBytes) :
    ∃ ls : List (List UInt8), StV w v ls := by
  obtain ⟨m, h⟩ := h
  obtain ⟨a0, len0, cap0, rfl⟩ := okWide_slice Tryz.underlying24 hv0
  obtain ⟨A, c, ls, hv, hl, hc, hA, hS, hz⟩ := strings_of Tryz.underlying24 Tryz.underlying9 (by kernel_rfl) h hw (by kernel_rfl)
  exact ⟨ls, A, c, hv, hl, hc, hS, hz⟩
end
end W
end Go.Proofs.YtkceenmlhfkkhaaGreatDoor
