/- Slices of pairs of two strings in memory, as lists. Nothing of the program is in it. -/
import Derived.Test.YtelhobphphkidaaGreatDoorK
import Derived.Below
import Derived.OneCell
import Derived.Deep.SlicePairs
namespace Go.Proofs.YtelhobphphkidaaGreatDoor
open Go.RowKit
namespace K
abbrev Tr := List UInt8 × List UInt8
def tcells : List Tr → List Value
  | [] => []
  | t :: r => .string ⟨t.1.toArray⟩ :: .string ⟨t.2.toArray⟩ :: tcells r
theorem tcells_length (ts : List Tr) : (tcells ts).length = ts.length * 2 := by
  induction ts with
  | nil => rfl
  | cons t r ih => simp [tcells, ih]; omega
theorem tcells_append (a b : List Tr) : tcells (a ++ b) = tcells a ++ tcells b := by
  induction a with
  | nil => rfl
  | cons t r ih => simp [tcells, ih]
theorem tcells_at {ts : List Tr} : ∀ {i : Nat}, i < ts.length → (tcells ts)[i * 2]? = some (.string ⟨(ts.getD i ([], [])).1.toArray⟩) ∧ (tcells ts)[i * 2 + 1]? = some (.string ⟨(ts.getD i ([], [])).2.toArray⟩) := by
  induction ts with
  | nil => intro i h; simp at h
  | cons t r ih =>
    intro i h
    cases i with
    | zero => exact ⟨rfl, rfl⟩
    | succ i =>
      have := ih (i := i) (by simpa using h)
      rw [show (i + 1) * 2 = i * 2 + 1 + 1 by omega]
      simpa [tcells] using this
/-- The slice's address A leads to the pairs ts, two cells each. -/
def TL (w : World) (A : Option Addr) (ts : List Tr) : Prop :=
  ts ≠ [] → ∃ b off, A = some ⟨b, off, none⟩ ∧ b < w.heap.size ∧ ∀ i, i < ts.length → w.cell? ⟨b, off + i * 2, none⟩ = some (.string ⟨(ts.getD i ([], [])).1.toArray⟩) ∧ w.cell? ⟨b, off + i * 2 + 1, none⟩ = some (.string ⟨(ts.getD i ([], [])).2.toArray⟩)
theorem TL.nil (w : World) (A : Option Addr) : TL w A [] := fun h => absurd rfl h
theorem TL.below {w w' : World} {A : Option Addr} {ts : List Tr} (h : TL w A ts) (hb : Below w.heap.size w w') : TL w' A ts := by
  intro hne
  obtain ⟨b, off, e, hlt, hc⟩ := h hne
  exact ⟨b, off, e, Nat.lt_of_lt_of_le hlt hb.size, fun i hi => ⟨(hb.cell (p := ⟨b, off + i * 2, none⟩) hlt).trans (hc i hi).1, (hb.cell (p := ⟨b, off + i * 2 + 1, none⟩) hlt).trans (hc i hi).2⟩⟩
theorem TL.get {w : World} {A : Option Addr} {ts : List Tr} (h : TL w A ts) {i : Nat} (hi : i < ts.length) :
    ∃ b off, A = some ⟨b, off, none⟩ ∧ b < w.heap.size ∧ w.cell? ⟨b, off + i * 2, none⟩ = some (.string ⟨(ts.getD i ([], [])).1.toArray⟩) ∧ w.cell? ⟨b, off + i * 2 + 1, none⟩ = some (.string ⟨(ts.getD i ([], [])).2.toArray⟩) := by
  obtain ⟨b, off, e, hlt, hc⟩ := h (by intro e; subst e; simp at hi)
  exact ⟨b, off, e, hlt, hc i hi⟩
/-- A value that reads as a list of pairs. -/
def TV (w : World) (v : Value) (ts : List Tr) : Prop := ∃ A c, v = .slice A ts.length c ∧ ts.length ≤ c ∧ c ≤ 9223372036854775807 ∧ (A = none → c = 0) ∧ TL w A ts
theorem TV.below {w w' : World} {v : Value} {ts : List Tr} (h : TV w v ts) (hb : Below w.heap.size w w') : TV w' v ts := by
  obtain ⟨A, c, h1, h2, h3, h4, h5⟩ := h
  exact ⟨A, c, h1, h2, h3, h4, h5.below hb⟩
theorem TV.nil (w : World) : TV w (.slice none 0 0) [] := ⟨none, 0, rfl, by simp, by omega, fun _ => rfl, TL.nil _ _⟩
theorem TV.own {w : World} {base : Nat} {e : TypeId} {v : Value} {n : Nat} {ts : List Tr} (h : w.ownsRow base e 2 v n (tcells ts)) : TV w v ts := by
  have hn : ts.length = n := by have := h.1; rw [tcells_length] at this; omega
  subst hn
  rcases h.2 with ⟨rfl, h0⟩ | ⟨g, cap, cur, rfl, hb, hg, h1, h2, _⟩
  · have : ts = [] := List.eq_nil_of_length_eq_zero h0
    subst this
    exact TV.nil w
  · refine ⟨some ⟨g, 0, none⟩, cap, rfl, h1, by unfold maxLen at h2; exact h2, (fun h => by cases h), fun _ => ⟨g, 0, rfl, (Array.getElem?_eq_some_iff.1 hg).1, fun i hi => ?_⟩⟩
    obtain ⟨a1, a2⟩ := tcells_at hi
    have b1 := h.cells (g := g) rfl _ _ a1
    have b2 := h.cells (g := g) rfl _ _ a2
    have e0 : ∀ j, (⟨g, 0, none⟩ : Addr).add j = ⟨g, 0 + j, none⟩ := fun j => by unfold Addr.add; split <;> simp_all
    rw [e0] at b1 b2
    exact ⟨b1, by rw [Nat.add_assoc]; exact b2⟩
theorem pair_news (w : World) (o : Obj) (x y : Value) (t : TypeId) : ∀ (j : Nat) (u : Value), [x, y][j]? = some u → ((w.alloc o).alloc (.cells #[x, y] t)).cell? ((⟨w.heap.size + 1, 0, none⟩ : Addr).add j) = some u := by
  intro j u hj
  have e : (w.alloc o).heap.size = w.heap.size + 1 := by simp
  rw [← e]
  match j, hj with
  | 0, hj => simp at hj; subst hj; simp [Addr.add]
  | 1, hj => simp at hj; subst hj; simp [Addr.add]
theorem pair_news1 (w : World) (x y : Value) (t : TypeId) : ∀ (j : Nat) (u : Value), [x, y][j]? = some u → (w.alloc (.cells #[x, y] t)).cell? ((⟨w.heap.size, 0, none⟩ : Addr).add j) = some u := by
  intro j u hj
  match j, hj with
  | 0, hj => simp at hj; subst hj; simp [Addr.add]
  | 1, hj => simp at hj; subst hj; simp [Addr.add]
theorem pair_one (z : List UInt8) (s : ByteArray) : ∀ u ∈ [Value.string ⟨z.toArray⟩, Value.string s], u.oneCell' = true := by
  intro u hu
  simp at hu
  rcases hu with rfl | rfl <;> rfl
theorem tcells_snoc (a : List Tr) (t : Tr) : tcells a ++ [Value.string ⟨t.1.toArray⟩, Value.string ⟨t.2.toArray⟩] = tcells (a ++ [t]) := by rw [tcells_append]; rfl
theorem drop_getT {ts : List Tr} {k : Nat} (h : k < ts.length) : ts.drop k = ts.getD k ([], []) :: ts.drop (k + 1) := by
  rw [List.getD_eq_getElem?_getD, List.getElem?_eq_getElem h, List.drop_eq_getElem_cons h]; rfl
end K
end Go.Proofs.YtelhobphphkidaaGreatDoor
