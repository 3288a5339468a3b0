/- Slices of strings beside boxes of two cells. Nothing of the program is in it. -/
import Derived.Test.YtmccfdmnidbalaaGreatDoorS
import Derived.Laws.Rows
namespace Go.Proofs.YtmccfdmnidbalaaGreatDoor
open Go.RowKit
namespace K
theorem own_form {w : World} {base : Nat} {e : TypeId} {v : Value} {n : Nat} {ls : List (List UInt8)} (h : w.ownsRow base e 1 v n (ls.map fun s => .string ⟨s.toArray⟩)) :
    ∃ A c, v = .slice A n c ∧ n ≤ c ∧ c ≤ 9223372036854775807 ∧ (A = none → c = 0) ∧ SL w A ls := by
  have h0 := h
  rcases h.2 with ⟨hv, h1⟩ | ⟨g, cap, cur, hv, hg, _, h1, h2, _⟩
  · subst hv h1
    exact ⟨none, 0, rfl, by omega, by omega, fun _ => rfl, SL.own h0⟩
  · subst hv
    exact ⟨some ⟨g, 0, none⟩, cap, rfl, h1, by unfold maxLen at h2; exact h2, (fun h => by cases h), SL.own h0⟩
/-- A box of two cells that are no strings. -/
def Box2 (w : World) (g : Nat) (a b : Value) (t : TypeId) : Prop := w.heap[g]? = some (.cells #[a, b] t (0, 0)) ∧ (∀ s, a ≠ .string s) ∧ (∀ s, b ≠ .string s)
theorem Box2.lt {w : World} {g : Nat} {a b : Value} {t : TypeId} (h : Box2 w g a b t) : g < w.heap.size := (Array.getElem?_eq_some_iff.1 h.1).1
theorem Box2.cells {w : World} {g : Nat} {a b : Value} {t : TypeId} (h : Box2 w g a b t) : w.cell? ⟨g, 0, none⟩ = some a ∧ w.cell? ⟨g, 1, none⟩ = some b ∧ w.frozen? ⟨g, 0, none⟩ = false ∧ w.frozen? ⟨g, 1, none⟩ = false := box_cells h.1
theorem Box2.below {w w' : World} {g B : Nat} {a b : Value} {t : TypeId} (h : Box2 w g a b t) (hb : Below B w w') (hg : g < B) : Box2 w' g a b t := ⟨(hb.block g hg).trans h.1, h.2⟩
theorem Box2.later {w w' : World} {g : Nat} {a b : Value} {t : TypeId} (h : Box2 w g a b t) (hb : Below w.heap.size w w') : Box2 w' g a b t := h.below hb h.lt
theorem Box2.fresh (w : World) (z : Int) (A : Option Addr) (n c : Nat) (t : TypeId) : ∃ w0 : World, w0 = w.alloc (.cells #[.int .i64 z, .slice A n c] t) ∧ Box2 w0 w.heap.size (.int .i64 z) (.slice A n c) t ∧ Below w.heap.size w w0 ∧ w.heap.size < w0.heap.size :=
  ⟨_, rfl, ⟨heap_alloc_new w _, by simp, by simp⟩, (Below.refl _ w).alloc (Nat.le_refl _) _, by simp⟩
theorem SL.apart {w : World} {A : Option Addr} {ls : List (List UInt8)} (h : SL w A ls) {g : Nat} {a b : Value} {t : TypeId} (hB : Box2 w g a b t) (o1 o2 : Nat) (u1 u2 : Value) : SL ((w.setCell ⟨g, o1, none⟩ u1).setCell ⟨g, o2, none⟩ u2) A ls := by
  intro hne
  obtain ⟨b', off, e, hlt, hc⟩ := h hne
  have hpos := List.length_pos_iff.2 hne
  have hbg : b' ≠ g := by
    intro e2
    subst e2
    have h1 := hc 0 hpos
    rw [Lib.cell_of_heap hB.1] at h1
    match off, h1 with
    | 0, h1 => simp at h1; exact hB.2.1 _ h1
    | 1, h1 => simp at h1; exact hB.2.2 _ h1
    | n + 2, h1 => simp at h1
  refine ⟨b', off, e, by simpa [World.setCell] using hlt, fun i hi => ?_⟩
  rw [World.cell?_of_block (w := w) (a := ⟨b', off + i, none⟩) ((Below.heap_setCell _ _ u2 b' hbg).trans (Below.heap_setCell w _ u1 b' hbg))]
  exact hc i hi
/-- A store of a whole struct into its box. -/
theorem Box2.store {w : World} {g : Nat} {a b : Value} {t : TypeId} (h : Box2 w g a b t) (z : Int) (A : Option Addr) (n c : Nat) :
    ∃ w0 : World, w0 = (w.setCell ⟨g, 0, none⟩ (.int .i64 z)).setCell ⟨g, 1, none⟩ (.slice A n c) ∧ Box2 w0 g (.int .i64 z) (.slice A n c) t ∧ (∀ B, B ≤ g → Below B w w0) ∧ w0.heap.size = w.heap.size ∧ (∀ A ls, SL w A ls → SL w0 A ls) ∧ (∀ k, k ≠ g → w0.heap[k]? = w.heap[k]?) := by
  refine ⟨_, rfl, ⟨?_, by simp, by simp⟩, fun B hB => ((Below.refl B w).setCell hB _).setCell hB _, by simp [World.setCell], fun A ls hS => hS.apart h 0 1 _ _, fun k hk => (Below.heap_setCell _ _ _ k hk).trans (Below.heap_setCell w _ _ k hk)⟩
  have h1 := heap_setCell_same w g 0 _ t (.int .i64 z) h.1
  have h2 := heap_setCell_same _ g 1 _ t (.slice A n c) h1
  rw [h2]; simp
end K
end Go.Proofs.YtmccfdmnidbalaaGreatDoor
