/- Chapter 29: what awake is made of. -/
import Derived.Test.YtmccfdmnidbalaaGreatDoorW29o
namespace Go.Proofs.YtmccfdmnidbalaaGreatDoor
open Go.RowKit K
namespace P
theorem split47_mem (l : List UInt8) : ∀ x ∈ split47 l, ∀ c ∈ x, c ∈ l := by
  induction l with
  | nil => intro x h c hc; simp [split47] at h; subst h; exact hc
  | cons a r ih =>
    intro x h c hc
    rw [split47] at h
    split at h
    · rcases List.mem_cons.1 h with rfl | h
      · simp at hc
      · exact List.mem_cons_of_mem _ (ih x h c hc)
    · cases hr : split47 r with
      | nil => exact absurd hr (split47_ne r)
      | cons y t =>
        rw [hr] at h ih
        rcases List.mem_cons.1 h with rfl | h
        · rcases List.mem_cons.1 hc with rfl | hc
          · simp
          · exact List.mem_cons_of_mem _ (ih y (by simp) c hc)
        · exact List.mem_cons_of_mem _ (ih x (by simp [h]) c hc)
end P
namespace W
theorem path_ascii (s : List UInt8) (ha : ∀ c ∈ s, c.toNat < 128) : PathOK s := fun x hx =>
  isName_of x fun h32 => any_ascii x (by omega) fun c hc => ha c (P.split47_mem s x hx c hc)
theorem sok_ascii (s : List UInt8) (hl : s.length ≤ 1000000) (ha : ∀ c ∈ s, c.toNat < 128) : SOK s := ⟨hl, path_ascii s ha⟩
theorem SL.of_heap {w : World} {g : Nat} {ls : List (List UInt8)} {t : TypeId} (h : w.heap[g]? = some (.cells (ls.map fun s => Value.string ⟨s.toArray⟩).toArray t (0, 0))) : SL w (some ⟨g, 0, none⟩) ls := fun _ =>
  ⟨g, 0, rfl, (Array.getElem?_eq_some_iff.1 h).1, fun i hi => by rw [Lib.cell_of_heap h]; simp [hi]⟩
/-- Strings that were just laid in a row. -/
theorem RV.lit (w : World) (ls : List (List UInt8)) (hn : ls.length ≤ 1000) (t : TypeId) : RV (w.alloc (.cells (ls.map fun s => Value.string ⟨s.toArray⟩).toArray t)) (.slice (some ⟨w.heap.size, 0, none⟩) ls.length ls.length) ls :=
  ⟨some ⟨w.heap.size, 0, none⟩, ls.length, rfl, Nat.le_refl _, by omega, SL.of_heap (heap_alloc_new w _)⟩
def three : List Fi := [([47], true, []), ([47, 100], true, []), ([47, 102], false, [])]
theorem FV.three (w : World) (t : TypeId) : FV (w.alloc (.cells #[.string ⟨#[47]⟩, .bool true, .string ⟨#[]⟩, .string ⟨#[47, 100]⟩, .bool true, .string ⟨#[]⟩, .string ⟨#[47, 102]⟩, .bool false, .string ⟨#[]⟩] t)) (.slice (some ⟨w.heap.size, 0, none⟩) 3 3) three := by
  refine ⟨some ⟨w.heap.size, 0, none⟩, 3, rfl, by decide, by omega, fun i hi => ⟨w.heap.size, 0, rfl, by simp, ?_⟩⟩
  have hh := heap_alloc_new w (.cells #[.string ⟨#[47]⟩, .bool true, .string ⟨#[]⟩, .string ⟨#[47, 100]⟩, .bool true, .string ⟨#[]⟩, .string ⟨#[47, 102]⟩, .bool false, .string ⟨#[]⟩] t)
  have hi3 : i < 3 := hi
  match i, hi3 with
  | 0, _ => exact ⟨Lib.cell_of_heap hh 0, Lib.cell_of_heap hh 1, Lib.cell_of_heap hh 2⟩
  | 1, _ => exact ⟨Lib.cell_of_heap hh 3, Lib.cell_of_heap hh 4, Lib.cell_of_heap hh 5⟩
  | 2, _ => exact ⟨Lib.cell_of_heap hh 6, Lib.cell_of_heap hh 7, Lib.cell_of_heap hh 8⟩
theorem root_ok : PathOK (([47] : List UInt8).drop 1) := path_ascii [] (by simp)
def A1 : List (List UInt8) := [[45, 100], [100]]
def A2 : List (List UInt8) := [[97], [61], [97], [45, 97], [33], [98], [61], [99]]
def A3 : List (List UInt8) := [[51], [45, 108, 116], [50, 48]]
def A4 : List (List UInt8) := [[51], [45, 108, 116], [50, 120]]
def A5 : List (List UInt8) := [[97], [98]]
theorem asc {ls : List (List UInt8)} (h : ls.all (fun s => decide (s.length ≤ 1000) && s.all fun c => decide (c.toNat < 128)) = true) : ∀ s ∈ ls, SOK s := fun s hs => by
  have := (List.all_eq_true.1 h) s hs
  rw [Bool.and_eq_true] at this
  exact sok_ascii s (by have := of_decide_eq_true this.1; omega) fun c hc => of_decide_eq_true ((List.all_eq_true.1 this.2) c hc)
theorem ev1 : P.evalP (P.lookF three [47]) A1 = (true, 0) := by kernel_rfl
theorem ev2 : P.evalP (P.lookF three [47]) A2 = (true, 0) := by kernel_rfl
theorem ev3 : P.evalP (P.lookF three [47]) A3 = (true, 0) := by kernel_rfl
theorem ev4 : P.evalP (P.lookF three [47]) A4 = (false, 1) := by kernel_rfl
theorem ev5 : P.evalP (P.lookF three [47]) A5 = (false, 27) := by kernel_rfl
/-- One call of Eval in awake. -/
theorem ev_at (w : World) (f : Value) (hV : FV w f three) (hw : Env w) (ls : List (List UInt8)) (hl : ls.length ≤ 1000) (ha : ∀ s ∈ ls, SOK s) (q : Bool × Int) (hq : P.evalP (P.lookF three [47]) ls = q) :
    Calls Tryz.prog 6 #[.slice (some ⟨w.heap.size, 0, none⟩) ls.length ls.length, f, .string ⟨#[47]⟩] (w.alloc (.cells (ls.map fun s => Value.string ⟨s.toArray⟩).toArray 9)) fun e w' => e = .returned (.tuple #[.bool q.1, .int .i64 q.2]) ∧ Below w.heap.size w w' := by
  have hb := balloc w (.cells (ls.map fun s => Value.string ⟨s.toArray⟩).toArray 9)
  have := Eval_of (w.alloc (.cells (ls.map fun s => Value.string ⟨s.toArray⟩).toArray 9)) f [47] three ⟨hw.below hb, hV.below hb, by decide, by simp, root_ok⟩ _ ls (RV.lit w ls hl _) ha
  rw [hq] at this
  exact this.mono fun e w' ⟨h1, h2⟩ => ⟨h1, btr hb h2⟩
end W
end Go.Proofs.YtmccfdmnidbalaaGreatDoor
