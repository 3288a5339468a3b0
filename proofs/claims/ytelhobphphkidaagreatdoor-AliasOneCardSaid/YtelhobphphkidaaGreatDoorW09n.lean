/- Chapter 9: slices.DeleteFunc at ints with reach's closure. -/
import Derived.Test.YtelhobphphkidaaGreatDoorW09m
namespace Go.Proofs.YtelhobphphkidaaGreatDoor
open Go.RowKit K
namespace W
def ivs (L : List Int) : List Value := L.map fun x => .int .i64 x
def flt (pos : Int) (L : List Int) : List Int := L.filter fun x => decide (pos < x)
def hit (pos : Int) (L : List Int) : Bool := L.any fun x => decide (x ≤ pos)
theorem ivs_length (L : List Int) : (ivs L).length = L.length := by simp [ivs]
theorem ivs_get (L : List Int) (j : Nat) : (ivs L)[j]? = L[j]?.map fun x => .int .i64 x := by simp [ivs]
theorem flt_append (pos : Int) (a b : List Int) : flt pos (a ++ b) = flt pos a ++ flt pos b := by simp [flt]
theorem flt_all {pos : Int} {L : List Int} (h : ∀ x ∈ L, pos < x) : flt pos L = L := by
  unfold flt; rw [List.filter_eq_self]; intro x hx; simpa using h x hx
theorem hit_none {pos : Int} {L : List Int} (h : ∀ x ∈ L, pos < x) : hit pos L = false := by
  unfold hit; rw [List.any_eq_false]; intro x hx; have := h x hx; simp; omega
theorem hit_some {pos : Int} {L : List Int} {k : Nat} {y : Int} (h : L[k]? = some y) (hy : y ≤ pos) : hit pos L = true := by
  unfold hit; rw [List.any_eq_true]; exact ⟨y, List.mem_of_getElem? h, by simpa using hy⟩
theorem own_same {base size n : Nat} {e : TypeId} {v : Value} {xs : List Value} {w w' : World} (h : w.ownsRow base e size v n xs) (hk : ∀ g, v.ownBlock = some g → w'.heap[g]? = w.heap[g]?) : w'.ownsRow base e size v n xs := by
  refine ⟨h.1, ?_⟩
  rcases h.2 with hn | ⟨g, cap, cur, rfl, hb, hgg, rest⟩
  · exact .inl hn
  · refine .inr ⟨g, cap, cur, rfl, hb, ?_, rest⟩
    rw [hk g rfl]
    exact hgg
theorem setCells_heap (g : Nat) : ∀ (vs : List Value) (o : Nat) (w : World), (w.setCells g o vs).heap.size = w.heap.size ∧ ∀ q, q ≠ g → (w.setCells g o vs).heap[q]? = w.heap[q]?
  | [], _, _ => ⟨rfl, fun _ _ => rfl⟩
  | v :: r, o, w => by
    rw [World.setCells]
    obtain ⟨h1, h2⟩ := setCells_heap g r (o + 1) (w.setCell ⟨g, o, none⟩ v)
    exact ⟨by rw [h1]; simp, fun q hq => (h2 q hq).trans (Below.heap_setCell _ _ _ _ (by dsimp only; exact hq))⟩
/-- Two blocks at most are written. -/
def Two (g gb : Nat) (w w' : World) : Prop := w'.heap.size = w.heap.size ∧ ∀ q, q ≠ g → q ≠ gb → w'.heap[q]? = w.heap[q]?
theorem Two.refl (g gb : Nat) (w : World) : Two g gb w w := ⟨rfl, fun _ _ _ => rfl⟩
theorem Two.trans {g gb : Nat} {a b c : World} (h : Two g gb a b) (k : Two g gb b c) : Two g gb a c := ⟨k.1.trans h.1, fun q h1 h2 => (k.2 q h1 h2).trans (h.2 q h1 h2)⟩
theorem Two.fst (g gb o : Nat) (v : Value) (w : World) : Two g gb w (w.setCell ⟨g, o, none⟩ v) := ⟨by simp, fun q h1 _ => Below.heap_setCell _ _ _ _ (by dsimp only; exact h1)⟩
theorem Two.snd (g gb o : Nat) (v : Value) (w : World) : Two g gb w (w.setCell ⟨gb, o, none⟩ v) := ⟨by simp, fun q _ h1 => Below.heap_setCell _ _ _ _ (by dsimp only; exact h1)⟩
/-- What DeleteFunc leaves. -/
def DelOut (L : List Int) (pos : Int) (base g : Nat) (s : List UInt8) (at_ : Int) (va vm vb vl : Value) (c h st : Bool) (v : Value) (w : World) (e : Ending) (w' : World) : Prop :=
  ∃ v', e = .returned v' ∧ w'.ownsRow base 3 1 v' (flt pos L).length (ivs (flt pos L)) ∧ v'.ownBlock = v.ownBlock ∧ EB w' g s at_ va vm vb (c || hit pos L) h st vl ∧ w'.heap.size = w.heap.size ∧ (∀ q, q ≠ g → v.ownBlock ≠ some q → w'.heap[q]? = w.heap[q]?) ∧ Below base w w'
theorem index_nil (A : Option Addr) (c pb xb : Nat) (w : World) :
    Calls Tryz.prog 88 #[.slice A 0 c, fnR pb xb] w fun e w' => e = .returned (.int .i64 (-1)) ∧ w' = w := by
  unfold fnR
  go_enter Tryz.func88, Tryz.ntmps88
  go_wp2
  go_loopg [8] 0 (fun gk i wr => i = .int .i64 0 ∧ wr = w)
  case atStart => exact ⟨rfl, rfl⟩
  case round =>
    obtain ⟨rfl, rfl⟩ := hrel
    go_wp2
    go_ret
    exact ⟨rfl, rfl⟩
end W
end Go.Proofs.YtelhobphphkidaaGreatDoor
