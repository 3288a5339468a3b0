/- Rows of elements of several cells in memory. -/
import Derived.Test.YtcbdhheelddgeaaGreatDoorW08a
namespace Go.Proofs.YtcbdhheelddgeaaGreatDoor
open Go.RowKit K
namespace W
theorem own_casesN {w : World} {base m : Nat} {e : TypeId} {v : Value} {n : Nat} {xs : List Value} (h : w.ownsRow base e m v n xs) : (v = .slice none 0 0 ∧ n = 0) ∨ ∃ g cap, v = .slice (some ⟨g, 0, none⟩) n cap ∧ n ≤ cap ∧ cap ≤ 9223372036854775807 ∧ g < w.heap.size := by
 rcases h.2 with h | ⟨g, cap, cur, hv, hg, hh, h1, h2, _⟩
 ·exact .inl h
 ·exact .inr ⟨g, cap, hv, h1, by unfold maxLen at h2; exact h2, (Array.getElem?_eq_some_iff.1 hh).1⟩
theorem info_parts {t : TypeId} {z : Value} {s b : Nat} (h : (Tryz.prog.info? t).map (fun i => (i.zero, i.size, i.bytes)) = some (some z, s, b)) : ∃ i, Tryz.prog.info? t = some i ∧ i.zero = some z ∧ i.size = s ∧ i.bytes = b := by
 obtain ⟨i, hi, he⟩ := Option.map_eq_some_iff.1 h
 simp only [Prod.mk.injEq] at he
 exact ⟨i, hi, he.1, he.2.1, he.2.2⟩
section
variable {α : Type} {m : Nat} {enc : α → List Value}
theorem flat_at (hm : ∀ x, (enc x).length = m) : ∀ {l : List α} {i : Nat} {x : α}, l[i]? = some x → ∀ (j : Nat) (u : Value), (enc x)[j]? = some u → (l.flatMap enc)[i * m + j]? = some u
 | [], _, _, h, _, _, _ => by simp at h
 | y :: l, 0, x, h, j, u, hj => by
  simp at h; subst h
  rw [List.flatMap_cons, Nat.zero_mul, Nat.zero_add, List.getElem?_append_left]
  ·exact hj
  ·exact (List.getElem?_eq_some_iff.1 hj).1
 | y :: l, i + 1, x, h, j, u, hj => by
  rw [List.getElem?_cons_succ] at h
  rw [List.flatMap_cons, List.getElem?_append_right (by rw [hm, Nat.succ_mul]; omega), hm, show (i + 1) * m + j - m = i * m + j by rw [Nat.succ_mul]; omega]
  exact flat_at hm h j u hj
theorem flat_of (hm : ∀ x, (enc x).length = m) : ∀ {l : List α} {k : Nat} {u : Value}, (l.flatMap enc)[k]? = some u → ∃ i x j, l[i]? = some x ∧ (enc x)[j]? = some u ∧ k = i * m + j
 | [], _, _, h => by simp at h
 | y :: l, k, u, h => by
  rw [List.flatMap_cons] at h
  rcases Nat.lt_or_ge k m with hk | hk
  ·rw [List.getElem?_append_left (by rw [hm]; exact hk)] at h
   exact ⟨0, y, k, rfl, h, by omega⟩
  ·rw [List.getElem?_append_right (by rw [hm]; exact hk), hm] at h
   obtain ⟨i, x, j, h1, h2, h3⟩ := flat_of hm h
   exact ⟨i + 1, x, j, by rw [List.getElem?_cons_succ]; exact h1, h2, by rw [Nat.succ_mul]; omega⟩
/-- The elements l stand in block b from off on, m cells each. -/
def RAt (m : Nat) (enc : α → List Value) (w : World) (b off : Nat) (l : List α) : Prop := ∀ (i : Nat) (x : α), l[i]? = some x → ∀ (j : Nat) (u : Value), (enc x)[j]? = some u → w.cell? ⟨b, off + i * m + j, none⟩ = some u
/-- A slice of such elements. -/
def RV (m : Nat) (enc : α → List Value) (w : World) (v : Value) (l : List α) : Prop :=
 ∃ A cap, v = .slice A l.length cap ∧ l.length ≤ cap ∧ (l = [] ∨ ∃ b off, A = some ⟨b, off, none⟩ ∧ b < w.heap.size ∧ RAt m enc w b off l)
theorem RAt.below {w w' : World} {b off : Nat} {l : List α} (h : RAt m enc w b off l) (hb : Below w.heap.size w w') (hlt : b < w.heap.size) : RAt m enc w' b off l :=
 fun i x hi j u hj => (hb.cell (p := ⟨b, off + i * m + j, none⟩) hlt).trans (h i x hi j u hj)
theorem RV.below {w w' : World} {v : Value} {l : List α} (h : RV m enc w v l) (hb : Below w.heap.size w w') : RV m enc w' v l := by
 obtain ⟨A, cap, rfl, hc, h⟩ := h
 refine ⟨A, cap, rfl, hc, ?_⟩
 rcases h with h | ⟨b, off, h1, h2, h3⟩
 ·exact .inl h
 ·exact .inr ⟨b, off, h1, Nat.lt_of_lt_of_le h2 hb.size, h3.below hb h2⟩
theorem RV.keep {w w' : World} {B : Nat} {v : Value} {l : List α} (h : RV m enc w v l) (hB : w.heap.size ≤ B) (hb : Below B w w') : RV m enc w' v l := h.below (hb.mono hB)
theorem RV.nil (w : World) : RV m enc w (.slice none 0 0) [] := ⟨none, 0, rfl, Nat.zero_le _, .inl rfl⟩
theorem RV.slice {w : World} {v : Value} {l : List α} (h : RV m enc w v l) : ∃ A cap, v = .slice A l.length cap ∧ l.length ≤ cap := by
 obtain ⟨A, cap, rfl, hc, _⟩ := h
 exact ⟨A, cap, rfl, hc⟩
theorem RV.get {w : World} {A : Option Addr} {n cap : Nat} {l : List α} (h : RV m enc w (.slice A n cap) l) {i : Nat} {x : α} (hi : l[i]? = some x) :
  ∃ b off, A = some ⟨b, off, none⟩ ∧ b < w.heap.size ∧ ∀ j u, (enc x)[j]? = some u → w.cell? ⟨b, off + i * m + j, none⟩ = some u := by
 obtain ⟨A', cap', h1, hc, h2⟩ := h
 injection h1 with h1 h3 h4
 subst h1
 rcases h2 with h2 | ⟨b, off, hA, hlt, hr⟩
 ·rw [h2] at hi; simp at hi
 ·exact ⟨b, off, hA, hlt, hr i x hi⟩
theorem RV.at_ {w : World} {A : Option Addr} {n cap : Nat} {l : List α} (h : RV m enc w (.slice A n cap) l) (hl : l ≠ []) : n = l.length ∧ ∃ b off, A = some ⟨b, off, none⟩ ∧ b < w.heap.size ∧ RAt m enc w b off l := by
 obtain ⟨A', cap', h1, hc, h2⟩ := h
 injection h1 with h1 h3 h4
 subst h1
 rcases h2 with h2 | ⟨b, off, hA, hlt, hr⟩
 ·exact absurd h2 hl
 ·exact ⟨h3, b, off, hA, hlt, hr⟩
theorem RAt.flat {w : World} {b off : Nat} {l : List α} (h : RAt m enc w b off l) (hm : ∀ x, (enc x).length = m) : ∀ j u, (l.flatMap enc)[j]? = some u → w.cell? ((⟨b, off, none⟩ : Addr).add j) = some u := by
 intro k u hk
 obtain ⟨i, x, j, h1, h2, rfl⟩ := flat_of hm hk
 have := h i x h1 j u h2
 rw [Nat.add_assoc] at this
 rw [show (⟨b, off, none⟩ : Addr).add (i * m + j) = ⟨b, off + (i * m + j), none⟩ by unfold Addr.add; split <;> simp_all]
 exact this
theorem RAt.of_flat {w : World} {b off : Nat} {l : List α} (hm : ∀ x, (enc x).length = m) (h : ∀ j u, (l.flatMap enc)[j]? = some u → w.cell? ⟨b, off + j, none⟩ = some u) : RAt m enc w b off l := by
 intro i x hi j u hj
 have := h _ u (flat_at hm hi j u hj)
 rw [← Nat.add_assoc] at this
 exact this
theorem RAt.drop {w : World} {b off : Nat} {l : List α} (h : RAt m enc w b off l) (k : Nat) : RAt m enc w b (off + k * m) (l.drop k) := by
 intro i x hi j u hj
 rw [List.getElem?_drop] at hi
 have := h (k + i) x hi j u hj
 rw [show off + k * m + i * m + j = off + (k + i) * m + j by rw [Nat.add_mul]; omega]
 exact this
theorem RAt.take {w : World} {b off : Nat} {l : List α} (h : RAt m enc w b off l) (k : Nat) : RAt m enc w b off (l.take k) := by
 intro i x hi j u hj
 refine h i x ?_ j u hj
 rw [List.getElem?_take] at hi
 split at hi
 ·exact hi
 ·cases hi
/-- An own row of such elements. -/
def OR (m : Nat) (enc : α → List Value) (T : TypeId) (base : Nat) (w : World) (v : Value) (l : List α) : Prop := w.ownsRow base T m v l.length (l.flatMap enc)
theorem OR.rv {T : TypeId} {base : Nat} {w : World} {v : Value} {l : List α} (h : OR m enc T base w v l) (hm : ∀ x, (enc x).length = m) : RV m enc w v l := by
 unfold OR at h
 rcases own_casesN h with ⟨h1, h2⟩ | ⟨g, cap, h1, h2, h3, h4⟩
 ·rw [List.eq_nil_of_length_eq_zero h2, h1]; exact RV.nil w
 ·refine ⟨_, cap, h1, h2, .inr ⟨g, 0, rfl, h4, RAt.of_flat hm fun j u hj => ?_⟩⟩
  have := h.cells (g := g) (by rw [h1]; rfl) j u hj
  rw [Nat.zero_add]
  rw [show (⟨g, 0, none⟩ : Addr).add j = ⟨g, j, none⟩ by unfold Addr.add; split <;> simp_all] at this
  exact this
theorem OR.nil (T : TypeId) (base : Nat) (w : World) : OR m enc T base w (.slice none 0 0) [] := ⟨by simp, .inl ⟨rfl, rfl⟩⟩
theorem OR.below {T : TypeId} {base : Nat} {w w' : World} {v : Value} {l : List α} (h : OR m enc T base w v l) (hb : Below w.heap.size w w') : OR m enc T base w' v l := row_below h hb
theorem OR.val {T : TypeId} {base : Nat} {w : World} {v : Value} {l : List α} (h : OR m enc T base w v l) : ∃ A c, v = .slice A l.length c := row_val h
end
def e2 (r : List UInt8 × Int) : List Value := [.string ⟨r.1.toArray⟩, .int .i64 r.2]
end W
end Go.Proofs.YtcbdhheelddgeaaGreatDoor
