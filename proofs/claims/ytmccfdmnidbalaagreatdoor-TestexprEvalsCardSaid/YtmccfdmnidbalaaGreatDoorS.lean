/- Slices of strings in memory, as lists of lists of bytes. Nothing of the program is in it. -/
import Derived.Test.YtmccfdmnidbalaaGreatDoorK
import Derived.SliceStrings
import Derived.Lib.SmallJoins
import Derived.SizedLaws
import Derived.Lib.Builder
import Derived.Laws.AppendOwnNone
namespace Go.Proofs.YtmccfdmnidbalaaGreatDoor
open Go.RowKit
namespace K

/-- The slice's address A leads to the strings ls, one cell each. -/
def SL (w : World) (A : Option Addr) (ls : List (List UInt8)) : Prop :=
  ls ≠ [] → ∃ b off, A = some ⟨b, off, none⟩ ∧ b < w.heap.size ∧ ∀ i (h : i < ls.length), w.cell? ⟨b, off + i, none⟩ = some (.string ⟨(ls[i]).toArray⟩)
theorem SL.nil (w : World) (A : Option Addr) : SL w A [] := fun h => absurd rfl h
theorem SL.below {w w' : World} {A : Option Addr} {ls : List (List UInt8)} (h : SL w A ls) (hb : Below w.heap.size w w') : SL w' A ls := by
  intro hne
  obtain ⟨b, off, e, hlt, hc⟩ := h hne
  exact ⟨b, off, e, Nat.lt_of_lt_of_le hlt hb.size, fun i hi => (hb.cell (p := ⟨b, off + i, none⟩) hlt).trans (hc i hi)⟩
theorem SL.alloc {w : World} {A : Option Addr} {ls : List (List UInt8)} (h : SL w A ls) (o : Obj) : SL (w.alloc o) A ls := h.below ((Below.refl _ _).alloc (Nat.le_refl _) _)
theorem SL.drew {w : World} {A : Option Addr} {ls : List (List UInt8)} (h : SL w A ls) : SL w.drew A ls := h.below (Below.refl _ _).drew
theorem SL.get {w : World} {A : Option Addr} {ls : List (List UInt8)} (h : SL w A ls) {k : Nat} (hk : k < ls.length) :
    ∃ b off, A = some ⟨b, off, none⟩ ∧ b < w.heap.size ∧ w.cell? ⟨b, off + k, none⟩ = some (.string ⟨(ls.getD k []).toArray⟩) := by
  obtain ⟨b, off, e, hlt, hc⟩ := h (by intro e; subst e; simp at hk)
  refine ⟨b, off, e, hlt, ?_⟩
  rw [hc k hk, List.getD_eq_getElem?_getD, List.getElem?_eq_getElem hk]
  rfl
theorem SL.own {w : World} {base : Nat} {e : TypeId} {A : Option Addr} {n c : Nat} {ls : List (List UInt8)} (h : w.ownsRow base e 1 (.slice A n c) n (ls.map fun s => .string ⟨s.toArray⟩)) : SL w A ls := by
  intro hne
  have hn : n = ls.length := by have := h.1; simp at this; omega
  rcases h.2 with ⟨_, h0⟩ | ⟨g, cap, cur, hv, hb, hg, _⟩
  · rw [h0] at hn; exact absurd (List.eq_nil_of_length_eq_zero hn.symm) hne
  · have hA : A = some ⟨g, 0, none⟩ := by injection hv
    subst hA
    refine ⟨g, 0, rfl, (Array.getElem?_eq_some_iff.1 hg).1, fun i hi => ?_⟩
    have := h.cells (g := g) rfl i (.string ⟨(ls[i]).toArray⟩) (by simp [hi])
    rw [show (⟨g, 0, none⟩ : Addr).add i = ⟨g, 0 + i, none⟩ by unfold Addr.add; split <;> simp_all] at this
    exact this
theorem SL.tail {w : World} {b off : Nat} {x : List UInt8} {ls : List (List UInt8)} (h : SL w (some ⟨b, off, none⟩) (x :: ls)) : SL w (some ⟨b, off + 1, none⟩) ls := by
  intro _
  obtain ⟨b', off', e, hlt, hc⟩ := h (by simp)
  simp at e
  obtain ⟨rfl, rfl⟩ := e
  refine ⟨b, off + 1, rfl, hlt, fun i hi => ?_⟩
  have := hc (i + 1) (by simp; omega)
  rw [show off + 1 + i = off + (i + 1) by omega]
  exact this

theorem SL.setCell {w : World} {g o : Nat} {ls : List (List UInt8)} (h : SL w (some ⟨g, o, none⟩) ls) {p : Addr} (hp : g ≠ p.block) (u : Value) : SL (w.setCell p u) (some ⟨g, o, none⟩) ls := by
  intro hne
  obtain ⟨b, off, e, hlt, hc⟩ := h hne
  simp at e
  obtain ⟨rfl, rfl⟩ := e
  refine ⟨g, o, rfl, by simpa [World.setCell] using hlt, fun i hi => ?_⟩
  rw [World.cell?_of_block (w := w) (w' := w.setCell p u) (a := ⟨g, o + i, none⟩) (Below.heap_setCell w p u g hp)]
  exact hc i hi
/-! ### A struct of two cells, boxed -/
theorem box2 (w : World) (a b : Value) (t : TypeId) : ∃ w0 : World, w0 = w.alloc (.cells #[a, b] t) ∧ w0.cell? ⟨w.heap.size, 0, none⟩ = some a ∧ w0.cell? ⟨w.heap.size, 1, none⟩ = some b ∧ Below w.heap.size w w0 ∧ w.heap.size < w0.heap.size :=
  ⟨_, rfl, by simp, by simp, (Below.refl _ w).alloc (Nat.le_refl _) _, by simp⟩

theorem box22 (w : World) (a b c d : Value) (t : TypeId) : ∃ w0 : World, w0 = (w.alloc (.cells #[a, b] t)).alloc (.cells #[c, d] t) ∧ w0.heap[w.heap.size]? = some (.cells #[a, b] t (0, 0)) ∧ w0.heap[w.heap.size + 1]? = some (.cells #[c, d] t (0, 0)) ∧ Below w.heap.size w w0 ∧ w0.heap.size = w.heap.size + 2 := by
  refine ⟨_, rfl, ?_, ?_, ((Below.refl _ w).alloc (Nat.le_refl _) _).alloc (by simp) _, by simp⟩
  · have h1 := Below.heap_alloc (w.alloc (.cells #[a, b] t)) (.cells #[c, d] t) w.heap.size (by simp)
    rw [h1]; exact heap_alloc_new w _
  · have h2 := heap_alloc_new (w.alloc (.cells #[a, b] t)) (.cells #[c, d] t)
    rw [show (w.alloc (.cells #[a, b] t)).heap.size = w.heap.size + 1 by simp] at h2
    exact h2
/-- What is known of two boxes is known behind a call that keeps what lay there. -/
theorem box_cells {w : World} {g : Nat} {a b : Value} {t : TypeId} (h : w.heap[g]? = some (.cells #[a, b] t (0, 0))) :
    w.cell? ⟨g, 0, none⟩ = some a ∧ w.cell? ⟨g, 1, none⟩ = some b ∧ w.frozen? ⟨g, 0, none⟩ = false ∧ w.frozen? ⟨g, 1, none⟩ = false :=
  ⟨by rw [Lib.cell_of_heap h]; rfl, by rw [Lib.cell_of_heap h]; rfl, Lib.frozen_of_heap h 0, Lib.frozen_of_heap h 1⟩

theorem one_cells (w : World) (x : Value) (t : TypeId) : ∀ (j : Nat) (u : Value), [x][j]? = some u → (w.alloc (.cells #[x] t)).cell? ((⟨w.heap.size, 0, none⟩ : Addr).add j) = some u := by
  intro j u hj
  match j, hj with
  | 0, hj => simp at hj; subst hj; simp [Addr.add]
theorem one_str (s : ByteArray) : ∀ u ∈ [Value.string s], u.oneCell' = true := by intro u hu; simp at hu; subst hu; rfl

/-- append(out, lines...) onto a row of the call's own, lines nil, empty or not. -/
theorem wpList_append_strs {P : Program} {w : World} {ops : Array Oper} {rest : List Oper} {o : Oper} {a : Act} {Q : Exit → Act → World → Prop} (hgd : o.guard = none) (s x : Operand) (t : TypeId)
    (ho : o.op = .call { callee := .builtin .append, args := #[s, x], argTypes := #[t, t] })
    (base : Nat) (e : TypeId) (i : TypeInfo) (ht : P.underlying t = some (.slice e)) (hi : P.info? e = some i) (hz : i.zero = some (.string ⟨#[]⟩)) (hsize : i.size = 1) (hby : i.bytes = 16)
    (v : Value) (n : Nat) (xs : List Value) (hs : a.eval s = v) (hown : w.ownsRow base e 1 v n xs)
    (A : Option Addr) (m c : Nat) (ls : List (List UInt8)) (hx : a.eval x = .slice A m c) (hm : ls.length = m) (hA : A = none → c = 0) (hS : SL w A ls)
    (hlen : n + m ≤ 1000000) (hbase : base ≤ w.heap.size)
    (h : ∀ v' w', w'.ownsRow base e 1 v' (n + m) (xs ++ ls.map fun s => .string ⟨s.toArray⟩) → w.grownBy w' v.ownBlock → wpList P ops Q rest (a.put o.dst v') w') : wpList P ops Q (o :: rest) a w := by
  subst hm
  cases A with
  | none =>
    have hl : ls = [] := by
      rcases ls with _ | ⟨y, r⟩
      · rfl
      · obtain ⟨b, off, e, _⟩ := hS (by simp); cases e
    subst hl
    have := hA rfl
    subst this
    refine wpList_append_own_none hgd s x t ho base e i 1 ht hi v n xs hs hown hx ?_
    exact h v w (by simpa using hown) ⟨rfl, rfl, rfl, Nat.le_refl _, fun _ _ _ => rfl⟩
  | some ad =>
    refine wpList_append_own w hgd s x t ho base e i (.string ⟨#[]⟩) 1 16 ht hi hz hsize hby rfl (by decide) v n xs hs hown ad ls.length c (ls.map fun s => .string ⟨s.toArray⟩) hx (by simp) ?_ ?_ (by unfold maxLen; omega) (by omega) hbase (fun v' w' h1 h2 _ => h v' w' h1 h2)
    · intro j u hj
      have hjl : j < ls.length := by
        have := (List.getElem?_eq_some_iff.1 hj).1
        simpa using this
      obtain ⟨b, off, e, _, hc⟩ := hS (by intro e; subst e; simp at hjl)
      simp at e
      subst e
      simp [hjl] at hj
      rw [← hj, ← hc j hjl]
      congr 1
      unfold Addr.add
      split <;> simp_all
    · intro u hu
      simp at hu
      obtain ⟨s, _, rfl⟩ := hu
      rfl

/-! ### Opening an argument -/
section
variable {H : Type} {enc : TypeId × Value → H} {P : Program} {w : World}
open Go.ChangeShapes Go.WideShapes

theorem strings_of {t e : TypeId} {fuel : Nat} {v : Value} {x : DataW H × List MemPlace} (ht : P.underlying t = some (.slice e)) (he : P.underlying e = some .string) (hc : P.cellsOf e = 1)
    (h : DataW.trod enc P w 0 (fun _ => true) true fuel t [v] = some x) (hw : ∀ n ∈ x.1.weights P t, n ≤ reachBytes) (hbytes : P.bytesOf e = 16) :
    ∃ (A : Option Addr) (c : Nat) (ls : List (List UInt8)), v = .slice A ls.length c ∧ ls.length ≤ c ∧ c ≤ 8796093022208 ∧ (A = none → c = 0) ∧ SL w A ls ∧ ∀ s ∈ ls, s.length ≤ 140737488351232 := by
  rcases open_strings ht he hc h with ⟨hcs, _⟩ | ⟨a, len, cap, ss, hcs, _, hl, _, hz, hx, hcell, _⟩
  · simp at hcs
    exact ⟨none, 0, [], by simp [hcs], by simp, by omega, fun _ => rfl, SL.nil _ _, by simp⟩
  · simp at hcs
    simp at hz
    have hlen : ((ss.take len).map fun s => s.data.toList).length = len := by simp; omega
    have hw' : ∀ n ∈ (DataW.slice (strs (H := H) (ss.take len)) (strs (ss.drop len))).weights P t, n ≤ reachBytes := by rw [hx] at hw; exact hw
    simp only [DataW.weights, ht, List.mem_cons, List.mem_append] at hw'
    have hcap : cap ≤ 8796093022208 := by
      have := hw' _ (Or.inl rfl)
      rw [hbytes] at this
      simp [strs, reachBytes] at this
      omega
    refine ⟨some a, cap, (ss.take len).map fun s => s.data.toList, by rw [hlen]; exact hcs, by rw [hlen]; exact hl, hcap, (fun h => by cases h), ?_, ?_⟩
    · intro hne
      have hpos : 0 < len := by
        rcases Nat.eq_zero_or_pos len with h0 | h0
        · subst h0; simp at hne
        · exact h0
      obtain ⟨b, off, spot⟩ := a
      have hc0 := hcell 0 (by omega)
      have hspot : spot = none := by simpa [Addr.add] using World.cell?_spot hc0
      subst hspot
      have hlt : b < w.heap.size := by
        rcases Nat.lt_or_ge b w.heap.size with h' | h'
        · exact h'
        · simp [World.cell?, Addr.add, Array.getElem?_eq_none h'] at hc0
      refine ⟨b, off, rfl, hlt, fun i hi => ?_⟩
      rw [hlen] at hi
      have := hcell i (by omega)
      rw [show (⟨b, off, none⟩ : Addr).add i = ⟨b, off + i, none⟩ by unfold Addr.add; split <;> simp_all] at this
      rw [this]
      have hi2 : i < ss.length := by omega
      simp [List.getD_eq_getElem?_getD, List.getElem?_eq_getElem hi2]
    · intro s hs
      simp only [List.mem_map] at hs
      obtain ⟨y, hy, rfl⟩ := hs
      have hm : ∀ (l : List ByteArray), y ∈ l → y.data.toList.length ∈ DataW.weightsAll (H := H) P e (strs l) := by
        intro l
        induction l with
        | nil => intro h; simp at h
        | cons z l ih =>
          intro h
          simp only [strs, List.map_cons, DataW.weightsAll, List.mem_append]
          rcases List.mem_cons.1 h with rfl | h
          · exact .inl (by simp [DataW.weights])
          · exact .inr (ih h)
      have := hw' _ (Or.inr (Or.inl (hm _ hy)))
      simpa [reachBytes] using this
end
end K
end Go.Proofs.YtmccfdmnidbalaaGreatDoor
