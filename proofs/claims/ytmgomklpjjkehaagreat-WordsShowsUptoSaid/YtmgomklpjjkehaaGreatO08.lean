/- Chapter 8: parts out of an argument, with their bulk. -/
import Derived.Test.YtmgomklpjjkehaaGreatYF
import Derived.Test.YtmgomklpjjkehaaGreatRows
import Derived.Deep.Slices
import Derived.ChangeOld
namespace Go.Proofs.YtmgomklpjjkehaaGreat
open Go.RowKit K
open WP (GP gp gpL)
namespace W
theorem hl_of {w : World} {F : Nat → Prop} : ∀ (L : List (GP × List Value)), (∀ x ∈ L, HR w F x.1 x.2) → HL w F (L.map (·.1)) (L.flatMap (·.2))
  | [], _ => by simp [HL]
  | x :: L, h => by
    rw [List.map_cons, List.flatMap_cons, HL]
    exact ⟨_, _, rfl, h x (.head _), hl_of L fun y hy => h y (.tail _ hy)⟩
theorem flat5 {w : World} {b off : Nat} : ∀ (L : List (GP × List Value)) (k : Nat), (∀ i x, L[i]? = some x → x.2.length = 5 ∧ ∀ j, j < 5 → w.cell? ⟨b, off + (k + i) * 5 + j, none⟩ = x.2[j]?) →
    ∀ j u, (L.flatMap (·.2))[j]? = some u → w.cell? ⟨b, off + k * 5 + j, none⟩ = some u
  | [], _, _, j, u, hj => by simp at hj
  | x :: L, k, h, j, u, hj => by
    rw [List.flatMap_cons] at hj
    obtain ⟨h5, hc⟩ := h 0 x rfl
    by_cases hlt : j < 5
    · rw [List.getElem?_append_left (by omega)] at hj
      have := hc j hlt
      rw [Nat.add_zero] at this
      rw [this, hj]
    · rw [List.getElem?_append_right (by omega), h5] at hj
      have := flat5 L (k + 1) (fun i y hy => by
        have := h (i + 1) y (by simpa using hy)
        rw [show k + 1 + i = k + (i + 1) by omega]
        exact this) (j - 5) u hj
      rw [show off + (k + 1) * 5 + (j - 5) = off + k * 5 + j by omega] at this
      exact this
theorem bulk_all {H : Type} (q : Nat → GP × List Value) (D : Nat → DataW H) : ∀ (is : List Nat), (∀ i ∈ is, WP.cntP (q i).1 + WP.sizP (q i).1 ≤ Rows.uptoBulk (D i)) →
    WP.cntL ((is.map q).map (·.1)) + WP.sizL ((is.map q).map (·.1)) ≤ Rows.uptoBulkAll (is.map D)
  | [], _ => by simp [WP.cntL, WP.sizL, Rows.uptoBulkAll]
  | i :: is, h => by
    have h1 := h i (.head _)
    have h2 := bulk_all q D is fun j hj => h j (.tail _ hj)
    simp only [List.map_cons, WP.cntL, WP.sizL, Rows.uptoBulkAll]
    omega
instance : Inhabited GP := ⟨.mk 0 [] 0 false []⟩
section
open Go.ChangeShapes Go.WideShapes
variable {H : Type} {enc : TypeId × Value → H} {w : World}
set_option maxRecDepth 100000 in
theorem parts_open : ∀ (fuel : Nat) (cs : List Value) (x : DataW H × List MemPlace), DataW.trod enc Tryz.prog w 0 (fun _ => true) true fuel 22 cs = some x →
    ∃ (v : Value) (l : List GP), cs = [v] ∧ HS w (fun b => b < w.heap.size) v l ∧ WP.cntL l + WP.sizL l + 1 ≤ Rows.uptoBulk x.1 := by
  intro fuel
  induction fuel using Nat.strongRecOn with
  | ind fuel ih =>
  intro cs x h
  rcases DataW.trod_slice Tryz.underlying22 h with ⟨rfl, rfl⟩ | ⟨a, len, cap, elems, rest, n, rfl, rfl, rfl, _, hl, hm, hlen, hel, _, _⟩
  · exact ⟨_, [], rfl, ⟨none, 0, rfl, Nat.le_refl _, .inl rfl⟩, by simp [WP.cntL, WP.sizL, Rows.uptoBulk]⟩
  have hce : Tryz.prog.cellsOf 38 = 5 := by kernel_rfl
  rw [hce] at hel
  have each : ∀ i, i < len → ∃ q : GP × List Value, HR w (fun b => b < w.heap.size) q.1 q.2 ∧ q.2.length = 5 ∧ (∀ j, j < 5 → w.cell? ((a.add (i * 5)).add j) = q.2[j]?) ∧ a.block < w.heap.size ∧ WP.cntP q.1 + WP.sizP q.1 ≤ Rows.uptoBulk ((elems.map (·.1)).getD i .nil) := by
    intro i hi
    have hi' := hel i hi
    rw [List.getElem?_eq_getElem (by omega)] at hi'
    obtain ⟨cs', h1, h2⟩ := Option.bind_eq_some_iff.1 hi'
    have hblk := World.cells?_block h1 (by decide)
    rw [show (a.add (i * 5)).block = a.block by unfold Addr.add; split <;> rfl] at hblk
    obtain ⟨_, hl5, hcell⟩ := World.cells?_some h1
    obtain ⟨xs, k, hk, hxy, _, hxl, hf⟩ := DataW.trod_struct Tryz.underlying38 h2
    subst hk
    match xs, hxl, cs', hl5 with
    | [y0, y1, y2, y3, y4], _, [v0, v1, v2, v3, v4], _ =>
      have g0 := hf 0 _ rfl
      have g1 := hf 1 _ rfl
      have g2 := hf 2 _ rfl
      have g3 := hf 3 _ rfl
      have g4 := hf 4 _ rfl
      have c3 : Tryz.prog.cellsOf 3 = 1 := by kernel_rfl
      have c9 : Tryz.prog.cellsOf 9 = 1 := by kernel_rfl
      have c4 : Tryz.prog.cellsOf 4 = 1 := by kernel_rfl
      have c22 : Tryz.prog.cellsOf 22 = 1 := by kernel_rfl
      simp [c3] at g0 g2
      simp [c9] at g1
      simp [c4] at g3
      simp [c22] at g4
      obtain ⟨k0, e0, d0, _⟩ := DataW.trod_int Tryz.underlying3 g0
      obtain ⟨s1, e1, d1, _⟩ := DataW.trod_string Tryz.underlying9 g1
      obtain ⟨k2, e2, d2, _⟩ := DataW.trod_int Tryz.underlying3 g2
      obtain ⟨b3, e3, d3⟩ := DataW.trod_bool Tryz.underlying4 g3
      obtain ⟨v, l, e4, hs, hbk⟩ := ih _ (by omega) _ _ g4
      injection e0 with e0
      injection e1 with e1
      injection e2 with e2
      injection e3 with e3
      injection e4 with e4
      subst e0 e1 e2 e3 e4 d0 d1 d2 d3
      obtain ⟨t, rfl⟩ : ∃ t : List UInt8, s1 = ⟨t.toArray⟩ := ⟨s1.data.toList, K.string_list s1⟩
      obtain ⟨A, cp, rfl, hlc, hsl⟩ := hs
      refine ⟨(.mk k0 t k2 b3 l, pc k0 t k2 b3 (.slice A l.length cp)), ?_, rfl, hcell, hblk, ?_⟩
      · rw [HR]
        exact ⟨A, cp, rfl, hlc, hsl⟩
      · have he : (elems.map (·.1)).getD i .nil = elems[i].1 := by
          rw [List.getD_eq_getElem?_getD, List.getElem?_map, List.getElem?_eq_getElem (by omega)]
          rfl
        rw [he, hxy, WP.cntP, WP.sizP]
        simp only [List.map_cons, List.map_nil, Rows.uptoBulk, Rows.uptoBulkAll]
        omega
  obtain ⟨q, hq⟩ := Go.Deep.choose_lt each
  have hL : ((List.range len).map q).length = len := by simp
  have hLg : ∀ i y, ((List.range len).map q)[i]? = some y → i < len ∧ y = q i := by
    intro i y hy
    have hi : i < len := by
      rcases Nat.lt_or_ge i len with h | h
      · exact h
      · rw [List.getElem?_eq_none (by omega)] at hy
        cases hy
    refine ⟨hi, ?_⟩
    simp [hi] at hy
    exact hy.symm
  have hD : elems.map (·.1) = (List.range len).map fun i => (elems.map (·.1)).getD i .nil := by
    apply List.ext_getElem?
    intro i
    by_cases hi : i < len
    · simp [hi, hlen]
    · simp [hi, hlen]
  refine ⟨_, ((List.range len).map q).map (·.1), rfl, ⟨some a, cap, by simp, by simpa using hl, ?_⟩, ?_⟩
  · by_cases h0 : len = 0
    · subst h0
      exact .inl rfl
    · obtain ⟨b, off, spot⟩ := a
      obtain ⟨-, -, hc0, hb, -⟩ := hq 0 (by omega)
      obtain ⟨r0, r5, rc, -, -⟩ := hq 0 (by omega)
      have hx := rc 0 (by omega)
      rw [List.getElem?_eq_getElem (by omega)] at hx
      have hspot : spot = none := by simpa [Addr.add] using World.cell?_spot hx
      subst hspot
      refine .inr ⟨b, off, ((List.range len).map q).flatMap (·.2), rfl, hb, hl_of _ fun y hy => ?_, ?_⟩
      · obtain ⟨i, hi, rfl⟩ := List.mem_map.1 hy
        exact (hq i (List.mem_range.1 hi)).1
      · have := flat5 (w := w) (b := b) (off := off) ((List.range len).map q) 0 (fun i y hy => by
          obtain ⟨hi, rfl⟩ := hLg i y hy
          refine ⟨(hq i hi).2.1, fun j hj => ?_⟩
          have := (hq i hi).2.2.1 j hj
          rw [Go.Deep.add_add, add_plain] at this
          rw [Nat.zero_add, Nat.add_assoc]
          exact this)
        intro j u hj
        have := this j u hj
        rw [Nat.zero_mul, Nat.add_zero] at this
        exact this
  · have := bulk_all q (fun i => (elems.map (·.1)).getD i .nil) (List.range len) (fun i hi => (hq i (List.mem_range.1 hi)).2.2.2.2)
    rw [← hD] at this
    simp only [Rows.uptoBulk]
    omega
set_option maxRecDepth 100000 in
theorem parts_of {r : Reach} {b0 : Nat} {v : Value} {d : DataW H} {p : List MemPlace} (hv0 : Value.okWide Tryz.prog w r b0 22 v) (h : DataW.Trod enc Tryz.prog w 0 (fun _ => true) true 22 v d p) (hk : Rows.uptoSmall H [d] = true) :
    ∃ l : List GP, HS w (fun b => b < w.heap.size) v l ∧ WP.cntL l ≤ 1048576 ∧ WP.sizL l ≤ 1048576 := by
  obtain ⟨m, h⟩ := h
  obtain ⟨u, l, hc, hs, hb⟩ := parts_open m _ _ h
  have hk2 := of_decide_eq_true hk
  simp only [Rows.uptoBulkAll] at hk2
  obtain ⟨a0, len0, cap0, rfl⟩ := okWide_slice Tryz.underlying22 hv0
  obtain rfl : Value.slice a0 len0 cap0 = u := List.head_eq_of_cons_eq hc
  dsimp only at hb
  exact ⟨l, hs, by omega, by omega⟩
end
end W
end Go.Proofs.YtmgomklpjjkehaaGreat
