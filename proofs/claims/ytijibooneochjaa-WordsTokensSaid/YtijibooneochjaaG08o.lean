/- Words: Equal of the reference. -/
import Derived.Test.YtijibooneochjaaG08n
namespace Go.Proofs.Ytijibooneochjaa
open Go.RowKit K
namespace W
/-- A slice of strings. -/
def SSl (w : World) (F : Nat → Prop) (v : Value) (ss : List (List UInt8)) : Prop :=
  ∃ (A : Option Addr) (cap : Nat), v = .slice A ss.length cap ∧ (ss = [] ∨ ∃ b off, A = some ⟨b, off, none⟩ ∧ F b ∧ ∀ j s, ss[j]? = some s → w.cell? ⟨b, off + j, none⟩ = some (.string ⟨s.toArray⟩))
theorem SSl.slice {w : World} {F : Nat → Prop} {v : Value} {ss : List (List UInt8)} (h : SSl w F v ss) : ∃ A cap, v = .slice A ss.length cap := by
  obtain ⟨A, cap, h1, _⟩ := h
  exact ⟨A, cap, h1⟩
theorem SSl.below {w w' : World} {v : Value} {ss : List (List UInt8)} (h : SSl w (fun b => b < w.heap.size) v ss) (hb : Below w.heap.size w w') : SSl w' (fun b => b < w.heap.size) v ss := by
  obtain ⟨A, cap, h1, h2⟩ := h
  refine ⟨A, cap, h1, h2.imp id (fun ⟨b, off, h3, h4, h5⟩ => ⟨b, off, h3, h4, fun j s hj => ?_⟩)⟩
  rw [hb.cell (p := ⟨b, off + j, none⟩) h4]
  exact h5 j s hj
theorem SSl.get {w : World} {F : Nat → Prop} {A : Option Addr} {n cap : Nat} {ss : List (List UInt8)} (h : SSl w F (.slice A n cap) ss) {j : Nat} {s : List UInt8} (hj : ss[j]? = some s) : ∃ b off, A = some ⟨b, off, none⟩ ∧ F b ∧ w.cell? ⟨b, off + j, none⟩ = some (.string ⟨s.toArray⟩) := by
  obtain ⟨A', cap', h1, h2⟩ := h
  injection h1 with h1 _ _
  subst h1
  rcases h2 with h2 | ⟨b, off, h3, h4, h5⟩
  · rw [h2] at hj; simp at hj
  · exact ⟨b, off, h3, h4, h5 j s hj⟩
theorem SSl.of_row {w : World} {B : Nat} {v : Value} {ss : List (List UInt8)} (h : w.ownsRow B 9 1 v ss.length (strCellsL ss)) : SSl w (fun b => b < w.heap.size) v ss := by
  obtain ⟨A, cap, hv⟩ := row_val h
  refine ⟨A, cap, hv, ?_⟩
  rcases h.2 with ⟨_, hn⟩ | ⟨g, cap', cur, hv', hB, hg, _⟩
  · exact .inl (List.length_eq_zero_iff.1 hn)
  · rw [hv] at hv'
    injection hv' with hA _ _
    refine .inr ⟨g, 0, hA, (Array.getElem?_eq_some_iff.1 hg).1, fun j s hj => ?_⟩
    have := h.cells (g := g) (by rw [hv, hA]; rfl) j (.string ⟨s.toArray⟩) (by simp [strCellsL, hj])
    rw [Nat.zero_add]
    rcases Nat.eq_zero_or_pos j with rfl | hp
    · exact this
    · simpa [Addr.add, show ¬ j = 0 by omega] using this
theorem get_of_lt' {α : Type} {l : List α} {k : Nat} (h : k < l.length) : ∃ p, l[k]? = some p ∧ l.drop k = p :: l.drop (k + 1) := ⟨l[k], List.getElem?_eq_getElem h, List.drop_eq_getElem_cons h⟩
set_option maxRecDepth 100000 in
set_option maxHeartbeats 2000000 in
theorem Equal_any (l m : List (List UInt8)) (v u : Value) (w : World) (h : SSl w (fun b => b < w.heap.size) v l) (h' : SSl w (fun b => b < w.heap.size) u m) (hn : l.length ≤ 1000000) :
    Calls Try.prog 28 #[v, u] w fun e w' => e = .returned (.bool (decide (l = m))) ∧ Below w.heap.size w w' := by
  obtain ⟨A, cap, rfl⟩ := h.slice
  obtain ⟨B, cap', rfl⟩ := h'.slice
  by_cases hne : l.length = m.length
  case neg =>
    rw [decide_eq_false (fun e => hne (by rw [e]))]
    have e1 : ((l.length : Int) != (m.length : Int)) = true := by simp; omega
    go_enter Try.func28, Try.ntmps28
    go_wp2
    go_ret
    exact ⟨rfl, Below.refl _ _⟩
  have HG := Lib.hid h
  have HG' := Lib.hid h'
  obtain ⟨R, hR⟩ : ∃ R, decide (l = m) = R := ⟨_, rfl⟩
  rw [hR]
  have HR := Lib.hid (show decide (l.drop 0 = m.drop 0) = R from hR)
  have HNE := Lib.hid hne
  have e1 : ((l.length : Int) != (m.length : Int)) = false := by simp; omega
  clear hR h h' hne
  go_enter Try.func28, Try.ntmps28
  go_wp2
  go_loopw [5] (fun i wr => ∃ k : Nat, k ≤ l.length ∧ i = .int .i64 k ∧ Hid (decide (l.drop k = m.drop k) = R) ∧ Hid (Below w.heap.size w wr)) (fun i _ => l.length - (intOf i).toNat)
  case atStart => exact ⟨0, Nat.zero_le _, rfl, HR, Lib.hid (Below.refl _ _)⟩
  case round =>
    obtain ⟨k, hk, rfl, HN, HB⟩ := hrel
    by_cases hlt : k < l.length
    · have hlt' : k < m.length := by have := HNE.out; omega
      obtain ⟨p, hp, hd⟩ := get_of_lt' hlt
      obtain ⟨q, hq, hd'⟩ := get_of_lt' hlt'
      obtain ⟨b, off, rfl, -, g0⟩ := (HG.out.below HB.out).get hp
      obtain ⟨b', off', rfl, -, g0'⟩ := (HG'.out.below HB.out).get hq
      have HQ := Lib.hid (show (l.drop k = m.drop k) ↔ (p = q ∧ l.drop (k + 1) = m.drop (k + 1)) by rw [hd, hd']; exact List.cons.injEq .. ▸ Iff.rfl)
      clear hp hq hd hd'
      by_cases hpq : p = q
      · subst hpq
        have HF := Lib.hid (show decide (l.drop (k + 1) = m.drop (k + 1)) = R by rw [← HN.out]; exact decide_eq_decide.2 (by rw [HQ.out]; simp))
        go_wp2_with fail
        go_quiet (fail)
        go_wp2
        go_roundw
        case rel => exact ⟨k + 1, hlt, by go_num, HF, Lib.hid (bdN HB.out nq)⟩
        case measure => simp [intOf]; omega
      · have HF := Lib.hid (show R = false by rw [← HN.out]; exact decide_eq_false (fun e => hpq (HQ.out.1 e).1))
        have e3 : (p == q) = false := by rw [beq_eq_false_iff_ne]; exact hpq
        have e4 : (p != q) = true := by rw [bne_iff_ne]; exact hpq
        go_wp2_with fail
        go_quiet (fail)
        go_wp2
        go_ret
        exact ⟨ret_bool HF.out.symm, bdN HB.out nq⟩
    · have HF := Lib.hid (show R = true by rw [← HN.out, List.drop_eq_nil_of_le (by omega), List.drop_eq_nil_of_le (by have := HNE.out; omega)]; simp)
      go_wp2
      go_ret
      exact ⟨ret_bool HF.out.symm, HB.out⟩
end W
end Go.Proofs.Ytijibooneochjaa
