/- Chapter 9: the examiner in memory; reach. -/
import Derived.Test.YtelhobphphkidaaGreatDoorW09h
namespace Go.Proofs.YtelhobphphkidaaGreatDoor
open Go.RowKit K
namespace W
/-- The examiner's box. -/
def EB (W : World) (g : Nat) (s : List UInt8) (at_ : Int) (va vm vb : Value) (c h st : Bool) (vl : Value) : Prop :=
  W.heap[g]? = some (.cells #[.string ⟨s.toArray⟩, .int .i64 at_, va, vm, vb, .bool c, .bool h, .bool st, vl] 60 (0, 0))
section
variable {W W' : World} {g : Nat} {s : List UInt8} {at_ : Int} {va vm vb vl : Value} {c h st : Bool}
theorem EB.lt (e : EB W g s at_ va vm vb c h st vl) : g < W.heap.size := (Array.getElem?_eq_some_iff.1 e).1
theorem EB.cells (e : EB W g s at_ va vm vb c h st vl) : W.cell? ⟨g, 0, none⟩ = some (.string ⟨s.toArray⟩) ∧ W.cell? ⟨g, 1, none⟩ = some (.int .i64 at_) ∧ W.cell? ⟨g, 2, none⟩ = some va ∧ W.cell? ⟨g, 3, none⟩ = some vm ∧ W.cell? ⟨g, 4, none⟩ = some vb ∧ W.cell? ⟨g, 5, none⟩ = some (.bool c) ∧ W.cell? ⟨g, 6, none⟩ = some (.bool h) ∧ W.cell? ⟨g, 7, none⟩ = some (.bool st) ∧ W.cell? ⟨g, 8, none⟩ = some vl :=
  ⟨Lib.cell_of_heap e 0, Lib.cell_of_heap e 1, Lib.cell_of_heap e 2, Lib.cell_of_heap e 3, Lib.cell_of_heap e 4, Lib.cell_of_heap e 5, Lib.cell_of_heap e 6, Lib.cell_of_heap e 7, Lib.cell_of_heap e 8⟩
theorem EB.thaw (e : EB W g s at_ va vm vb c h st vl) (k : Nat) : W.frozen? ⟨g, k, none⟩ = false := Lib.frozen_of_heap e k
theorem EB.kept (e : EB W g s at_ va vm vb c h st vl) (hg : W'.heap[g]? = W.heap[g]?) : EB W' g s at_ va vm vb c h st vl := hg.trans e
theorem EB.set4 (e : EB W g s at_ va vm vb c h st vl) (v : Value) : EB (W.setCell ⟨g, 4, none⟩ v) g s at_ va vm v c h st vl := by
  have := heap_setCell_same W g 4 _ _ v e
  unfold EB; rw [this]; simp
theorem EB.set5 (e : EB W g s at_ va vm vb c h st vl) (b : Bool) : EB (W.setCell ⟨g, 5, none⟩ (.bool b)) g s at_ va vm vb b h st vl := by
  have := heap_setCell_same W g 5 _ _ (.bool b) e
  unfold EB; rw [this]; simp
end
/-- The function that reach hands on. -/
def fnR (pb xb : Nat) : Value := .func (Fn.func 54) #[] #[.pointer (some ⟨pb, 0, none⟩), .pointer (some ⟨xb, 0, none⟩)]
theorem reach1_yes (e pos : Int) (pb xb g : Nat) (b : Bool) (w : World) (h : e ≤ pos) (hne : pb ≠ g) (c0 : w.cell? ⟨pb, 0, none⟩ = some (.int .i64 pos)) (x0 : w.cell? ⟨xb, 0, none⟩ = some (.pointer (some ⟨g, 0, none⟩))) (k5 : w.cell? ⟨g, 5, none⟩ = some (.bool b)) (f5 : w.frozen? ⟨g, 5, none⟩ = false) :
    Calls Tryz.prog 54 #[.int .i64 e, .pointer (some ⟨pb, 0, none⟩), .pointer (some ⟨xb, 0, none⟩)] w fun r w' => r = .returned (.bool true) ∧ w' = w.setCell ⟨g, 5, none⟩ (.bool true) := by
  have c1 := (show (w.setCell ⟨g, 5, none⟩ (.bool true)).cell? ⟨pb, 0, none⟩ = some (.int .i64 pos) from (World.cell?_of_block (Below.heap_setCell _ _ _ _ (by dsimp only; exact hne))).trans c0)
  go_enter Tryz.func54, Tryz.ntmps54
  go_wp2
  go_ret
  exact ⟨rfl, rfl⟩
theorem reach1_no (e pos : Int) (pb xb : Nat) (w : World) (h : pos < e) (c0 : w.cell? ⟨pb, 0, none⟩ = some (.int .i64 pos)) :
    Calls Tryz.prog 54 #[.int .i64 e, .pointer (some ⟨pb, 0, none⟩), .pointer (some ⟨xb, 0, none⟩)] w fun r w' => r = .returned (.bool false) ∧ w' = w := by
  go_enter Tryz.func54, Tryz.ntmps54
  go_wp2
  go_ret
  exact ⟨by simpa using h, rfl⟩
/-- What IndexFunc finds. -/
def IdxOut (L : List Int) (pos : Int) (g : Nat) (w : World) (e : Ending) (w' : World) : Prop :=
  ((∀ x ∈ L, pos < x) ∧ e = .returned (.int .i64 (-1)) ∧ w' = w) ∨ ∃ k : Nat, ∃ y, L[k]? = some y ∧ y ≤ pos ∧ (∀ x ∈ L.take k, pos < x) ∧ e = .returned (.int .i64 k) ∧ w' = w.setCell ⟨g, 5, none⟩ (.bool true)
set_option maxRecDepth 100000 in
set_option maxHeartbeats 4000000 in
theorem index_any (L : List Int) (pos : Int) (pb xb g rb c : Nat) (b : Bool) (w : World) (hne : pb ≠ g) (c0 : w.cell? ⟨pb, 0, none⟩ = some (.int .i64 pos)) (x0 : w.cell? ⟨xb, 0, none⟩ = some (.pointer (some ⟨g, 0, none⟩))) (k5 : w.cell? ⟨g, 5, none⟩ = some (.bool b)) (f5 : w.frozen? ⟨g, 5, none⟩ = false)
    (hrow : ∀ j x, L[j]? = some x → w.cell? ⟨rb, j, none⟩ = some (.int .i64 x)) (hl : L.length ≤ 100000) :
    Calls Tryz.prog 88 #[.slice (some ⟨rb, 0, none⟩) L.length c, fnR pb xb] w (IdxOut L pos g w) := by
  obtain ⟨n, hn⟩ : ∃ n, n = L.length := ⟨_, rfl⟩
  rw [← hn] at hl ⊢
  have n0 : (0 : Int) ≤ (n : Int) := by omega
  have nb : (n : Int) ≤ 100000 := by omega
  have HN := Lib.hid hn
  have HR := Lib.hid hrow
  have HY := Lib.hid (fun e (h : e ≤ pos) => reach1_yes e pos pb xb g b w h hne c0 x0 k5 f5)
  have HNO := Lib.hid (fun e (h : pos < e) => reach1_no e pos pb xb w h c0)
  clear hl hn hrow hne c0 x0 k5 f5
  unfold fnR
  go_enter Tryz.func88, Tryz.ntmps88
  go_wp2
  go_loopg [8] n (fun gk i wr => ∃ k : Nat, k ≤ n ∧ gk = n - k ∧ i = .int .i64 k ∧ wr = w ∧ Hid (∀ x ∈ L.take k, pos < x))
  case atStart => exact ⟨0, Nat.zero_le _, rfl, rfl, rfl, Lib.hid (fun x hx => by simp at hx)⟩
  case round =>
    obtain ⟨k, hk, rfl, rfl, rfl, HA⟩ := hrel
    by_cases hlt : k < n
    · have hlt2 : (k : Int) < (n : Int) := by omega
      obtain ⟨y, hy⟩ : ∃ y, L[k]? = some y := ⟨_, List.getElem?_eq_getElem (by have := HN.out; omega)⟩
      have r0 := HR.out k y hy
      have HLY := Lib.hid hy
      have HLT := Lib.hid hlt
      clear hy
      by_cases hyp : y ≤ pos
      · have HC := Lib.hid (HY.out y hyp)
        have HYP := Lib.hid hyp
        clear hyp
        go_wp2_with fail
        refine HC.out.mono ?_
        rintro e w1 ⟨rfl, rfl⟩
        go_wp2
        go_ret
        exact .inr ⟨k, y, HLY.out, HYP.out, HA.out, rfl, rfl⟩
      · have HC := Lib.hid (HNO.out y (by omega))
        have HA2 := Lib.hid (show ∀ x ∈ L.take (k + 1), pos < x from fun x hx => by
          rw [AL.take_one HLY.out] at hx
          rcases List.mem_append.1 hx with h | h
          · exact HA.out x h
          · rw [List.mem_singleton] at h; rw [h]; omega)
        clear hyp
        go_wp2_with fail
        refine HC.out.mono ?_
        rintro e w1 ⟨rfl, rfl⟩
        go_wp2
        go_roundg (n - (k + 1))
        case measure => have := HLT.out; omega
        case rel => exact ⟨k + 1, HLT.out, rfl, by go_num, rfl, HA2⟩
    · have hlt2 : ¬ (k : Int) < (n : Int) := by omega
      have HA2 := Lib.hid (show ∀ x ∈ L, pos < x from fun x hx => HA.out x (by rw [List.take_of_length_le (by have := HN.out; omega)]; exact hx))
      go_wp2
      go_ret
      exact .inl ⟨HA2.out, rfl, rfl⟩
end W
end Go.Proofs.YtelhobphphkidaaGreatDoor
