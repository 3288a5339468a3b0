/- Chapter 12: SameDelims. -/
import Derived.Test.YtlhijlmbfjlglaaW12p
namespace Go.Proofs.Ytlhijlmbfjlglaa
open Go.RowKit K
open WP (GP gp gpL)
namespace W
/-- A slice of delimiters. -/
def DS (w : World) (v : Value) (ds : List SC.Dl) : Prop :=
  ∃ A c, v = .slice A ds.length c ∧ ∀ k d, ds[k]? = some d → ∃ q, A = some ⟨q, 0, none⟩ ∧ w.cell? ⟨q, k * 3, none⟩ = some (.string ⟨d.text.toArray⟩) ∧ w.cell? ⟨q, k * 3 + 1, none⟩ = some (.bool d.strip) ∧ w.cell? ⟨q, k * 3 + 2, none⟩ = some (.bool d.quoted)
theorem dlC_at : ∀ (ds : List SC.Dl) (k : Nat) (d : SC.Dl) (j : Nat), ds[k]? = some d → j < 3 → (ds.flatMap dlC)[k * 3 + j]? = (dlC d)[j]?
  | [], _, _, _, h, _ => by simp at h
  | d' :: r, 0, d, j, h, hj => by
    simp at h
    subst h
    rw [List.flatMap_cons, Nat.zero_mul, Nat.zero_add, List.getElem?_append_left (by simp [dlC]; omega)]
  | d' :: r, k + 1, d, j, h, hj => by
    rw [List.flatMap_cons, List.getElem?_append_right (by simp [dlC]; omega), show (k + 1) * 3 + j - (dlC d').length = k * 3 + j by simp [dlC]; omega]
    exact dlC_at r k d j (by simpa using h) hj
theorem DS.of_row {w : World} {B : Nat} {v : Value} {ds : List SC.Dl} (h : w.ownsRow B 56 3 v ds.length (ds.flatMap dlC)) : DS w v ds := by
  obtain ⟨A, c, rfl⟩ := row_val h
  refine ⟨A, c, rfl, fun k d hd => ?_⟩
  have hpos : 0 < ds.length := by have := (List.getElem?_eq_some_iff.1 hd).1; omega
  rcases h.2 with ⟨-, e⟩ | ⟨q, cap, cur, hv, h2⟩
  · omega
  · injection hv with hv _ _
    subst hv
    have hg : ∀ j u, (ds.flatMap dlC)[j]? = some u → w.cell? ⟨q, j, none⟩ = some u := fun j u hj => by
      have := h.cells (g := q) rfl j u hj
      rw [show (⟨q, j, none⟩ : Addr) = (⟨q, 0, none⟩ : Addr).add j by cases j <;> simp [Addr.add]]
      exact this
    exact ⟨q, rfl, hg _ _ ((dlC_at ds k d 0 hd (by omega)).trans rfl), hg _ _ ((dlC_at ds k d 1 hd (by omega)).trans rfl), hg _ _ ((dlC_at ds k d 2 hd (by omega)).trans rfl)⟩
set_option maxRecDepth 100000 in
set_option maxHeartbeats 4000000 in
theorem SameDelims_any (ds : List SC.Dl) (v u : Value) (w : World) (hn : ds.length ≤ 1000000) (h : DS w v ds) (h' : DS w u ds) :
    Calls Try.prog 12 #[v, u] w fun e w' => e = .returned (.bool true) ∧ Below w.heap.size w w' := by
  obtain ⟨A, ca, rfl, hA⟩ := h
  obtain ⟨B, cb, rfl, hB⟩ := h'
  obtain ⟨n, hnn⟩ : ∃ n, ds.length = n := ⟨_, rfl⟩
  have HNN := Lib.hid hnn
  rw [hnn] at hn ⊢
  have HA := Lib.hid hA
  have HB := Lib.hid hB
  have n0 : (0 : Int) ≤ (n : Int) := by omega
  have e1 : ((n : Int) != (n : Int)) = false := by simp
  clear hA hB hnn
  go_enter Try.func12, Try.ntmps12
  go_wp2
  go_loopg [5] n (fun g i wr => ∃ k : Nat, k ≤ n ∧ g = n - k ∧ i = .int .i64 k ∧ Hid (Below w.heap.size w wr) ∧ Hid (∀ a : Addr, wr.cell? a = w.cell? a))
  case atStart => exact ⟨0, Nat.zero_le _, rfl, rfl, Lib.hid (Below.refl _ _), Lib.hid (fun _ => rfl)⟩
  case round =>
    obtain ⟨k, hk, rfl, rfl, HBW, HW⟩ := hrel
    by_cases hlt : k < n
    · have hlt2 : (k : Int) < (n : Int) := by omega
      obtain ⟨d, hd⟩ : ∃ d, ds[k]? = some d := ⟨_, List.getElem?_eq_getElem (by have := HNN.out; omega)⟩
      obtain ⟨qa, rfl, a0, a1, a2⟩ := HA.out k d hd
      obtain ⟨qb, rfl, b0, b1, b2⟩ := HB.out k d hd
      rw [← HW.out] at a0 a1 a2 b0 b1 b2
      have s1 : Try.prog.stoodInHeld 56 = false := by kernel_rfl
      clear hd
      obtain ⟨t, st, qb⟩ := d
      dsimp only at a0 a1 a2 b0 b1 b2
      go_wp2_with fail
      go_quiet (fail)
      go_wp2
      go_roundg (n - (k + 1))
      case measure => omega
      case rel => exact ⟨k + 1, hlt, rfl, by go_num, Lib.hid (bdN HBW.out _), Lib.hid (fun a => HW.out a)⟩
    · have hlt2 : ¬ (k : Int) < (n : Int) := by omega
      go_wp2
      go_ret
      exact ⟨rfl, HBW.out⟩
end W
end Go.Proofs.Ytlhijlmbfjlglaa
