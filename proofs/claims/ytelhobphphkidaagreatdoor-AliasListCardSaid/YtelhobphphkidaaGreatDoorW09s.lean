/- Chapter 9: slices.Contains at strings. -/
import Derived.Test.YtelhobphphkidaaGreatDoorW09r
namespace Go.Proofs.YtelhobphphkidaaGreatDoor
open Go.RowKit K
namespace W
set_option maxRecDepth 100000 in
set_option maxHeartbeats 4000000 in
theorem Index_str (L : List (List UInt8)) (t : List UInt8) (rb c : Nat) (w : World) (hrow : ∀ j x, L[j]? = some x → w.cell? ⟨rb, j, none⟩ = some (.string ⟨x.toArray⟩)) (hl : L.length ≤ 100000) :
    Calls Tryz.prog 94 #[.slice (some ⟨rb, 0, none⟩) L.length c, .string ⟨t.toArray⟩] w fun e w' => (∃ k : Int, e = .returned (.int .i64 k) ∧ (decide (0 ≤ k)) = L.contains t) ∧ w' = w := by
  obtain ⟨n, hn⟩ : ∃ n, n = L.length := ⟨_, rfl⟩
  rw [← hn] at hl ⊢
  have n0 : (0 : Int) ≤ (n : Int) := by omega
  have nb : (n : Int) ≤ 100000 := by omega
  have HN := Lib.hid hn
  have HR := Lib.hid hrow
  clear hl hn hrow
  go_enter Tryz.func94, Tryz.ntmps94
  go_wp2
  go_loopg [5, 8] n (fun gk v5 i wr => ∃ k : Nat, k ≤ n ∧ gk = n - k ∧ i = .int .i64 k ∧ wr = w ∧ Hid (∀ x ∈ L.take k, t ≠ x))
  case atStart => exact ⟨0, Nat.zero_le _, rfl, rfl, rfl, Lib.hid (fun x hx => by simp at hx)⟩
  case round =>
    obtain ⟨k, hk, rfl, rfl, rfl, HA⟩ := hrel
    by_cases hlt : k < n
    · have hlt2 : (k : Int) < (n : Int) := by omega
      obtain ⟨y, hy⟩ : ∃ y, L[k]? = some y := ⟨_, List.getElem?_eq_getElem (by have := HN.out; omega)⟩
      have r0 := HR.out k y hy
      have HLY := Lib.hid hy
      have HLT := Lib.hid hlt
      clear hy
      by_cases hyp : t = y
      · have HC := Lib.hid (show L.contains t = true by rw [List.contains_iff_mem, hyp]; exact List.mem_of_getElem? HLY.out)
        have e1 : (t == y) = true := by rw [hyp]; simp
        have HYP := Lib.hid hyp
        clear hyp
        go_wp2
        go_ret
        exact ⟨⟨(k : Int), rfl, by rw [HC.out]; simp⟩, rfl⟩
      · have e1 : (t == y) = false := by rw [beq_eq_false_iff_ne]; exact hyp
        have HA2 := Lib.hid (show ∀ x ∈ L.take (k + 1), t ≠ x from fun x hx => by
          have hh := (List.getElem?_eq_some_iff.1 HLY.out)
          rw [List.take_add_one, HLY.out] at hx
          rcases List.mem_append.1 hx with h | h
          · exact HA.out x h
          · simp at h; rw [h]; exact hyp)
        clear hyp
        go_wp2
        go_roundg (n - (k + 1))
        case measure => have := HLT.out; omega
        case rel => exact ⟨k + 1, HLT.out, rfl, by go_num, rfl, HA2⟩
    · have hlt2 : ¬ (k : Int) < (n : Int) := by omega
      have HC := Lib.hid (show L.contains t = false by
        rw [← Bool.not_eq_true, List.contains_iff_mem]
        intro hm
        exact HA.out t (by rw [List.take_of_length_le (by have := HN.out; omega)]; exact hm) rfl)
      go_wp2
      go_ret
      exact ⟨⟨-1, rfl, ⟨fun h => absurd h (by decide), fun h => absurd (List.contains_iff_mem.2 h) (by rw [HC.out]; simp)⟩⟩, rfl⟩
theorem Contains_str (L : List (List UInt8)) (t : List UInt8) (rb c : Nat) (w : World) (hrow : ∀ j x, L[j]? = some x → w.cell? ⟨rb, j, none⟩ = some (.string ⟨x.toArray⟩)) (hl : L.length ≤ 100000) :
    Calls Tryz.prog 58 #[.slice (some ⟨rb, 0, none⟩) L.length c, .string ⟨t.toArray⟩] w fun e w' => e = .returned (.bool (L.contains t)) ∧ w' = w := by
  have HC := Lib.hid (Index_str L t rb c w hrow hl)
  obtain ⟨n, hn⟩ : ∃ n, n = L.length := ⟨_, rfl⟩
  obtain ⟨R, hR⟩ : ∃ R, R = L.contains t := ⟨_, rfl⟩
  rw [← hn, ← hR] at HC
  rw [← hn, ← hR]
  clear hrow hl hn hR
  go_enter Tryz.func58, Tryz.ntmps58
  go_wp2_with fail
  refine HC.out.mono ?_
  rintro e w1 ⟨⟨k, rfl, rfl⟩, rfl⟩
  go_wp2
  go_ret
  exact ⟨rfl, rfl⟩
end W
end Go.Proofs.YtelhobphphkidaaGreatDoor
