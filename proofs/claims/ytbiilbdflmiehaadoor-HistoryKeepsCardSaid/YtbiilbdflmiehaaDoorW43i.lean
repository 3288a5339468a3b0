/- Chapter 43: numbers. -/
import Derived.Test.YtbiilbdflmiehaaDoorW43g
import Derived.Test.YtbiilbdflmiehaaDoorP43d
import Derived.Laws.IdiomStrings
namespace Go.Proofs.YtbiilbdflmiehaaDoor
open Go.RowKit K
namespace K
theorem bytes_conv {P : Program} (w : World) (src dst e : TypeId) (l : List UInt8) (hs : P.underlying src = some .string) (hd : P.underlying dst = some (.slice e)) (he : P.underlying e = some (.int .u8)) :
    ∃ w1 cap, (convert src dst (.string ⟨l.toArray⟩)).run P w = .ok (.slice (some ⟨w.heap.size, 0, none⟩) l.length cap) w1 ∧ Below w.heap.size w w1 ∧ ∀ k, k < l.length → w1.cell? ⟨w.heap.size, k, none⟩ = some (.int .u8 (bt l k)) := by
  refine ⟨_, _, run_bytes_of_string w src dst e ⟨l.toArray⟩ hs hd he, (Below.refl _ w).drew.alloc (Nat.le_refl _) _, fun k hk => ?_⟩
  refine (Lib.cell_of_heap (b := w.heap.size) (heap_alloc_new w.drew _) k).trans ?_
  rw [bytesRow_at _ _ _ (by simpa using hk), bt_of l k hk]
  rfl
end K
namespace W

theorem ten_le {k : Nat} (h : k ≤ 10) : (10 : Int) ^ k ≤ 10000000000 := by
  match k, h with
  | 0, _ | 1, _ | 2, _ | 3, _ | 4, _ | 5, _ | 6, _ | 7, _ | 8, _ | 9, _ | 10, _ => decide
theorem number_ref (l : List UInt8) (w : World) (hl : l.length ≤ 1000000000) :
    Calls Tryd.prog 44 #[.string ⟨l.toArray⟩] w fun e w' => e = .returned (.int .i64 ((P.numH l).getD 0)) ∧ w = w' := by
  by_cases h0 : l = []
  · subst h0
    go_enter Tryd.func44, Tryd.ntmps44
    go_wp2
    go_ret
    exact ⟨ret_int rfl, rfl⟩
  by_cases h1 : 10 < l.length
  · have HN : Hid (P.numH l = none) := by unfold P.numH; rw [if_pos (.inr (.inl h1))]; exact Lib.hid rfl
    have h2 : ((l.length : Int) > 10) = True := eq_true (by omega)
    go_enter Tryd.func44, Tryd.ntmps44
    go_wp2
    go_ret
    exact ⟨ret_int (by rw [HN.out]; rfl), rfl⟩
  by_cases h2 : bt l 0 = 48
  · have HN : Hid (P.numH l = none) := by unfold P.numH; rw [if_pos (.inr (.inr h2))]; exact Lib.hid rfl
    have hpos : 0 < l.length := List.length_pos_iff.2 h0
    go_enter Tryd.func44, Tryd.ntmps44
    go_wp2
    go_ret
    exact ⟨ret_int (by rw [HN.out]; rfl), rfl⟩
  have HN : Hid (P.numH l = P.numCap (P.digs 0 l)) := by unfold P.numH; rw [if_neg (by rintro (h | h | h) <;> contradiction)]; exact Lib.hid rfl
  have hpos : 0 < l.length := List.length_pos_iff.2 h0
  have hne : l.isEmpty = false := by cases l; simp at h0; simp
  have h48 : (bt l 0 == 48) = false := by simpa using h2
  have hle : l.length ≤ 10 := by omega
  clear h1 h2
  obtain ⟨res, hres⟩ : ∃ res, P.digs 0 l = res := ⟨_, rfl⟩
  have HR := Lib.hid hres
  clear hres
  go_enter Tryd.func44, Tryd.ntmps44
  go_wp2
  go_loop [3, 4] (fun n i => ∃ (k : Nat) (z : Int), k ≤ l.length ∧ i = .int .i64 k ∧ n = .int .i64 z ∧ 0 ≤ z ∧ z ≤ 9999999999 ∧ Hid (z < 10 ^ k ∧ P.digs z (l.drop k) = res)) (fun _ i => l.length - (intOf i).toNat)
  case atStart => exact ⟨0, 0, by omega, rfl, rfl, by omega, by omega, by decide, by simpa using HR.out⟩
  case round =>
    obtain ⟨k, z, hk, rfl, rfl, hz0, hz1, HZ⟩ := hrel
    by_cases hlt : k < l.length
    · obtain ⟨x, hx, hb, _⟩ := drop_cons l k hlt
      have hc0 := bt_nonneg l k
      have hc1 := bt_le l k
      have HX := Lib.hid hx
      have HB := Lib.hid hb
      clear hx hb
      by_cases hbad : bt l k < 48 ∨ 57 < bt l k
      · have HD := Lib.hid (P.digs_bad (acc := z) (r := l.drop (k + 1)) HB.out hbad)
        rcases hbad with hb | hb
        all_goals
          go_wp2
          go_ret
          exact ⟨ret_int (by rw [HN.out, HR.out, ← HZ.out.2, HX.out, HD.out]; rfl), rfl⟩
      · have HD := Lib.hid (P.digs_go (acc := z) (r := l.drop (k + 1)) HB.out hbad)
        have hb1 : ¬ bt l k < 48 := fun h => hbad (.inl h)
        have hb2 : ¬ 57 < bt l k := fun h => hbad (.inr h)
        have hp : z * 10 + (bt l k - 48) < 10 ^ (k + 1) := by
          have := HZ.out.1
          rw [Int.pow_succ]; omega
        have hp2 : z * 10 + (bt l k - 48) ≤ 9999999999 := by
          have h9 := ten_le (k := k + 1) (by omega)
          omega
        have HP := Lib.hid hp
        clear hp hbad
        go_wp2
        go_round
        case rel => exact ⟨k + 1, z * 10 + (bt l k - 48), by omega, by go_num, by go_num, by omega, by omega, HP.out, by rw [← HZ.out.2, HX.out, HD.out]⟩
        case measure => simp [intOf]; omega
    · have HE := Lib.hid (drop_end l k hlt)
      have HF : Hid (P.numH l = P.numCap (some z)) := by rw [HN.out, HR.out, ← HZ.out.2, HE.out]; exact Lib.hid rfl
      by_cases hbig : z ≤ 2147483647
      · have f : (2147483647 < z) = False := eq_false (by omega)
        replace hbig := Lib.hid hbig
        go_wp2
        go_ret
        exact ⟨ret_int (by rw [HF.out, P.numCap_ok hbig.out]; rfl), rfl⟩
      · have f : (2147483647 < z) = True := eq_true (by omega)
        replace hbig := Lib.hid hbig
        go_wp2
        go_ret
        exact ⟨ret_int (by rw [HF.out, P.numCap_no (Int.not_le.2 hbig.out)]; rfl), rfl⟩

theorem decimal_any (l : List UInt8) (w : World) (hl : l.length ≤ 1000000000) :
    Calls Tryd.prog 43 #[.string ⟨l.toArray⟩] w fun e w' => (∃ n, e = .returned (.tuple #[.int .i64 n, .bool (P.numH l).isSome]) ∧ ∀ m, P.numH l = some m → n = m) ∧ Below w.heap.size w w' := by
  by_cases h0 : l = []
  · subst h0
    go_enter Tryd.func43, Tryd.ntmps43
    go_wp2
    go_ret2
    exact ⟨⟨0, rfl, by simp [P.numH]⟩, Below.refl _ _⟩
  have hpos : 0 < l.length := List.length_pos_iff.2 h0
  have hne : l.isEmpty = false := by cases l; simp at h0; simp
  by_cases h1 : 10 < l.length
  · have HN : Hid (P.numH l = none) := by unfold P.numH; rw [if_pos (.inr (.inl h1))]; exact Lib.hid rfl
    go_enter Tryd.func43, Tryd.ntmps43
    go_wp2
    go_ret2
    exact ⟨⟨0, by rw [HN.out]; rfl, by rw [HN.out]; simp⟩, Below.refl _ _⟩
  by_cases h2 : bt l 0 = 48
  · have HN : Hid (P.numH l = none) := by unfold P.numH; rw [if_pos (.inr (.inr h2))]; exact Lib.hid rfl
    go_enter Tryd.func43, Tryd.ntmps43
    go_wp2
    go_ret2
    exact ⟨⟨0, by rw [HN.out]; rfl, by rw [HN.out]; simp⟩, Below.refl _ _⟩
  have HN : Hid (P.numH l = P.numCap (P.digs 0 l)) := by unfold P.numH; rw [if_neg (by rintro (h | h | h) <;> contradiction)]; exact Lib.hid rfl
  have h48 : (bt l 0 == 48) = false := by simpa using h2
  have hle : l.length ≤ 10 := by omega
  clear h1 h2
  obtain ⟨res, hres⟩ : ∃ res, P.digs 0 l = res := ⟨_, rfl⟩
  have HR := Lib.hid hres
  clear hres
  go_enter Tryd.func43, Tryd.ntmps43
  go_wp2
  obtain ⟨w1, cap, hcv, hbw, hcells⟩ := bytes_conv (P := Tryd.prog) w 9 47 5 l Tryd.underlying9 Tryd.underlying47 Tryd.underlying5
  rw [hcv]
  have HCS := Lib.hid hcells
  have HBW := Lib.hid hbw
  clear hcv hcells hbw
  go_wp2
  go_loop [4, 22] (fun n i => ∃ (k : Nat) (z : Int), k ≤ l.length ∧ i = .int .i64 k ∧ n = .int .i64 z ∧ 0 ≤ z ∧ z ≤ 9999999999 ∧ Hid (z < 10 ^ k ∧ P.digs z (l.drop k) = res)) (fun _ i => l.length - (intOf i).toNat)
  case atStart => exact ⟨0, 0, by omega, rfl, rfl, by omega, by omega, by decide, by simpa using HR.out⟩
  case round =>
    obtain ⟨k, z, hk, rfl, rfl, hz0, hz1, HZ⟩ := hrel
    by_cases hlt : k < l.length
    · obtain ⟨x, hx, hb, _⟩ := drop_cons l k hlt
      have hc0 := bt_nonneg l k
      have hc1 := bt_le l k
      have hcell := HCS.out k hlt
      have HX := Lib.hid hx
      have HB := Lib.hid hb
      clear hx hb
      by_cases hbad : bt l k < 48 ∨ 57 < bt l k
      · have HD := Lib.hid (P.digs_bad (acc := z) (r := l.drop (k + 1)) HB.out hbad)
        have HF : Hid (P.numH l = none) := by rw [HN.out, HR.out, ← HZ.out.2, HX.out, HD.out]; exact Lib.hid rfl
        rcases hbad with hb | hb
        all_goals
          go_wp2
          go_ret2
          exact ⟨⟨0, by rw [HF.out]; rfl, by rw [HF.out]; simp⟩, HBW.out⟩
      · have HD := Lib.hid (P.digs_go (acc := z) (r := l.drop (k + 1)) HB.out hbad)
        have hb1 : ¬ bt l k < 48 := fun h => hbad (.inl h)
        have hb2 : ¬ 57 < bt l k := fun h => hbad (.inr h)
        have hp : z * 10 + (bt l k - 48) < 10 ^ (k + 1) := by
          have := HZ.out.1
          rw [Int.pow_succ]; omega
        have hp2 : z * 10 + (bt l k - 48) ≤ 9999999999 := by
          have h9 := ten_le (k := k + 1) (by omega)
          omega
        have HP := Lib.hid hp
        clear hp hbad
        go_wp2
        go_round
        case rel => exact ⟨k + 1, z * 10 + (bt l k - 48), by omega, by go_num, by go_num, by omega, by omega, HP.out, by rw [← HZ.out.2, HX.out, HD.out]⟩
        case measure => simp [intOf]; omega
    · have HE := Lib.hid (drop_end l k hlt)
      have HF : Hid (P.numH l = P.numCap (some z)) := by rw [HN.out, HR.out, ← HZ.out.2, HE.out]; exact Lib.hid rfl
      by_cases hbig : z ≤ 2147483647
      · have f : (z ≤ 2147483647) = True := eq_true hbig
        replace hbig := Lib.hid hbig
        go_wp2
        go_ret2
        exact ⟨⟨z, by rw [HF.out, P.numCap_ok hbig.out]; rfl, by rw [HF.out, P.numCap_ok hbig.out]; simp⟩, HBW.out⟩
      · have f : (z ≤ 2147483647) = False := eq_false hbig
        replace hbig := Lib.hid hbig
        go_wp2
        go_ret2
        exact ⟨⟨z, by rw [HF.out, P.numCap_no (Int.not_le.2 hbig.out)]; rfl, by rw [HF.out, P.numCap_no (Int.not_le.2 hbig.out)]; simp⟩, HBW.out⟩
end W
end Go.Proofs.YtbiilbdflmiehaaDoor
