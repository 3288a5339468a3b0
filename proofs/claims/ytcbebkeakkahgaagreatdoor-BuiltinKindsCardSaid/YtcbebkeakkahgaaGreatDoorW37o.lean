/- Built-in commands: the options' specification (2). -/
import Derived.Test.YtcbebkeakkahgaaGreatDoorW37m
namespace Go.Proofs.YtcbebkeakkahgaaGreatDoor
open Go.RowKit K
namespace W
set_option maxRecDepth 100000
theorem trim_spec (l : List UInt8) (h : l.head? ≠ some 58) (w : World) : Calls Tryz.prog 157 #[.string ⟨l.toArray⟩, .string ⟨#[58]⟩] w fun e w' => e = .returned (.string ⟨l.toArray⟩) ∧ w' = w := by
  have := Tryz.strings_TrimPrefix ⟨l.toArray⟩ ⟨#[58]⟩ w
  have e : Lib.trimPrefix (⟨l.toArray⟩ : ByteArray).data.toList (⟨#[58]⟩ : ByteArray).data.toList = l := by
    cases l with
    | nil => rfl
    | cons a r =>
      have : a ≠ 58 := fun e => h (by rw [e]; rfl)
      simp [Lib.trimPrefix, Lib.hasPrefix, List.isPrefixOf, this.symm]
  rw [e] at this
  exact this
/-- The bools of the letters that were seen. -/
structure Seen (W : World) (q : Nat) (s : List UInt8) (k : Nat) : Prop where
  ex : ∃ A : Array Value, W.heap[q]? = some (.cells A 196 (0, 0)) ∧ A.size = 256 ∧ ∀ j, k ≤ j → j < s.length → A[(bt s j).toNat]? = some (.bool false)
theorem bt_nat (s : List UInt8) (j : Nat) (h : j < s.length) : ∃ c : UInt8, bt s j = (c.toNat : Int) ∧ (bt s j).toNat = c.toNat ∧ s[j]? = some c := by
  obtain ⟨x, -, h2, h3⟩ := drop_cons s j h
  exact ⟨x, h2, by omega, h3⟩
theorem Seen.start (w : World) (s : List UInt8) : Seen (w.alloc (.cells Tryz.zeroCells196 196)) w.heap.size s 0 := by
  refine ⟨⟨_, al_new w _, by kernel_rfl, fun j _ hj => ?_⟩⟩
  obtain ⟨c, -, h2, -⟩ := bt_nat s j hj
  have h : ∀ i : Fin 256, Tryz.zeroCells196[i.val]? = some (.bool false) := by
    have e : Tryz.zeroCells196 = Array.replicate 256 (.bool false) := by kernel_rfl
    intro i
    rw [e]
    simp
  rw [h2]
  exact h ⟨c.toNat, c.toNat_lt⟩
theorem Seen.below {W W' : World} {q : Nat} {s : List UInt8} {k : Nat} (h : Seen W q s k) (hb : Below W.heap.size W W') : Seen W' q s k := by
  obtain ⟨A, h1, h2, h3⟩ := h.ex
  exact ⟨⟨A, (hb.block _ (Array.getElem?_eq_some_iff.1 h1).1).trans h1, h2, h3⟩⟩
theorem Seen.get {W : World} {q : Nat} {s : List UInt8} {k : Nat} (h : Seen W q s k) (hk : k < s.length) : W.cell? ⟨q, (bt s k).toNat, none⟩ = some (.bool false) ∧ W.frozen? ⟨q, (bt s k).toNat, none⟩ = false := by
  obtain ⟨A, h1, h2, h3⟩ := h.ex
  refine ⟨?_, ?_⟩
  · rw [Lib.cell_of_heap h1 (bt s k).toNat]
    exact h3 k (Nat.le_refl _) hk
  · simp [World.frozen?, h1]
theorem Seen.set {W : World} {q : Nat} {s : List UInt8} {k : Nat} (h : Seen W q s k) (hk : k < s.length) (hs : ∀ j, k < j → j < s.length → bt s j ≠ bt s k) : Seen (W.setCell ⟨q, (bt s k).toNat, none⟩ (.bool true)) q s (k + 1) := by
  obtain ⟨A, h1, h2, h3⟩ := h.ex
  refine ⟨⟨_, heap_setCell_same W q (bt s k).toNat A _ _ h1, by rw [Array.size_setIfInBounds]; exact h2, fun j hj hd => ?_⟩⟩
  have hne : (bt s k).toNat ≠ (bt s j).toNat := by
    have := hs j (by omega) hd
    obtain ⟨c, c1, c2, -⟩ := bt_nat s k hk
    obtain ⟨d, d1, d2, -⟩ := bt_nat s j hd
    omega
  rw [Array.getElem?_setIfInBounds_ne hne]
  exact h3 j (by omega) hd
set_option maxHeartbeats 4000000 in
theorem Valid_ok (s : List UInt8) (hl : s.length ≤ 1000) (hs : ∀ k j, k < j → j < s.length → bt s j ≠ bt s k) (h58 : ∀ k, k < s.length → bt s k ≠ 58) (hO : ∀ k, k < s.length → ∀ v, Calls Tryz.prog 158 #[.int .u8 (bt s k)] v fun e w' => e = .returned (.bool true) ∧ w' = v) (w : World) : Calls Tryz.prog 125 #[.string ⟨s.toArray⟩] w fun e w' => e = .returned (.int .i64 0) ∧ Below w.heap.size w w' := by
  have HT := Lib.hid (trim_spec s (fun h => by
    cases s with
    | nil => cases h
    | cons a r =>
      injection h with h
      subst h
      exact h58 0 (by simp) rfl) w)
  have HO := Lib.hid hO
  have HS := Lib.hid hs
  have H58 := Lib.hid h58
  clear hO hs h58
  go_enter Tryz.func125, Tryz.ntmps125
  go_wp2_with fail
  refine HT.out.mono ?_
  rintro e Y ⟨rfl, hY⟩
  obtain rfl : w = Y := hY.symm
  obtain ⟨X, hX⟩ : ∃ X, X = w.alloc (.cells Tryz.zeroCells196 196) := ⟨_, rfl⟩
  have HX := Lib.hid hX
  have HB := Lib.hid (show Below w.heap.size w X by rw [hX]; exact balloc _ _)
  have HN := Lib.hid (show Seen X w.heap.size s 0 by rw [hX]; exact Seen.start w s)
  clear hX
  go_upto_region 4 with (fail)
  rw [← HX.out]
  go_wp2
  go_loopg [4, 6] s.length (fun g x i wr => ∃ k : Nat, k ≤ s.length ∧ g = s.length - k ∧ x = .bool false ∧ i = .int .i64 k ∧ Hid (Below w.heap.size w wr) ∧ Hid (Seen wr w.heap.size s k))
  case atStart => exact ⟨0, Nat.zero_le _, rfl, rfl, rfl, HB, HN⟩
  case round =>
    obtain ⟨k, hk, rfl, rfl, rfl, HB2, HN2⟩ := hrel
    by_cases hlt2 : k < s.length
    · obtain ⟨g0, g1⟩ := HN2.out.get hlt2
      have HOC := Lib.hid (HO.out k hlt2 wr)
      obtain ⟨c, c1, c2, -⟩ := bt_nat s k hlt2
      have hc0 : (0 : Int) ≤ bt s k := by omega
      have hc1 : bt s k < 256 := by have := c.toNat_lt; omega
      have HNX := Lib.hid (HN2.out.set hlt2 (fun j hj hj2 => HS.out k j hj hj2))
      have HBX := Lib.hid (HB2.out.setCell (p := ⟨w.heap.size, (bt s k).toNat, none⟩) (Nat.le_refl _) (.bool true))
      have q1 : (k : Int) < (s.length : Int) := by omega
      clear c1 c2
      go_wp2_with fail
      refine HOC.out.mono ?_
      rintro e Y ⟨rfl, hY⟩
      obtain rfl : wr = Y := hY.symm
      obtain ⟨Z, hZ⟩ : ∃ Z, Z = wr.setCell ⟨w.heap.size, (bt s k).toNat, none⟩ (.bool true) := ⟨_, rfl⟩
      have HZ := Lib.hid hZ
      rw [← hZ] at HNX HBX
      clear hZ
      go_upto_region 12 with (fail)
      rw [← HZ.out]
      by_cases hn : k + 1 < s.length
      · have q2 : ((k : Int) + 1 < (s.length : Int)) = True := eq_true (by omega)
        have q3 := H58.out (k + 1) hn
        have q4 : (bt s (k + 1) == 58) = false := by rw [beq_eq_false_iff_ne]; exact q3
        go_wp2
        go_roundg (s.length - (k + 1))
        case measure => omega
        case rel => exact ⟨k + 1, hlt2, rfl, rfl, by go_num, HBX, HNX⟩
      · have q2 : ((k : Int) + 1 < (s.length : Int)) = False := eq_false (by omega)
        go_wp2
        go_roundg (s.length - (k + 1))
        case measure => omega
        case rel => exact ⟨k + 1, hlt2, rfl, rfl, by go_num, HBX, HNX⟩
    · have q1 : ¬ (k : Int) < (s.length : Int) := by omega
      go_wp2
      go_ret
      exact ⟨rfl, HB2.out⟩
theorem isOption_low (c : Int) (h : 97 ≤ c) (h2 : c ≤ 122) (w : World) : Calls Tryz.prog 158 #[.int .u8 c] w fun e w' => e = .returned (.bool true) ∧ w' = w := by
  have q1 : (97 ≤ c) = True := eq_true h
  have q2 : (c ≤ 122) = True := eq_true h2
  go_enter Tryz.func158, Tryz.ntmps158
  go_wp2
  go_ret
  exact ⟨rfl, rfl⟩
theorem inRange_any (GA : Option Addr) (n gc : Nat) (w : World) : Calls Tryz.prog 126 #[.slice GA n gc, .agg #[.int .i64 1, .int .i64 0]] w fun e w' => e = .returned (.bool true) ∧ Below w.heap.size w w' := by
  obtain ⟨X, hX⟩ : ∃ X, X = w.alloc (.cells #[.int .i64 1, .int .i64 0] 24) := ⟨_, rfl⟩
  have HX := Lib.hid hX
  have hb : X.heap[w.heap.size]? = some (.cells #[.int .i64 1, .int .i64 0] 24 (0, 0)) := by rw [hX]; exact al_new w _
  have e0 : X.cell? ⟨w.heap.size, 0, none⟩ = some (.int .i64 1) := Lib.cell_of_heap hb 0
  have e1 : X.cell? ⟨w.heap.size, 1, none⟩ = some (.int .i64 0) := Lib.cell_of_heap hb 1
  have hl := (Array.getElem?_eq_some_iff.1 hb).1
  have HB := Lib.hid (show Below w.heap.size w X by rw [hX]; exact balloc _ _)
  clear hX hb
  go_enter Tryz.func126, Tryz.ntmps126
  go_upto_region 1 with (fail)
  rw [← HX.out]
  go_wp2_with fail
  go_quiet (fail)
  go_wp2
  go_ret
  exact ⟨rfl, bdN HB.out _⟩
/-- The specifications of the commands. -/
theorem Valid_spec (s : List UInt8) (hs : s = [118] ∨ s = [97] ∨ s = [108, 112] ∨ s = [114] ∨ s = [112] ∨ s = [102, 118]) (w : World) : Calls Tryz.prog 125 #[.string ⟨s.toArray⟩] w fun e w' => e = .returned (.int .i64 0) ∧ Below w.heap.size w w' := by
  have hl : s.length ≤ 2 := by rcases hs with h | h | h | h | h | h <;> rw [h] <;> decide
  have hr : ∀ k, k < s.length → 97 ≤ bt s k ∧ bt s k ≤ 122 := by
    rcases hs with h | h | h | h | h | h <;> subst h <;> decide
  refine Valid_ok s (by omega) ?_ (fun k hk e => by have := (hr k hk).1; omega) (fun k hk v => isOption_low _ (hr k hk).1 (hr k hk).2 v) w
  intro k j hkj hj
  obtain ⟨rfl, rfl⟩ : k = 0 ∧ j = 1 := by omega
  rcases hs with h | h | h | h | h | h <;> subst h <;> first | decide | simp at hj
end W
end Go.Proofs.YtcbebkeakkahgaaGreatDoor
