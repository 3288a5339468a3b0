/- Chapter 1: Escape of chars and of its reference. -/
import Derived.Test.YtabhfodjfikdaaaDoorW01e
namespace Go.Proofs.YtabhfodjfikdaaaDoor
open Go.RowKit K
namespace W

def hexs : List UInt8 := [48, 49, 50, 51, 52, 53, 54, 55, 56, 57, 97, 98, 99, 100, 101, 102]
theorem hexs_at : ∀ n : Nat, n < 16 → bt [48, 49, 50, 51, 52, 53, 54, 55, 56, 57, 97, 98, 99, 100, 101, 102] n = P.iv (P.hexd n) := by decide +kernel
theorem hexs_cut : ∀ n : Nat, n < 16 → cut [48, 49, 50, 51, 52, 53, 54, 55, 56, 57, 97, 98, 99, 100, 101, 102] n (n + 1) = [P.hexd n] := by decide +kernel

theorem hexs_by8 (c : Int) (h0 : 0 ≤ c) (h1 : c < 16) : by8 (bt [48, 49, 50, 51, 52, 53, 54, 55, 56, 57, 97, 98, 99, 100, 101, 102] c.toNat) = P.hexd c := by
  rw [hexs_at c.toNat (by omega), show ((c.toNat : Nat) : Int) = c by omega]; exact by8_of _
theorem hex_ref (i : Int) (w : World) (hi : 0 ≤ i) (hi2 : i < 16) :
    Calls Tryd.prog 51 #[.int .i64 i] w fun e w' => e = .returned (.string ⟨[P.hexd i].toArray⟩) ∧ w = w' := by
  obtain ⟨n, rfl⟩ : ∃ n : Nat, i = n := ⟨i.toNat, by omega⟩
  have HC := Lib.hid (hexs_cut n (by omega))
  go_enter Tryd.func51, Tryd.ntmps51
  go_wp2
  go_ret
  exact ⟨ret_str HC.out, rfl⟩

/-- string([]byte{c}) -/
theorem one_byte (w : World) (c : Int) (h0 : 0 ≤ c) (h1 : c ≤ 255) :
    (convert 39 9 (.slice (some ⟨w.heap.size, 0, none⟩) 1 1)).run Tryd.prog (w.alloc (.cells #[.int .u8 c] 5)) = .ok (.string ⟨[by8 c].toArray⟩) (w.alloc (.cells #[.int .u8 c] 5)) :=
  run_convert_bytes_back (P := Tryd.prog) _ _ _ _ ⟨w.heap.size, 0, none⟩ 1 [by8 c] Tryd.underlying39 Tryd.underlying5 Tryd.underlying9 (fun j hj => by
    have : j = 0 := by simpa using hj
    subst this
    have := by8_toNat c h0 h1
    simp [Addr.add, this])
theorem escape_ref (x : UInt8) (w : World) :
    Calls Tryd.prog 39 #[.int .u8 (P.iv x)] w fun e w' => e = .returned (.string ⟨(P.esc1 x).toArray⟩) ∧ Below w.heap.size w w' := by
  have h0 : 0 ≤ P.iv x := by unfold P.iv; omega
  have h1 : P.iv x ≤ 255 := by unfold P.iv; have := x.toNat_lt; omega
  have HG := Lib.hid (show P.esc1 x = if P.iv x == 10 then [92, 110] else if P.iv x == 9 then [92, 116] else if P.iv x == 92 then [92, 92] else if decide (P.iv x < 32) || decide (126 < P.iv x) then [92, 120, P.hexd (P.iv x / 16), P.hexd (P.iv x % 16)] else [by8 (P.iv x)] by unfold P.esc1; rw [show by8 (P.iv x) = x from by8_of x])
  generalize P.iv x = c at *
  by_cases a1 : c = 10
  · have e1 : (c == 10) = true := by simp [a1]
    rw [HG.out, e1]
    clear a1 HG
    go_enter Tryd.func39, Tryd.ntmps39
    go_wp2
    go_ret
    exact ⟨rfl, Below.refl _ _⟩
  have e1 : (c == 10) = false := by simp [a1]
  by_cases a2 : c = 9
  · have e2 : (c == 9) = true := by simp [a2]
    rw [HG.out, e1, e2]
    clear a1 a2 HG
    go_enter Tryd.func39, Tryd.ntmps39
    go_wp2
    go_ret
    exact ⟨rfl, Below.refl _ _⟩
  have e2 : (c == 9) = false := by simp [a2]
  by_cases a3 : c = 92
  · have e3 : (c == 92) = true := by simp [a3]
    rw [HG.out, e1, e2, e3]
    clear a1 a2 a3 HG
    go_enter Tryd.func39, Tryd.ntmps39
    go_wp2
    go_ret
    exact ⟨rfl, Below.refl _ _⟩
  have e3 : (c == 92) = false := by simp [a3]
  by_cases a4 : c < 32 ∨ 126 < c
  · have HG2 := Lib.hid (show P.esc1 x = [92, 120, P.hexd (c / 16), P.hexd (c % 16)] by rw [HG.out, e1, e2, e3]; simp [a4])
    have hA := fun w => hex_ref (c / 16) w (by omega) (by omega)
    have hB := fun w => hex_ref (c % 16) w (by omega) (by omega)
    have HA := Lib.hid hA
    have HB := Lib.hid hB
    clear a1 a2 a3 HG hA hB
    by_cases a5 : c < 32
    · clear a4
      go_enter Tryd.func39, Tryd.ntmps39
      go_wp2_with fail
      refine (HA.out _).mono ?_
      rintro e w' ⟨rfl, rfl⟩
      go_wp2_with fail
      refine (HB.out _).mono ?_
      rintro e w' ⟨rfl, rfl⟩
      go_wp2
      go_ret
      exact ⟨ret_str (by rw [HG2.out]), Below.refl _ _⟩
    · have a6 : 126 < c := by omega
      clear a4
      go_enter Tryd.func39, Tryd.ntmps39
      go_wp2_with fail
      refine (HA.out _).mono ?_
      rintro e w' ⟨rfl, rfl⟩
      go_wp2_with fail
      refine (HB.out _).mono ?_
      rintro e w' ⟨rfl, rfl⟩
      go_wp2
      go_ret
      exact ⟨ret_str (by rw [HG2.out]), Below.refl _ _⟩
  · have HG2 := Lib.hid (show P.esc1 x = [by8 c] by rw [HG.out, e1, e2, e3]; simp; omega)
    have a5 : ¬ c < 32 := by omega
    have a6 : ¬ 126 < c := by omega
    clear a1 a2 a3 HG a4
    have hob := one_byte w c h0 h1
    go_enter Tryd.func39, Tryd.ntmps39
    go_wp2
    go_ret
    exact ⟨ret_str (by rw [HG2.out]), (Below.refl _ _).alloc (Nat.le_refl _) _⟩

theorem Escape_ref (l : List UInt8) (w : World) (hl : l.length ≤ 10000000) :
    Calls Tryd.prog 23 #[.string ⟨l.toArray⟩] w fun e w' => e = .returned (.string ⟨(P.escape l).toArray⟩) ∧ Below w.heap.size w w' := by
  obtain ⟨res, hres⟩ : ∃ res, P.escape l = res := ⟨_, rfl⟩
  rw [hres]
  have HR := Lib.hid hres
  clear hres
  go_enter Tryd.func23, Tryd.ntmps23
  go_wp2
  go_loopw [3, 4] (fun o i wr => ∃ (k : Nat) (q : List UInt8), k ≤ l.length ∧ i = .int .i64 k ∧ o = .string ⟨q.toArray⟩ ∧ q.length ≤ 4 * k ∧ Below w.heap.size w wr ∧ q ++ P.escape (l.drop k) = res) (fun _ i _ => l.length - (intOf i).toNat)
  case atStart => exact ⟨0, [], by omega, rfl, rfl, by simp, Below.refl _ _, HR.out⟩
  case round =>
    obtain ⟨k, q, hk, rfl, rfl, hq, hbw, hno⟩ := hrel
    have HN := Lib.hid hno
    clear hno
    by_cases hlt : k < l.length
    · obtain ⟨x, hx, hb, _⟩ := drop_cons l k hlt
      have HX := Lib.hid hx
      have he := fun w => escape_ref x w
      rw [show P.iv x = bt l k from hb.symm] at he
      have HE := Lib.hid he
      have hle := P.esc1_le x
      clear hx hb he
      go_wp2_with fail
      refine (HE.out _).mono ?_
      rintro e w1 ⟨rfl, hb1⟩
      go_wp2
      go_roundw
      case rel => exact ⟨k + 1, _, by omega, by go_num, rfl, by simp; omega, hbw.trans (hb1.mono hbw.size), by rw [← HN.out, HX.out]; simp [P.escape]⟩
      case measure => simp [intOf]; omega
    · have HE := Lib.hid (drop_end l k hlt)
      go_wp2
      go_ret
      exact ⟨ret_str (by rw [← HN.out, HE.out]; simp [P.escape]), hbw⟩

set_option maxRecDepth 100000 in
set_option maxHeartbeats 1000000 in
theorem Escape_any (l : List UInt8) (w : World) (hl : l.length ≤ 10000000) :
    Calls Tryd.prog 21 #[.string ⟨l.toArray⟩] w fun e w' => e = .returned (.string ⟨(P.escape l).toArray⟩) ∧ Below w.heap.size w w' := by
  obtain ⟨res, hres⟩ : ∃ res, P.escape l = res := ⟨_, rfl⟩
  rw [hres]
  have HR := Lib.hid hres
  clear hres
  go_enter Tryd.func21, Tryd.ntmps21
  go_wp2
  go_loopw [4] (fun i wr => ∃ (k : Nat) (q : List UInt8), k ≤ l.length ∧ i = .int .i64 k ∧ q.length ≤ 4 * k ∧ Bld w.heap.size q wr ∧ Below w.heap.size w wr ∧ q ++ P.escape (l.drop k) = res) (fun i _ => l.length - (intOf i).toNat)
  case atStart => exact ⟨0, [], by omega, rfl, by simp, Lib.IsBuilderF.of (Lib.fresh_isBuilder _ _ w), (Below.refl _ w).alloc (Nat.le_refl _) _, HR.out⟩
  case round =>
    obtain ⟨k, q, hk, rfl, hq, hBq, hbw, hno⟩ := hrel
    have HN := Lib.hid hno
    clear hno
    by_cases hlt : k < l.length
    · obtain ⟨x, hx, hb, _⟩ := drop_cons l k hlt
      have HX := Lib.hid hx
      have HB : Hid (P.iv x = bt l k) := hb.symm
      have HY := Lib.hid (by8_bt hb)
      have hb0 := bt_nonneg l k
      have hb1 := bt_le l k
      clear hx hb
      have hfin : Hid (∀ q', q' = q ++ P.esc1 x → q' ++ P.escape (l.drop (k + 1)) = res) := by
        intro q' h
        rw [← HN.out, HX.out, h]; simp [P.escape]
      have HG := Lib.hid (show P.esc1 x = if bt l k == 10 then [92, 110] else if bt l k == 9 then [92, 116] else if bt l k == 92 then [92, 92] else if decide (bt l k < 32) || decide (126 < bt l k) then [92, 120, P.hexd (bt l k / 16), P.hexd (bt l k % 16)] else [by8 (bt l k)] by unfold P.esc1; rw [HB.out, HY.out])
      by_cases a1 : bt l k = 10
      · have e1 : (bt l k == 10) = true := by simp [a1]
        have HG2 := Lib.hid (show P.esc1 x = [92, 110] by rw [HG.out, e1]; rfl)
        clear a1
        go_wp2_with (go_at_call 33; refine (WriteString_k w.heap.size q [92, 110] _ hBq (by omega) (by simp)).mono ?_)
        rintro e w1 ⟨rfl, hB1, hk1⟩
        go_wp2
        go_roundw
        case rel => exact ⟨k + 1, _, by omega, by go_num, by simp; omega, hB1, hbw.trans hk1.below, hfin.out _ (by rw [HG2.out])⟩
        case measure => simp [intOf]; omega
      have e1 : (bt l k == 10) = false := by simp [a1]
      by_cases a2 : bt l k = 9
      · have e2 : (bt l k == 9) = true := by simp [a2]
        have HG2 := Lib.hid (show P.esc1 x = [92, 116] by rw [HG.out, e1, e2]; rfl)
        clear a1 a2
        go_wp2_with (go_at_call 33; refine (WriteString_k w.heap.size q [92, 116] _ hBq (by omega) (by simp)).mono ?_)
        rintro e w1 ⟨rfl, hB1, hk1⟩
        go_wp2
        go_roundw
        case rel => exact ⟨k + 1, _, by omega, by go_num, by simp; omega, hB1, hbw.trans hk1.below, hfin.out _ (by rw [HG2.out])⟩
        case measure => simp [intOf]; omega
      have e2 : (bt l k == 9) = false := by simp [a2]
      by_cases a3 : bt l k = 92
      · have e3 : (bt l k == 92) = true := by simp [a3]
        have HG2 := Lib.hid (show P.esc1 x = [92, 92] by rw [HG.out, e1, e2, e3]; rfl)
        clear a1 a2 a3
        go_wp2_with (go_at_call 33; refine (WriteString_k w.heap.size q [92, 92] _ hBq (by omega) (by simp)).mono ?_)
        rintro e w1 ⟨rfl, hB1, hk1⟩
        go_wp2
        go_roundw
        case rel => exact ⟨k + 1, _, by omega, by go_num, by simp; omega, hB1, hbw.trans hk1.below, hfin.out _ (by rw [HG2.out])⟩
        case measure => simp [intOf]; omega
      have e3 : (bt l k == 92) = false := by simp [a3]
      by_cases a4 : bt l k < 32 ∨ 126 < bt l k
      · have HG2 := Lib.hid (show P.esc1 x = [92, 120, P.hexd (bt l k / 16), P.hexd (bt l k % 16)] by rw [HG.out, e1, e2, e3]; simp [a4])
        clear a1 a2 a3
        rcases a4 with a4 | a4
        all_goals
          go_wp2_with (go_at_call 33; refine (WriteString_k w.heap.size q [92, 120] _ hBq (by omega) (by simp)).mono ?_)
          rintro e w1 ⟨rfl, hB1, hk1⟩
          go_wp2_with fail
          refine (WriteByte_any w.heap.size _ _ _ hB1 (by simp; omega) (bt_nonneg _ _) (bt_le _ _)).mono ?_
          rintro e w2 ⟨rfl, hB2, hk2⟩
          rw [hexs_by8 (bt l k / 16) (by omega) (by omega)] at hB2
          go_wp2_with fail
          refine (WriteByte_any w.heap.size _ _ _ hB2 (by simp; omega) (bt_nonneg _ _) (bt_le _ _)).mono ?_
          rintro e w3 ⟨rfl, hB3, hk3⟩
          rw [hexs_by8 (bt l k % 16) (by omega) (by omega)] at hB3
          go_wp2
          go_roundw
          case rel => exact ⟨k + 1, _, by omega, by go_num, by simp; omega, hB3, ((hbw.trans hk1.below).trans hk2.below).trans hk3.below, hfin.out _ (by rw [HG2.out]; simp)⟩
          case measure => simp [intOf]; omega
      · have HG2 := Lib.hid (show P.esc1 x = [by8 (bt l k)] by rw [HG.out, e1, e2, e3]; simp; omega)
        have a5 : ¬ bt l k < 32 := by omega
        have a6 : ¬ 126 < bt l k := by omega
        clear a1 a2 a3 a4
        go_wp2_with fail; refine (WriteByte_any w.heap.size q _ _ hBq (by omega) (bt_nonneg _ _) (bt_le _ _)).mono ?_; rintro e w1 ⟨rfl, hB1, hk1⟩
        go_wp2
        go_roundw
        case rel => exact ⟨k + 1, _, by omega, by go_num, by simp; omega, hB1, hbw.trans hk1.below, hfin.out _ (by rw [HG2.out])⟩
        case measure => simp [intOf]; omega
    · have HE := Lib.hid (drop_end l k hlt)
      go_wp2_with (go_at_call 36; refine (string_k w.heap.size q _ hBq).mono ?_)
      rintro e w1 ⟨rfl, _, hk1⟩
      go_wp2
      go_ret
      exact ⟨ret_str (by rw [← HN.out, HE.out]; simp [P.escape]), hbw.trans hk1.below⟩
end W
end Go.Proofs.YtabhfodjfikdaaaDoor
