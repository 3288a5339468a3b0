/- Chapter 1: Unescape of chars. -/
import Derived.Test.YtabhfodjfikdaaaDoorW01f
namespace Go.Proofs.YtabhfodjfikdaaaDoor
open Go.RowKit K
namespace W

/-- A byte and a count, or an error's number, as Go returns it. -/
def byteErr : Except Int (UInt8 × Nat) → Ending
  | .ok (c, n) => .returned (.tuple #[.int .u8 (P.iv c), .int .i64 n, .int .i64 0])
  | .error z => .returned (.tuple #[.int .u8 0, .int .i64 0, .int .i64 z])
theorem byteErr_ok {r : Except Int (UInt8 × Nat)} {x : UInt8} {c : Int} {n : Nat} (hx : P.iv x = c) (h : r = .ok (x, n)) : Ending.returned (.tuple #[.int .u8 c, .int .i64 n, .int .i64 0]) = byteErr r := by rw [h, ← hx]; rfl
theorem byteErr_error {r : Except Int (UInt8 × Nat)} {z : Int} (h : r = .error z) : Ending.returned (.tuple #[.int .u8 0, .int .i64 0, .int .i64 z]) = byteErr r := by rw [h]; rfl

theorem hexv_ge (c : Int) : -1 ≤ P.hexv c := Lib.indexByte_ge _ _
theorem hexv_le (c : Int) : P.hexv c ≤ 15 := by
  unfold P.hexv
  generalize c.toNat.toUInt8 = x
  rcases Int.lt_or_le (Lib.indexByte [48, 49, 50, 51, 52, 53, 54, 55, 56, 57, 97, 98, 99, 100, 101, 102] x) 0 with h | h
  · omega
  · obtain ⟨n, hn⟩ : ∃ n : Nat, Lib.indexByte [48, 49, 50, 51, 52, 53, 54, 55, 56, 57, 97, 98, 99, 100, 101, 102] x = n := ⟨_, (Int.toNat_of_nonneg h).symm⟩
    obtain ⟨h1, _⟩ := Lib.indexByte_some hn
    have := (List.getElem?_eq_some_iff.1 h1).1
    simp at this
    omega
theorem ixb_hex (c : Int) (w : World) :
    Calls Tryd.prog 32 #[.string ⟨#[48, 49, 50, 51, 52, 53, 54, 55, 56, 57, 97, 98, 99, 100, 101, 102]⟩, .int .u8 c] w fun e w' => e = .returned (.int .i64 (P.hexv c)) ∧ w = w' :=
  (Tryd.strings_IndexByte _ c w).mono fun _ _ ⟨h1, h2⟩ => ⟨h1, h2.symm⟩

set_option maxHeartbeats 1000000 in
theorem coded_any (l : List UInt8) (w : World) (hl : l.length ≤ 10000000) (h1l : 1 ≤ l.length) :
    Calls Tryd.prog 50 #[.string ⟨l.toArray⟩] w fun e w' => e = byteErr (P.coded l) ∧ w = w' := by
  by_cases h2 : l.length < 2
  · have HG := Lib.hid (show P.coded l = .error 28 by unfold P.coded; rw [if_pos h2])
    go_enter Tryd.func50, Tryd.ntmps50
    go_wp2
    go_ret3
    exact ⟨byteErr_error HG.out, rfl⟩
  obtain ⟨hi, hhi⟩ : ∃ hi, P.hexv (bt l 1) = hi := ⟨_, rfl⟩
  have hg := hexv_ge (bt l 1)
  have hle := hexv_le (bt l 1)
  have hxa := fun w => ixb_hex (bt l 1) w
  rw [hhi] at hg hle
  simp only [hhi] at hxa
  have HA := Lib.hid hxa
  clear hxa
  have hl1 : (1 : Int) < l.length := by omega
  by_cases hb1 : hi < 0 ∨ (2 ≤ hi ∧ hi ≤ 6)
  · have HG := Lib.hid (show P.coded l = .error 6 by unfold P.coded; rw [if_neg h2, hhi, if_pos hb1])
    clear hhi
    rcases hb1 with hb1 | hb1
    · go_enter Tryd.func50, Tryd.ntmps50
      go_wp2_with (go_at_call 32; refine (HA.out _).mono ?_; rintro e w' ⟨rfl, rfl⟩)
      go_ret3
      exact ⟨byteErr_error HG.out, rfl⟩
    · obtain ⟨hb2, hb3⟩ := hb1
      have hb4 : ¬ hi < 0 := by omega
      go_enter Tryd.func50, Tryd.ntmps50
      go_wp2_with (go_at_call 32; refine (HA.out _).mono ?_; rintro e w' ⟨rfl, rfl⟩)
      go_ret3
      exact ⟨byteErr_error HG.out, rfl⟩
  by_cases h3 : l.length < 3
  · have HG := Lib.hid (show P.coded l = .error 28 by unfold P.coded; rw [if_neg h2, hhi, if_neg hb1, if_pos h3])
    clear hhi
    have hb4 : ¬ hi < 0 := by omega
    by_cases hb5 : 2 ≤ hi
    · have hb6 : ¬ hi ≤ 6 := by omega
      clear hb1
      go_enter Tryd.func50, Tryd.ntmps50
      go_wp2_with (go_at_call 32; refine (HA.out _).mono ?_; rintro e w' ⟨rfl, rfl⟩)
      go_ret3
      exact ⟨byteErr_error HG.out, rfl⟩
    · clear hb1
      go_enter Tryd.func50, Tryd.ntmps50
      go_wp2_with (go_at_call 32; refine (HA.out _).mono ?_; rintro e w' ⟨rfl, rfl⟩)
      go_ret3
      exact ⟨byteErr_error HG.out, rfl⟩
  obtain ⟨lo, hlo⟩ : ∃ lo, P.hexv (bt l 2) = lo := ⟨_, rfl⟩
  have lg := hexv_ge (bt l 2)
  have lle := hexv_le (bt l 2)
  have lxa := fun w => ixb_hex (bt l 2) w
  rw [hlo] at lg lle
  simp only [hlo] at lxa
  have LA := Lib.hid lxa
  clear lxa
  have hl2 : (2 : Int) < l.length := by omega
  have hb4 : ¬ hi < 0 := by omega
  have hsplit : (2 ≤ hi ∧ ¬ hi ≤ 6) ∨ ¬ 2 ≤ hi := by omega
  by_cases hc : lo < 0 ∨ 16 * hi + lo = 10 ∨ 16 * hi + lo = 9 ∨ (32 ≤ 16 * hi + lo ∧ 16 * hi + lo ≤ 126)
  · have HG := Lib.hid (show P.coded l = .error 6 by unfold P.coded; rw [if_neg h2, hhi, if_neg hb1, if_neg h3, hlo, if_pos hc])
    have HC := Lib.hid hc
    clear hhi hlo hb1 hc
    rcases hsplit with ⟨hs1, hs2⟩ | hs1
    all_goals
      go_enter Tryd.func50, Tryd.ntmps50
      go_wp2_with fail
      refine (HA.out _).mono ?_
      rintro e w' ⟨rfl, rfl⟩
      go_wp2_with fail
      refine (LA.out _).mono ?_
      rintro e w' ⟨rfl, rfl⟩
      go_wp2
      all_goals first
        | (go_ret3; exact ⟨byteErr_error HG.out, rfl⟩)
        | (exfalso; have := HC.out; go_light; simp at *; omega)
  · have HG := Lib.hid (show P.coded l = .ok (by8 (16 * hi + lo), 3) by unfold P.coded; rw [if_neg h2, hhi, if_neg hb1, if_neg h3, hlo, if_neg hc])
    have HY := Lib.hid (by8_toNat (16 * hi + lo) (by omega) (by omega))
    have c1 : ¬ lo < 0 := by omega
    have c2 : (16 * hi + lo == 10) = false := by simp; omega
    have c3 : (16 * hi + lo == 9) = false := by simp; omega
    have c4 : 0 ≤ 16 * hi + lo := by omega
    have c5 : 16 * hi + lo ≤ 255 := by omega
    have hsplit2 : (32 ≤ 16 * hi + lo ∧ ¬ 16 * hi + lo ≤ 126) ∨ ¬ 32 ≤ 16 * hi + lo := by omega
    clear hhi hlo hb1 hc
    rcases hsplit with ⟨hs1, hs2⟩ | hs1 <;> rcases hsplit2 with ⟨hs3, hs4⟩ | hs3 <;> first | (exfalso; omega) | skip
    all_goals
        go_enter Tryd.func50, Tryd.ntmps50
        go_wp2_with fail
        refine (HA.out _).mono ?_
        rintro e w' ⟨rfl, rfl⟩
        go_wp2_with fail
        refine (LA.out _).mono ?_
        rintro e w' ⟨rfl, rfl⟩
        go_wp2
        go_ret3
        exact ⟨byteErr_ok (n := 3) HY.out HG.out, rfl⟩

theorem sequence_any (l : List UInt8) (w : World) (hl : l.length ≤ 10000000) :
    Calls Tryd.prog 38 #[.string ⟨l.toArray⟩] w fun e w' => e = byteErr (P.seqn l) ∧ w = w' := by
  by_cases h0 : l = []
  · subst h0
    go_enter Tryd.func38, Tryd.ntmps38
    go_wp2
    go_ret3
    exact ⟨rfl, rfl⟩
  have hpos : 0 < l.length := by cases l; simp at h0; simp
  have hne : l.isEmpty = false := by cases l; simp at h0; simp
  obtain ⟨c, hc⟩ : ∃ c, bt l 0 = c := ⟨_, rfl⟩
  have HG := Lib.hid (show P.seqn l = if bt l 0 == 110 then .ok (10, 1) else if bt l 0 == 116 then .ok (9, 1) else if bt l 0 == 92 then .ok (92, 1) else if bt l 0 == 120 then P.coded l else .error 6 by unfold P.seqn; rw [hne]; rfl)
  clear hc
  cases e1 : (bt l 0 == 110) with
  | true =>
    have HG2 := Lib.hid (show P.seqn l = .ok (10, 1) by rw [HG.out, e1]; rfl)
    go_enter Tryd.func38, Tryd.ntmps38
    go_wp2
    go_ret3
    exact ⟨byteErr_ok (x := 10) (n := 1) rfl HG2.out, rfl⟩
  | false =>
  cases e2 : (bt l 0 == 116) with
  | true =>
    have HG2 := Lib.hid (show P.seqn l = .ok (9, 1) by rw [HG.out, e1, e2]; rfl)
    go_enter Tryd.func38, Tryd.ntmps38
    go_wp2
    go_ret3
    exact ⟨byteErr_ok (x := 9) (n := 1) rfl HG2.out, rfl⟩
  | false =>
  cases e3 : (bt l 0 == 92) with
  | true =>
    have HG2 := Lib.hid (show P.seqn l = .ok (92, 1) by rw [HG.out, e1, e2, e3]; rfl)
    go_enter Tryd.func38, Tryd.ntmps38
    go_wp2
    go_ret3
    exact ⟨byteErr_ok (x := 92) (n := 1) rfl HG2.out, rfl⟩
  | false =>
  cases e4 : (bt l 0 == 120) with
  | false =>
    have HG2 := Lib.hid (show P.seqn l = .error 6 by rw [HG.out, e1, e2, e3, e4]; rfl)
    go_enter Tryd.func38, Tryd.ntmps38
    go_wp2
    go_ret3
    exact ⟨byteErr_error HG2.out, rfl⟩
  | true =>
    have HG2 := Lib.hid (show P.seqn l = P.coded l by rw [HG.out, e1, e2, e3, e4]; rfl)
    have hcd := fun w => coded_any l w hl (by omega)
    have HCD := Lib.hid hcd
    clear hcd
    go_enter Tryd.func38, Tryd.ntmps38
    go_wp2_with fail
    refine (HCD.out _).mono ?_
    rintro e w1 ⟨he, rfl⟩
    rw [← HG2.out] at he
    cases hs : P.seqn l with
    | ok p =>
      obtain ⟨x, n⟩ := p
      rw [hs] at he
      obtain rfl := (show e = .returned (.tuple #[.int .u8 (P.iv x), .int .i64 n, .int .i64 0]) from he)
      have HS := Lib.hid hs
      clear hs he
      go_wp2
      go_ret3
      exact ⟨byteErr_ok rfl HS.out, rfl⟩
    | error z =>
      rw [hs] at he
      obtain rfl := (show e = .returned (.tuple #[.int .u8 0, .int .i64 0, .int .i64 z]) from he)
      have HS := Lib.hid hs
      clear hs he
      go_wp2
      go_ret3
      exact ⟨byteErr_error HS.out, rfl⟩

set_option maxRecDepth 100000 in
set_option maxHeartbeats 1000000 in
theorem Unescape_any (l : List UInt8) (w : World) (hl : l.length ≤ 10000000) :
    Calls Tryd.prog 22 #[.string ⟨l.toArray⟩] w fun e w' => e = strErr (P.unescape l) ∧ Below w.heap.size w w' := by
  obtain ⟨res, hres⟩ : ∃ res, P.unescape l = res := ⟨_, rfl⟩
  rw [hres]
  have HR := Lib.hid hres
  clear hres
  go_enter Tryd.func22, Tryd.ntmps22
  go_wp2
  go_loopw [5] (fun j wr => ∃ (k n : Nat) (a : List UInt8), k ≤ l.length ∧ l.length ≤ k + n ∧ j = .int .i64 k ∧ Bld w.heap.size a wr ∧ Below w.heap.size w wr ∧ a.length ≤ k ∧ P.une n a (l.drop k) = res) (fun j _ => l.length - (intOf j).toNat)
  case atStart => exact ⟨0, l.length, [], by omega, by omega, rfl, Lib.IsBuilderF.of (Lib.fresh_isBuilder _ _ w), (Below.refl _ w).alloc (Nat.le_refl _) _, by simp, HR.out⟩
  case round =>
    obtain ⟨k, n, a, hk, hn, rfl, hBa, hbw, hal, hno⟩ := hrel
    have HN := Lib.hid hno
    clear hno
    by_cases hlt : k < l.length
    · obtain ⟨x, hx, hb, _⟩ := drop_cons l k hlt
      have HX := Lib.hid hx
      have HB : Hid (P.iv x = bt l k) := hb.symm
      have HY := Lib.hid (by8_bt hb)
      clear hx hb
      obtain ⟨n, rfl⟩ : ∃ m, n = m + 1 := ⟨n - 1, by omega⟩
      have hok : Hid (∀ c k', P.dec1 (x :: l.drop (k + 1)) = .ok (c, l.drop k') → P.une n (a ++ [c]) (l.drop k') = res) := by
        intro c k' h
        rw [← HN.out, HX.out, P.une_ok (by simp) h]
      have herr : Hid (∀ z, P.dec1 (x :: l.drop (k + 1)) = .error z → res = .error z) := by
        intro z h
        rw [← HN.out, HX.out, P.une_error (by simp) h]
      by_cases h1 : bt l k < 32 ∨ 126 < bt l k
      · have HD := Lib.hid (P.dec1_bad (r := l.drop (k + 1)) (x := x) (by rw [HB.out]; exact h1))
        rcases h1 with h1 | h1
        all_goals
          go_wp2
          go_ret2
          exact ⟨strErr_error (herr.out _ HD.out), hbw⟩
      have h2 : 32 ≤ bt l k := by omega
      have h3 : bt l k ≤ 126 := by omega
      by_cases h92 : bt l k = 92
      · have H92 := Lib.hid (HB.out.trans h92)
        have e1 : (bt l k != 92) = false := by simp [h92]
        clear h92 h1
        have HD := Lib.hid (cut_end l (k + 1))
        cases hsq : P.seqn (l.drop (k + 1)) with
        | ok p =>
          obtain ⟨c, m⟩ := p
          have HP := Lib.hid (P.dec1_ok (r := l.drop (k + 1)) (x := x) H92.out hsq)
          have hm := P.seqn_le hsq
          simp only [List.length_drop] at hm
          have hS := fun w => sequence_any (l.drop (k + 1)) w (by simp; omega)
          simp only [hsq] at hS
          have HS := Lib.hid hS
          have HDr := Lib.hid (show (l.drop (k + 1)).drop m = l.drop (k + (1 + m)) by rw [List.drop_drop]; congr 1; omega)
          clear hS hsq
          go_wp2_with fail
          rw [HD.out]
          refine (HS.out _).mono ?_
          rintro e w1 ⟨rfl, rfl⟩
          unfold byteErr
          go_wp2_with fail
          refine (WriteByte_k w.heap.size a c _ hBa (by omega)).mono ?_
          rintro e w1 ⟨rfl, hB1, hk1⟩
          go_wp2
          go_roundw
          case rel =>
            refine ⟨k + (1 + m), n, _, by omega, by omega, by go_num, hB1, hbw.trans hk1.below, by simp; omega, hok.out _ _ ?_⟩
            rw [HP.out, HDr.out]
          case measure => simp [intOf]; omega
        | error z =>
          have HP := Lib.hid (P.dec1_error (r := l.drop (k + 1)) (x := x) H92.out hsq)
          have hS := fun w => sequence_any (l.drop (k + 1)) w (by simp; omega)
          have hz := P.seqn_error hsq
          have hz1 : (z != 0) = true := by simp; omega
          simp only [hsq] at hS
          have HS := Lib.hid hS
          clear hS hsq
          go_wp2_with fail
          rw [HD.out]
          refine (HS.out _).mono ?_
          rintro e w1 ⟨rfl, rfl⟩
          unfold byteErr
          go_wp2
          go_ret2
          exact ⟨strErr_error (herr.out _ HP.out), hbw⟩
      · have e1 : (bt l k != 92) = true := by simp [h92]
        have HD := Lib.hid (P.dec1_plain (r := l.drop (k + 1)) (x := x) (by rw [HB.out]; exact h1) (by rw [HB.out]; exact h92))
        clear h92 h1
        go_wp2_with fail
        refine (WriteByte_any w.heap.size a _ _ hBa (by omega) (bt_nonneg _ _) (bt_le _ _)).mono ?_
        rintro e w1 ⟨rfl, hB1, hk1⟩
        rw [HY.out] at hB1
        go_wp2
        go_roundw
        case rel => exact ⟨k + 1, n, _, by omega, by omega, by go_num, hB1, hbw.trans hk1.below, by simp; omega, hok.out _ _ HD.out⟩
        case measure => simp [intOf]; omega
    · have HE := Lib.hid (drop_end l k hlt)
      go_wp2_with (go_at_call 36; refine (string_k w.heap.size a _ hBa).mono ?_)
      rintro e w1 ⟨rfl, _, hk1⟩
      go_wp2
      go_ret2
      exact ⟨strErr_ok (by rw [← HN.out, HE.out, P.une_nil]), hbw.trans hk1.below⟩
end W
end Go.Proofs.YtabhfodjfikdaaaDoor
