/- Chapter 1: Unquote of chars. -/
import Derived.Test.YtabhfodjfikdaaaDoorW01c
namespace Go.Proofs.YtabhfodjfikdaaaDoor
open Go.RowKit K
namespace W

/-- A string or an error's number, as Go returns it. -/
def strErr : Except Int (List UInt8) → Ending
  | .ok a => .returned (.tuple #[.string ⟨a.toArray⟩, .int .i64 0])
  | .error z => .returned (.tuple #[.string ⟨#[]⟩, .int .i64 z])
theorem strErr_ok {r : Except Int (List UInt8)} {a : List UInt8} (h : r = .ok a) : Ending.returned (.tuple #[.string ⟨a.toArray⟩, .int .i64 0]) = strErr r := by rw [h]; rfl
theorem strErr_error {r : Except Int (List UInt8)} {z : Int} (h : r = .error z) : Ending.returned (.tuple #[.string ⟨#[]⟩, .int .i64 z]) = strErr r := by rw [h]; rfl

theorem string_k (b : Nat) (l : List UInt8) (w : World) (h : Bld b l w) :
    Calls Tryd.prog 36 #[.pointer (some ⟨b, 0, none⟩)] w fun e w' => e = .returned (.string ⟨l.toArray⟩) ∧ Bld b l w' ∧ Bkept b w w' := by
  have hlt : b < w.heap.size := by
    unfold Bld at h
    rcases h with h | h
    · exact h.lt
    · exact h.lt
  exact (Tryd.Builder_String_any_k b b l w h (by omega)).mono fun e w' ⟨h1, h2, h3, h4⟩ => ⟨h1, h2, h3, h4⟩

theorem stop_false {c : Int} (h : P.stop c = false) : (c == 9) = false ∧ (c == 32) = false ∧ (c == 10) = false ∧ (c == 38) = false ∧ (c == 124) = false ∧ (c == 59) = false ∧ (c == 40) = false ∧ (c == 41) = false ∧ (c == 60) = false ∧ (c == 62) = false ∧ (c == 36) = false ∧ (c == 96) = false := by
  unfold P.stop P.bl P.ob at h
  simp at h
  simp [h]

set_option maxRecDepth 100000 in
set_option maxHeartbeats 1000000 in
theorem Unquote_any (l : List UInt8) (w : World) (hl : l.length ≤ 10000000) :
    Calls Tryd.prog 19 #[.string ⟨l.toArray⟩] w fun e w' => e = strErr (P.unquote l) ∧ Below w.heap.size w w' := by
  obtain ⟨res, hres⟩ : ∃ res, P.unquote l = res := ⟨_, rfl⟩
  rw [hres]
  have HR := Lib.hid hres
  clear hres
  go_enter Tryd.func19, Tryd.ntmps19
  go_wp2
  go_loopw [5] (fun j wr => ∃ (k n : Nat) (a : List UInt8), k ≤ l.length ∧ l.length ≤ k + n ∧ j = .int .i64 k ∧ Bld w.heap.size a wr ∧ Below w.heap.size w wr ∧ a.length ≤ k ∧ P.unq n a (l.drop k) = res) (fun j _ => l.length - (intOf j).toNat)
  case atStart => exact ⟨0, l.length, [], by omega, by omega, rfl, Lib.IsBuilderF.of (Lib.fresh_isBuilder _ _ w), (Below.refl _ w).alloc (Nat.le_refl _) _, by simp, HR.out⟩
  case round =>
    obtain ⟨k, n, a, hk, hn, rfl, hBa, hbw, hal, hno⟩ := hrel
    have HN := Lib.hid hno
    clear hno
    by_cases hlt : k < l.length
    · obtain ⟨x, hx, hb, _⟩ := drop_cons l k hlt
      have HX := Lib.hid hx
      have HB : Hid (P.iv x = bt l k) := hb.symm
      have HY := Lib.hid (by8_bt hb)
      clear hx hb
      obtain ⟨n, rfl⟩ : ∃ m, n = m + 1 := ⟨n - 1, by omega⟩
      have hok : Hid (∀ a' k', P.piece a (x :: l.drop (k + 1)) = .ok (a', l.drop k') → P.unq n a' (l.drop k') = res) := by
        intro a' k' h
        rw [← HN.out, HX.out, P.unq_ok (by simp) h]
      have herr : Hid (∀ z, P.piece a (x :: l.drop (k + 1)) = .error z → res = .error z) := by
        intro z h
        rw [← HN.out, HX.out, P.unq_error (by simp) h]
      obtain ⟨c, hc⟩ : ∃ c, bt l k = c := ⟨_, rfl⟩
      have HC : Hid (P.iv x = c) := by show P.iv x = c; rw [HB.out, hc]
      by_cases h39 : c = 39
      · -- a single-quoted string
        have e1 : (bt l k == 39) = true := by rw [hc]; simp [h39]
        have H39 := Lib.hid (HC.out.trans h39)
        have hge := Lib.indexByte_ge (l.drop (k + 1)) 39
        have hix := Lib.hid (fun o => Lib.indexByte_some (l := l.drop (k + 1)) (c := 39) (o := o))
        clear hc h39
        have hI := Tryd.strings_IndexByte ⟨(l.drop (k + 1)).toArray⟩ 39
        obtain ⟨i, hi⟩ : ∃ i, Lib.indexByte (l.drop (k + 1)) 39 = i := ⟨_, rfl⟩
        have HII := Lib.hid hi
        rw [hi] at hge
        simp only [show (39 : Int).toNat.toUInt8 = 39 from rfl, hi] at hI
        have HIx := Lib.hid hI
        clear hI hi
        have HD := Lib.hid (cut_end l (k + 1))
        by_cases hneg : i < 0
        · go_wp2_with (go_at_call 32; rw [HD.out]; refine (HIx.out _).mono ?_)
          rintro e w1 ⟨rfl, rfl⟩
          go_wp2
          go_ret2
          exact ⟨strErr_error (herr.out _ (P.piece_sqNone H39.out (by rw [HII.out]; exact hneg))), hbw⟩
        · obtain ⟨m, rfl⟩ : ∃ m : Nat, i = m := ⟨i.toNat, by omega⟩
          have hm2 : m < (l.drop (k + 1)).length := by
            obtain ⟨h1, _⟩ := hix.out m HII.out
            exact (List.getElem?_eq_some_iff.1 h1).1
          have hm3 : k + 1 + m < l.length := by simp at hm2; omega
          have HP := Lib.hid (P.piece_sqSome (a := a) H39.out HII.out)
          have HCt := Lib.hid (show cut l (k + 1) (k + 1 + m) = (l.drop (k + 1)).take m by unfold cut; rw [List.drop_take]; simp)
          have HDr := Lib.hid (show (l.drop (k + 1)).drop (m + 1) = l.drop (k + (m + 2)) by rw [List.drop_drop]; congr 1; omega)
          clear hm2
          go_wp2_with (first | (go_at_call 32; rw [HD.out]; refine (HIx.out _).mono ?_; rintro e w1 ⟨rfl, rfl⟩) | (go_at_call 33; refine (WriteString_k w.heap.size a _ _ hBa (by omega) (by simp; omega)).mono ?_))
          rintro e w1 ⟨rfl, hB1, hk1⟩
          go_wp2
          go_roundw
          case rel =>
            refine ⟨k + (m + 2), n, _, by omega, by omega, by go_num, hB1, hbw.trans hk1.below, by simp; omega, hok.out _ _ ?_⟩
            rw [HP.out, HDr.out, ← HCt.out]
          case measure => simp [intOf]; omega
      have e1 : (bt l k == 39) = false := by rw [hc]; simp [h39]
      by_cases h34 : c = 34
      · have e2 : (bt l k == 34) = true := by rw [hc]; simp [h34]
        have HP := Lib.hid (P.piece_dq (a := a) (r := l.drop (k + 1)) (HC.out.trans h34))
        clear hc h34 h39
        cases hdq : P.dq a (l.drop (k + 1)) with
        | ok p =>
          obtain ⟨a1, r1⟩ := p
          have HQ := Lib.hid hdq
          clear hdq
          go_wp2_with (go_at_call 34; refine (double_any 0 w.heap.size a l (k + 1) _ hBa (by omega) (by omega) (by omega) (by omega)).mono ?_)
          rintro e w1 hpost
          rw [HQ.out] at hpost
          obtain ⟨hk1, hB1, n1, hn1, hn2, hr1, ha1, rfl⟩ := hpost
          have HR1 := Lib.hid hr1
          clear hr1
          go_wp2
          go_roundw
          case rel =>
            refine ⟨n1, n, _, by omega, by omega, rfl, hB1, hbw.trans hk1.below, by omega, hok.out _ _ ?_⟩
            rw [HP.out, HQ.out, HR1.out]
          case measure => simp [intOf]; omega
        | error z =>
          have HQ := Lib.hid hdq
          clear hdq
          have hz := P.dq_error HQ.out
          have hz1 : (z != 0) = true := by simp; omega
          go_wp2_with (go_at_call 34; refine (double_any 0 w.heap.size a l (k + 1) _ hBa (by omega) (by omega) (by omega) (by omega)).mono ?_)
          rintro e w1 hpost
          rw [HQ.out] at hpost
          obtain ⟨hk1, rfl⟩ := hpost
          go_wp2
          go_ret2
          exact ⟨strErr_error (herr.out _ (by rw [HP.out, HQ.out])), hbw.trans hk1.below⟩
      have e2 : (bt l k == 34) = false := by rw [hc]; simp [h34]
      by_cases h92 : c = 92
      · have e3 : (bt l k == 92) = true := by rw [hc]; simp [h92]
        have H92 := Lib.hid (HC.out.trans h92)
        clear hc h34 h39 h92
        by_cases hlast : k + 1 = l.length
        · have e5 : ((k : Int) + 1 == (l.length : Int)) = true := by simp; omega
          have HE := Lib.hid (drop_end l (k + 1) (by omega))
          clear hlast
          go_wp2
          go_ret2
          exact ⟨strErr_error (herr.out _ (by rw [HE.out, P.piece_lone H92.out])), hbw⟩
        · have e5 : ((k : Int) + 1 == (l.length : Int)) = false := by simp; omega
          have hlt2 : k + 1 < l.length := by omega
          obtain ⟨y, hy, hb2, _⟩ := drop_cons l (k + 1) hlt2
          have HX2 := Lib.hid hy
          have HB2 : Hid (P.iv y = bt l (k + 1)) := hb2.symm
          have HY2 := Lib.hid (by8_bt hb2)
          clear hy hb2 hlast
          have HP := Lib.hid (show P.piece a (x :: l.drop (k + 1)) = .ok (if bt l (k + 1) == 10 then a else a ++ [y], l.drop (k + 1 + 1)) by rw [HX2.out, P.piece_esc H92.out, HB2.out])
          cases f5 : (bt l (k + 1) == 10)
          · have f6 : (bt l (k + 1) != 10) = true := by rw [bne, f5]; rfl
            go_wp2_with (go_at_call 35; refine (WriteByte_any w.heap.size a _ _ hBa (by omega) (bt_nonneg _ _) (bt_le _ _)).mono ?_)
            rintro e w1 ⟨rfl, hB1, hk1⟩
            go_wp2
            go_roundw
            case rel =>
              refine ⟨k + 1 + 1, n, _, by omega, by omega, by go_num, hB1, hbw.trans hk1.below, by simp; omega, hok.out _ _ ?_⟩
              rw [HP.out, f5, HY2.out]; rfl
            case measure => simp [intOf]; omega
          · have f6 : (bt l (k + 1) != 10) = false := by rw [bne, f5]; rfl
            go_wp2
            go_roundw
            case rel =>
              refine ⟨k + 1 + 1, n, a, by omega, by omega, by go_num, hBa, hbw, by omega, hok.out _ _ ?_⟩
              rw [HP.out, f5]; rfl
            case measure => simp [intOf]; omega
      have e3 : (bt l k == 92) = false := by rw [hc]; simp [h92]
      cases hst : P.stop c
      · obtain ⟨f1, f2, f3, f4, f5, f6, f7, f8, f9, f10, f11, f12⟩ := stop_false (show P.stop (bt l k) = false by rw [hc]; exact hst)
        have HP := Lib.hid (P.piece_one (a := a) (r := l.drop (k + 1)) (x := x) (by rw [HC.out]; exact hst) (by rw [HC.out]; exact h39) (by rw [HC.out]; exact h34) (by rw [HC.out]; exact h92))
        clear hc h34 h39 h92 hst
        go_wp2_with (go_at_call 35; refine (WriteByte_any w.heap.size a _ _ hBa (by omega) (bt_nonneg _ _) (bt_le _ _)).mono ?_)
        rintro e w1 ⟨rfl, hB1, hk1⟩
        go_wp2
        go_roundw
        case rel =>
          refine ⟨k + 1, n, _, by omega, by omega, by go_num, hB1, hbw.trans hk1.below, by simp; omega, hok.out _ _ ?_⟩
          rw [HP.out, HY.out]
        case measure => simp [intOf]; omega
      · have HP := Lib.hid (P.piece_stop (a := a) (r := l.drop (k + 1)) (x := x) (by rw [HC.out]; exact hst) (by rw [HC.out]; exact h39) (by rw [HC.out]; exact h34) (by rw [HC.out]; exact h92))
        have HS := Lib.hid (show P.stop (bt l k) = true by rw [hc]; exact hst)
        clear hc h34 h39 h92 hst
        go_wp2
        all_goals first
          | (go_ret2; exact ⟨strErr_error (herr.out _ HP.out), hbw⟩)
          | (exfalso; have := HS.out; go_light; simp_all [P.stop, P.bl, P.ob]; done)
    · have HE := Lib.hid (drop_end l k hlt)
      go_wp2_with (go_at_call 36; refine (string_k w.heap.size a _ hBa).mono ?_)
      rintro e w1 ⟨rfl, _, hk1⟩
      go_wp2
      go_ret2
      exact ⟨strErr_ok (by rw [← HN.out, HE.out, P.unq_nil]), hbw.trans hk1.below⟩
end W
end Go.Proofs.YtabhfodjfikdaaaDoor
