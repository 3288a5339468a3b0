/- Chapter 1: Quote and Unquote, of chars and of its reference. -/
import Derived.Test.YtabhfodjfikdaaaDoorW01b
import Derived.Test.YtabhfodjfikdaaaDoorP01b
namespace Go.Proofs.YtabhfodjfikdaaaDoor
open Go.RowKit K
namespace W

/-- The library's variable MaxLen holds some integer. -/
def Env (w : World) : Prop := ∃ m, w.cell? ⟨0, 0, none⟩ = some (.int .i64 m)
theorem Env.lt {w : World} (h : Env w) : 0 < w.heap.size := by
  obtain ⟨m, h⟩ := h
  rcases Nat.lt_or_ge 0 w.heap.size with h' | h'
  · exact h'
  · simp [World.cell?, Array.getElem?_eq_none h'] at h
theorem Env.below {w w' : World} (h : Env w) (hb : Below w.heap.size w w') : Env w' := by
  have hlt := h.lt
  obtain ⟨m, h⟩ := h
  exact ⟨m, (hb.cell (p := ⟨0, 0, none⟩) hlt).trans h⟩

theorem btr {a b c : World} (h : Below a.heap.size a b) (k : Below b.heap.size b c) : Below a.heap.size a c := h.trans (k.mono h.size)

theorem Quote_ref (l : List UInt8) (w : World) (hl : l.length ≤ 100000000) :
    Calls Tryd.prog 18 #[.string ⟨l.toArray⟩] w fun e w' => e = .returned (.string ⟨(P.quote l).toArray⟩) ∧ w = w' := by
  by_cases hp : P.plainB l = true
  · have HG := Lib.hid (show P.quote l = l by simp [P.quote, hp])
    go_enter Tryd.func18, Tryd.ntmps18
    go_wp2_with (go_at_call 16; refine (Plain_ref _ _ (by omega)).mono ?_; rintro e w' ⟨rfl, rfl⟩)
    go_ret
    exact ⟨ret_str HG.out.symm, rfl⟩
  · have hp' : P.plainB l = false := by simpa using hp
    clear hp
    have HG := Lib.hid (show P.quote l = 39 :: (P.quoteBody l ++ [39]) by simp [P.quote, hp'])
    go_enter Tryd.func18, Tryd.ntmps18
    go_wp2_with (go_at_call 16; refine (Plain_ref _ _ (by omega)).mono ?_; rintro e w' ⟨rfl, rfl⟩)
    go_loop [3, 4] (fun o i => ∃ (k : Nat) (q : List UInt8), k ≤ l.length ∧ i = .int .i64 k ∧ o = .string ⟨q.toArray⟩ ∧ q.length ≤ 4 * k + 1 ∧ q ++ P.quoteBody (l.drop k) = 39 :: P.quoteBody l) (fun _ i => l.length - (intOf i).toNat)
    case atStart => exact ⟨0, [39], by omega, rfl, rfl, by simp, by simp⟩
    case round =>
      obtain ⟨k, q, hk, rfl, rfl, hq, hno⟩ := hrel
      have HN := Lib.hid hno
      clear hno
      by_cases hlt : k < l.length
      · obtain ⟨x, hx, hb, _⟩ := drop_cons l k hlt
        have HX := Lib.hid hx
        have HB := Lib.hid hb
        clear hx hb
        have HC := Lib.hid (cut_one l k hlt)
        go_wp2
        · rename_i h
          go_round
          case rel =>
            refine ⟨k + 1, q ++ [39, 92, 39, 39], by omega, by go_num, rfl, by simp; omega, ?_⟩
            rw [← HN.out, HX.out, P.quoteBody, show P.iv x = bt l k from HB.out.symm, h]; simp
          case measure => simp [intOf]; omega
        · rename_i h
          go_round
          case rel =>
            refine ⟨k + 1, q ++ cut l k (k + 1), by omega, by go_num, rfl, by simp; omega, ?_⟩
            rw [← HN.out, HX.out, P.quoteBody, show P.iv x = bt l k from HB.out.symm, h, HC.out, by8_bt HB.out]; simp
          case measure => simp [intOf]; omega
      · have HE := Lib.hid (drop_end l k hlt)
        go_wp2
        go_ret
        exact ⟨ret_str (by rw [HG.out, ← List.cons_append, ← HN.out, HE.out]; simp [P.quoteBody]), rfl⟩

theorem Quote_any (l : List UInt8) (w : World) (hl : l.length ≤ 100000000) (hw : Env w) :
    Calls Tryd.prog 17 #[.string ⟨l.toArray⟩] w fun e w' => e = .returned (.string ⟨(P.quote l).toArray⟩) ∧ Below w.heap.size w w' := by
  by_cases hp : P.plainB l = true
  · have HG := Lib.hid (show P.quote l = l by simp [P.quote, hp])
    go_enter Tryd.func17, Tryd.ntmps17
    go_wp2_with (go_at_call 15; refine (Plain_any _ _ (by omega)).mono ?_)
    rintro e w1 ⟨rfl, hb1⟩
    go_wp2
    go_ret
    exact ⟨ret_str HG.out.symm, hb1⟩
  · have hp' : P.plainB l = false := by simpa using hp
    clear hp
    have HG := Lib.hid (show P.quote l = 39 :: (P.quoteBody l ++ [39]) by simp [P.quote, hp'])
    go_enter Tryd.func17, Tryd.ntmps17
    go_wp2_with (go_at_call 15; refine (Plain_any _ _ (by omega)).mono ?_)
    rintro e w1 ⟨rfl, hb1⟩
    have hw1 := hw.below hb1
    obtain ⟨m, hm⟩ := hw1
    have hsz : (ByteArray.mk l.toArray).size = l.length := by simp [ByteArray.size]
    have hcb := Lib.countB_le ⟨#[39]⟩ (by decide) _ ⟨l.toArray⟩ (Nat.le_refl _)
    have hra : Calls Tryd.prog 31 #[.string ⟨l.toArray⟩, .string ⟨#[39]⟩, .string ⟨#[39, 92, 39, 39]⟩] w1 fun e w' => e = .returned (.string ⟨(P.quoteBody l).toArray⟩) ∧ Below w1.heap.size w1 w' := by
      have := Tryd.strings_ReplaceAll ⟨l.toArray⟩ ⟨#[39]⟩ ⟨#[39, 92, 39, 39]⟩ m w1 (by omega) hm (by decide) (by
        show _ + _ * 4 ≤ _
        omega)
      rw [show (ByteArray.mk l.toArray).data.toList = l by simp] at this
      rw [show Lib.replaceAll l (ByteArray.mk #[39]).data.toList (ByteArray.mk #[39, 92, 39, 39]).data.toList = P.quoteBody l from P.replaceAll_quote l] at this
      exact this
    have HR := Lib.hid hra
    have hql := P.quoteBody_le l
    clear hra hcb hsz hm
    go_wp2_with (go_at_call 31; refine HR.out.mono ?_)
    rintro e w2 ⟨rfl, hb2⟩
    go_wp2
    go_ret
    exact ⟨ret_str (by rw [HG.out]), hb1.trans (hb2.mono hb1.size)⟩

/-! ### Unquote -/
/-- What chars.double leaves: the builder holds the contents, and the place behind the closing quote is returned; or the error. -/
def DblPost (M b : Nat) (l : List UInt8) (i : Nat) (w : World) (res : Except Int (List UInt8 × List UInt8)) (e : Ending) (w' : World) : Prop :=
  Bkept b w w' ∧ match res with
    | .ok (a, r) => Bld b a w' ∧ ∃ n : Nat, i < n ∧ n ≤ l.length ∧ r = l.drop n ∧ a.length ≤ n + M ∧ e = .returned (.tuple #[.int .i64 n, .int .i64 0])
    | .error z => e = .returned (.tuple #[.int .i64 0, .int .i64 z])
theorem DblPost.mkOk {M b : Nat} {l : List UInt8} {i n : Nat} {w w' : World} {res : Except Int (List UInt8 × List UInt8)} {a : List UInt8} (hk : Bkept b w w') (hb : Bld b a w') (h1 : i < n) (h2 : n ≤ l.length) (h3 : a.length ≤ n + M) (hr : res = .ok (a, l.drop n)) :
    DblPost M b l i w res (.returned (.tuple #[.int .i64 n, .int .i64 0])) w' := by subst hr; exact ⟨hk, hb, n, h1, h2, rfl, h3, rfl⟩
theorem DblPost.mkError {M b : Nat} {l : List UInt8} {i : Nat} {w w' : World} {res : Except Int (List UInt8 × List UInt8)} {z : Int} (hk : Bkept b w w') (hr : res = .error z) :
    DblPost M b l i w res (.returned (.tuple #[.int .i64 0, .int .i64 z])) w' := by subst hr; exact ⟨hk, rfl⟩

set_option maxRecDepth 100000 in
set_option maxHeartbeats 1000000 in
theorem double_any (M b : Nat) (acc l : List UInt8) (i : Nat) (w : World) (hB : Bld b acc w) (hl : l.length ≤ 100000000) (hi : i ≤ l.length) (hM : M ≤ 100000000) (ha : acc.length ≤ i + M) :
    Calls Tryd.prog 34 #[.pointer (some ⟨b, 0, none⟩), .string ⟨l.toArray⟩, .int .i64 i] w (DblPost M b l i w (P.dq acc (l.drop i))) := by
  obtain ⟨res, hres⟩ : ∃ res, P.dq acc (l.drop i) = res := ⟨_, rfl⟩
  rw [hres]
  have HR := Lib.hid hres
  clear hres
  go_enter Tryd.func34, Tryd.ntmps34
  go_wp2
  go_loopw [2] (fun j wr => ∃ (k : Nat) (a : List UInt8), i ≤ k ∧ k ≤ l.length ∧ j = .int .i64 k ∧ Bld b a wr ∧ Bkept b w wr ∧ a.length ≤ k + M ∧ P.dq a (l.drop k) = res) (fun j _ => l.length - (intOf j).toNat)
  case atStart => exact ⟨i, acc, Nat.le_refl _, hi, rfl, hB, Bkept.refl _ _, ha, HR.out⟩
  case round =>
    obtain ⟨k, a, hik, hk, rfl, hBa, hkw, hal, hno⟩ := hrel
    have HN := Lib.hid hno
    clear hno
    by_cases hlt : k < l.length
    · obtain ⟨x, hx, hb, _⟩ := drop_cons l k hlt
      have HX := Lib.hid hx
      have HB : Hid (P.iv x = bt l k) := hb.symm
      have HY := Lib.hid (by8_bt hb)
      clear hx hb
      by_cases h34 : bt l k = 34
      · have HC := Lib.hid h34
        have e1 : (bt l k == 34) = true := by simp [h34]
        clear h34
        go_wp2
        go_ret2
        exact DblPost.mkOk (n := k + 1) hkw hBa (by omega) (by omega) (by omega) (by rw [← HN.out, HX.out, P.dq_close (HB.out.trans HC.out)])
      have e1 : (bt l k == 34) = false := by simpa using h34
      by_cases h36 : bt l k = 36 ∨ bt l k = 96
      · have HC := Lib.hid h36
        rcases h36 with h | h
        · have e2 : (bt l k == 36) = true := by simp [h]
          clear h
          go_wp2
          go_ret2
          exact DblPost.mkError hkw (by rw [← HN.out, HX.out, P.dq_bad (by rw [HB.out]; exact HC.out)])
        · have e2 : (bt l k == 36) = false := by simp [h]
          have e3 : (bt l k == 96) = true := by simp [h]
          clear h
          go_wp2
          go_ret2
          exact DblPost.mkError hkw (by rw [← HN.out, HX.out, P.dq_bad (by rw [HB.out]; exact HC.out)])
      have e2 : (bt l k == 36) = false := by simp; omega
      have e3 : (bt l k == 96) = false := by simp; omega
      by_cases h92 : bt l k = 92
      · have HC := Lib.hid h92
        have e4 : (bt l k == 92) = true := by simp [h92]
        clear h92 h34 h36
        by_cases hlast : k + 1 = l.length
        · have e5 : ((k : Int) + 1 == (l.length : Int)) = true := by simp; omega
          have HE := Lib.hid (drop_end l (k + 1) (by omega))
          clear hlast
          go_wp2
          go_ret2
          exact DblPost.mkError hkw (by rw [← HN.out, HX.out, HE.out, P.dq_lone (HB.out.trans HC.out)])
        · have e5 : ((k : Int) + 1 == (l.length : Int)) = false := by simp; omega
          have hlt2 : k + 1 < l.length := by omega
          obtain ⟨y, hy, hb2, _⟩ := drop_cons l (k + 1) hlt2
          have HX2 := Lib.hid hy
          have HB2 : Hid (P.iv y = bt l (k + 1)) := hb2.symm
          have HY2 := Lib.hid (by8_bt hb2)
          clear hy hb2
          obtain ⟨d, hd⟩ : ∃ d, bt l (k + 1) = d := ⟨_, rfl⟩
          have hstep : Hid (res = P.dq (a ++ P.dqEsc y) (l.drop (k + 1 + 1))) := by
            show res = _
            rw [← HN.out, HX.out, HX2.out, P.dq_esc (HB.out.trans HC.out)]
          by_cases hs : d = 36 ∨ d = 96 ∨ d = 34 ∨ d = 92
          · have HD := Lib.hid (show P.dqEsc y = [y] by unfold P.dqEsc; rw [HB2.out, hd]; rcases hs with h | h | h | h <;> simp [h])
            have hs2 : (bt l (k + 1) == 36) = true ∨ ((bt l (k + 1) == 36) = false ∧ (bt l (k + 1) == 96) = true) ∨ ((bt l (k + 1) == 36) = false ∧ (bt l (k + 1) == 96) = false ∧ (bt l (k + 1) == 34) = true) ∨ ((bt l (k + 1) == 36) = false ∧ (bt l (k + 1) == 96) = false ∧ (bt l (k + 1) == 34) = false ∧ (bt l (k + 1) == 92) = true) := by
              rw [hd]; rcases hs with h | h | h | h <;> simp [h]
            clear hs hd
            rcases hs2 with f1 | ⟨f1, f2⟩ | ⟨f1, f2, f3⟩ | ⟨f1, f2, f3, f4⟩
            all_goals
              go_wp2_with (go_at_call 35; refine (WriteByte_any b a _ _ hBa (by omega) (bt_nonneg _ _) (bt_le _ _)).mono ?_)
              rintro e w1 ⟨rfl, hB1, hk1⟩
              go_wp2
              go_roundw
              case rel => exact ⟨k + 1 + 1, _, by omega, by omega, by go_num, hB1, hkw.trans hk1, by simp; omega, by rw [hstep.out, HD.out, HY2.out]⟩
              case measure => simp [intOf]; omega
          · have hs' : d ≠ 36 ∧ d ≠ 96 ∧ d ≠ 34 ∧ d ≠ 92 := by omega
            have f1 : (bt l (k + 1) == 36) = false := by rw [hd]; simp; omega
            have f2 : (bt l (k + 1) == 96) = false := by rw [hd]; simp; omega
            have f3 : (bt l (k + 1) == 34) = false := by rw [hd]; simp; omega
            have f4 : (bt l (k + 1) == 92) = false := by rw [hd]; simp; omega
            by_cases h10 : d = 10
            · have HD := Lib.hid (show P.dqEsc y = [] by unfold P.dqEsc; rw [HB2.out, hd]; simp [h10])
              have f5 : (bt l (k + 1) == 10) = true := by rw [hd]; simp [h10]
              clear hs hs' hd h10
              go_wp2
              go_roundw
              case rel => exact ⟨k + 1 + 1, a, by omega, by omega, by go_num, hBa, hkw, by omega, by rw [hstep.out, HD.out, List.append_nil]⟩
              case measure => simp [intOf]; omega
            · have f5 : (bt l (k + 1) == 10) = false := by rw [hd]; simp [h10]
              have HD := Lib.hid (show P.dqEsc y = [92, y] by unfold P.dqEsc; rw [HB2.out, hd]; simp [h10, hs'])
              have HO := Lib.hid (show P.dq (a ++ [92]) (y :: l.drop (k + 1 + 1)) = P.dq (a ++ [92] ++ [y]) (l.drop (k + 1 + 1)) from P.dq_other (by rw [HB2.out, hd]; omega) (by rw [HB2.out, hd]; omega) (by rw [HB2.out, hd]; omega) (by rw [HB2.out, hd]; omega))
              have H92 := Lib.hid (show by8 (bt l k) = 92 by rw [HC.out]; rfl)
              clear hs hs' hd h10
              go_wp2_with (go_at_call 35; refine (WriteByte_any b a _ _ hBa (by omega) (bt_nonneg _ _) (bt_le _ _)).mono ?_)
              rintro e w1 ⟨rfl, hB1, hk1⟩
              go_wp2
              go_roundw
              case rel => exact ⟨k + 1, _, by omega, by omega, by go_num, hB1, hkw.trans hk1, by simp; omega, by rw [hstep.out, HD.out, H92.out, HX2.out, HO.out]; simp⟩
              case measure => simp [intOf]; omega
      · have e4 : (bt l k == 92) = false := by simpa using h92
        have HO := Lib.hid (show P.dq a (x :: l.drop (k + 1)) = P.dq (a ++ [x]) (l.drop (k + 1)) from P.dq_other (by rw [HB.out]; omega) (by rw [HB.out]; omega) (by rw [HB.out]; omega) (by rw [HB.out]; omega))
        clear h92 h34 h36
        go_wp2_with (go_at_call 35; refine (WriteByte_any b a _ _ hBa (by omega) (bt_nonneg _ _) (bt_le _ _)).mono ?_)
        rintro e w1 ⟨rfl, hB1, hk1⟩
        go_wp2
        go_roundw
        case rel => exact ⟨k + 1, _, by omega, by omega, by go_num, hB1, hkw.trans hk1, by simp; omega, by rw [← HN.out, HX.out, HO.out, HY.out]⟩
        case measure => simp [intOf]; omega
    · have HE := Lib.hid (drop_end l k hlt)
      go_wp2
      go_ret2
      exact DblPost.mkError hkw (by rw [← HN.out, HE.out]; rfl)
end W
end Go.Proofs.YtabhfodjfikdaaaDoor
