/- Chapter 1: the reference's Unquote. -/
import Derived.Test.YtabhfodjfikdaaaDoorW01d
namespace Go.Proofs.YtabhfodjfikdaaaDoor
open Go.RowKit K
namespace W

/-- What the reference's single, double and piece return. -/
def Pc3 (l : List UInt8) (i : Nat) (res : Except Int (List UInt8 × List UInt8)) (e : Ending) : Prop :=
  match res with
  | .ok (a, r) => ∃ n : Nat, i < n ∧ n ≤ l.length ∧ r = l.drop n ∧ a.length ≤ n - i ∧ e = .returned (.tuple #[.string ⟨a.toArray⟩, .int .i64 n, .int .i64 0])
  | .error z => e = .returned (.tuple #[.string ⟨#[]⟩, .int .i64 0, .int .i64 z])
theorem Pc3.mkOk {l : List UInt8} {i n : Nat} {res : Except Int (List UInt8 × List UInt8)} {a : List UInt8} (h1 : i < n) (h2 : n ≤ l.length) (h3 : a.length ≤ n - i) (hr : res = .ok (a, l.drop n)) :
    Pc3 l i res (.returned (.tuple #[.string ⟨a.toArray⟩, .int .i64 n, .int .i64 0])) := by subst hr; exact ⟨n, h1, h2, rfl, h3, rfl⟩
theorem Pc3.mkError {l : List UInt8} {i : Nat} {res : Except Int (List UInt8 × List UInt8)} {z : Int} (hr : res = .error z) :
    Pc3 l i res (.returned (.tuple #[.string ⟨#[]⟩, .int .i64 0, .int .i64 z])) := by subst hr; exact rfl

theorem single_ref (l : List UInt8) (i : Nat) (w : World) (hl : l.length ≤ 10000000) (hi : i < l.length) (x : UInt8) (hx : P.iv x = 39) (hxl : l.drop i = x :: l.drop (i + 1)) :
    Calls Tryd.prog 46 #[.string ⟨l.toArray⟩, .int .i64 i] w fun e w' => Pc3 l i (P.piece [] (l.drop i)) e ∧ w = w' := by
  obtain ⟨res, hres⟩ : ∃ res, P.piece [] (l.drop i) = res := ⟨_, rfl⟩
  have HR := Lib.hid (show P.ofSq (P.sq [] (l.drop (i + 1))) = res by rw [← hres, hxl, P.piece_sq hx])
  rw [hres]
  clear hres hxl hx
  obtain ⟨q, hq⟩ : ∃ q, P.sq [] (l.drop (i + 1)) = q := ⟨_, rfl⟩
  rw [hq] at HR
  have HQ := Lib.hid hq
  clear hq
  go_enter Tryd.func46, Tryd.ntmps46
  go_wp2
  go_loop [7] (fun j => ∃ k : Nat, i + 1 ≤ k ∧ k ≤ l.length ∧ j = .int .i64 k ∧ P.sq (cut l (i + 1) k) (l.drop k) = q) (fun j => l.length - (intOf j).toNat)
  case atStart => exact ⟨i + 1, by omega, by omega, by go_num, by rw [cut_empty]; exact HQ.out⟩
  case round =>
    obtain ⟨k, hik, hk, rfl, hno⟩ := hrel
    have HN := Lib.hid hno
    clear hno
    by_cases hlt : k < l.length
    · obtain ⟨y, hy, hb, _⟩ := drop_cons l k hlt
      have HX := Lib.hid hy
      have HB := Lib.hid hb
      clear hy hb
      have e5 : ((k : Int) == (l.length : Int)) = false := by simp; omega
      by_cases h39 : bt l k = 39
      · have HC := Lib.hid h39
        have e1 : (bt l k != 39) = false := by simp [h39]
        clear h39
        go_wp2
        go_ret3
        refine ⟨Pc3.mkOk (n := k + 1) (by omega) (by omega) (by simp; omega) ?_, rfl⟩
        rw [← HR.out, ← HN.out, HX.out, P.sq_hit (HB.out.symm.trans HC.out)]; rfl
      · have HC := Lib.hid h39
        have e1 : (bt l k != 39) = true := by simp [h39]
        clear h39
        go_wp2
        go_round
        case rel => exact ⟨k + 1, by omega, by omega, by go_num, by rw [← HN.out, HX.out, P.sq_miss (fun e => HC.out (HB.out.trans e)), cut_snoc l (i + 1) k y hik hlt HB.out]⟩
        case measure => simp [intOf]; omega
    · have HE := Lib.hid (drop_end l k hlt)
      have e5 : ((k : Int) == (l.length : Int)) = true := by simp; omega
      go_wp2
      go_ret3
      exact ⟨Pc3.mkError (by rw [← HR.out, ← HN.out, HE.out]; rfl), rfl⟩

set_option maxHeartbeats 1000000 in
theorem double_ref (l : List UInt8) (i : Nat) (w : World) (hl : l.length ≤ 10000000) (hi : i < l.length) (x : UInt8) (hx : P.iv x = 34) (hxl : l.drop i = x :: l.drop (i + 1)) :
    Calls Tryd.prog 47 #[.string ⟨l.toArray⟩, .int .i64 i] w fun e w' => Pc3 l i (P.piece [] (l.drop i)) e ∧ w = w' := by
  obtain ⟨res, hres⟩ : ∃ res, P.piece [] (l.drop i) = res := ⟨_, rfl⟩
  have HR := Lib.hid (show P.dq [] (l.drop (i + 1)) = res by rw [← hres, hxl, P.piece_dq hx])
  rw [hres]
  clear hres hxl hx
  go_enter Tryd.func47, Tryd.ntmps47
  go_wp2
  go_loop [7, 8] (fun o j => ∃ (k : Nat) (a : List UInt8), i + 1 ≤ k ∧ k ≤ l.length ∧ o = .string ⟨a.toArray⟩ ∧ j = .int .i64 k ∧ a.length ≤ k - i ∧ P.dq a (l.drop k) = res) (fun _ j => l.length - (intOf j).toNat)
  case atStart => exact ⟨i + 1, [], by omega, by omega, rfl, by go_num, by simp, HR.out⟩
  case round =>
    obtain ⟨k, a, hik, hk, rfl, rfl, hal, hno⟩ := hrel
    have HN := Lib.hid hno
    clear hno
    by_cases hlt : k < l.length
    · obtain ⟨y, hy, hb, _⟩ := drop_cons l k hlt
      have HX := Lib.hid hy
      have HB : Hid (P.iv y = bt l k) := hb.symm
      have HY := Lib.hid (by8_bt hb)
      clear hy hb
      have e0 : ((k : Int) == (l.length : Int)) = false := by simp; omega
      by_cases h34 : bt l k = 34
      · have HC := Lib.hid h34
        have e1 : (bt l k != 34) = false := by simp [h34]
        clear h34
        go_wp2
        go_ret3
        exact ⟨Pc3.mkOk (n := k + 1) (by omega) (by omega) (by omega) (by rw [← HN.out, HX.out, P.dq_close (HB.out.trans HC.out)]), rfl⟩
      have e1 : (bt l k != 34) = true := by simp [h34]
      by_cases h36 : bt l k = 36 ∨ bt l k = 96
      · have HC := Lib.hid h36
        have h36' : (bt l k == 36) = true ∨ ((bt l k == 36) = false ∧ (bt l k == 96) = true) := by rcases h36 with h | h <;> simp [h]
        clear h36 h34
        rcases h36' with e2 | ⟨e2, e3⟩
        all_goals
          go_wp2
          go_ret3
          exact ⟨Pc3.mkError (by rw [← HN.out, HX.out, P.dq_bad (by rw [HB.out]; exact HC.out)]), rfl⟩
      have e2 : (bt l k == 36) = false := by simp; omega
      have e3 : (bt l k == 96) = false := by simp; omega
      by_cases h92 : bt l k = 92
      · have HC := Lib.hid h92
        have e4 : (bt l k != 92) = false := by simp [h92]
        clear h92 h34 h36
        by_cases hlast : k + 1 = l.length
        · have e5 : ((k : Int) + 1 == (l.length : Int)) = true := by simp; omega
          have HE := Lib.hid (drop_end l (k + 1) (by omega))
          clear hlast
          go_wp2
          go_ret3
          exact ⟨Pc3.mkError (by rw [← HN.out, HX.out, HE.out, P.dq_lone (HB.out.trans HC.out)]), rfl⟩
        · have e5 : ((k : Int) + 1 == (l.length : Int)) = false := by simp; omega
          have hlt2 : k + 1 < l.length := by omega
          obtain ⟨z, hz, hb2, _⟩ := drop_cons l (k + 1) hlt2
          have HX2 := Lib.hid hz
          have HB2 : Hid (P.iv z = bt l (k + 1)) := hb2.symm
          have HY2 := Lib.hid (by8_bt hb2)
          clear hz hb2
          have hstep : Hid (res = P.dq (a ++ P.dqEsc z) (l.drop (k + 2))) := by
            show res = _
            rw [← HN.out, HX.out, HX2.out, P.dq_esc (HB.out.trans HC.out)]
          have hcut1 := Lib.hid (show cut l (k + 1) (k + 2) = [z] by rw [cut_one l (k + 1) hlt2, HY2.out])
          have hcut2 := Lib.hid (show cut l k (k + 2) = [92, z] by rw [cut_two l k hlt2, HY2.out, HC.out]; rfl)
          have hhas : Hid (P.has [36, 96, 34, 92] (bt l (k + 1)) = (P.iv z == 36 || P.iv z == 96 || P.iv z == 34 || P.iv z == 92)) := by
            show P.has [36, 96, 34, 92] (bt l (k + 1)) = _
            rw [HB2.out]
            simp [P.has, P.iv]
            rw [Bool.eq_iff_iff]; simp; omega
          by_cases hh : P.has [36, 96, 34, 92] (bt l (k + 1)) = true
          · have HD := Lib.hid (show P.dqEsc z = [z] by unfold P.dqEsc; rw [← hhas.out, hh]; rfl)
            go_wp2_with (go_at_call 30; refine (Has_any [36, 96, 34, 92] _ _ (by simp)).mono ?_; rintro e w' ⟨rfl, rfl⟩)
            go_round
            case rel => exact ⟨k + 2, _, by omega, by omega, rfl, by go_num, by simp; omega, by rw [hstep.out, HD.out, hcut1.out]⟩
            case measure => simp [intOf]; omega
          · have hh' : P.has [36, 96, 34, 92] (bt l (k + 1)) = false := by simpa using hh
            clear hh
            cases f5 : (bt l (k + 1) == 10)
            · have f6 : (bt l (k + 1) != 10) = true := by rw [bne, f5]; rfl
              have HD := Lib.hid (show P.dqEsc z = [92, z] by unfold P.dqEsc; rw [← hhas.out, hh', HB2.out, f5]; rfl)
              go_wp2_with (go_at_call 30; refine (Has_any [36, 96, 34, 92] _ _ (by simp)).mono ?_; rintro e w' ⟨rfl, rfl⟩)
              go_round
              case rel => exact ⟨k + 2, _, by omega, by omega, rfl, by go_num, by simp; omega, by rw [hstep.out, HD.out, hcut2.out]⟩
              case measure => simp [intOf]; omega
            · have f6 : (bt l (k + 1) != 10) = false := by rw [bne, f5]; rfl
              have HD := Lib.hid (show P.dqEsc z = [] by unfold P.dqEsc; rw [← hhas.out, hh', HB2.out, f5]; rfl)
              go_wp2_with (go_at_call 30; refine (Has_any [36, 96, 34, 92] _ _ (by simp)).mono ?_; rintro e w' ⟨rfl, rfl⟩)
              go_round
              case rel => exact ⟨k + 2, a, by omega, by omega, rfl, by go_num, by omega, by rw [hstep.out, HD.out, List.append_nil]⟩
              case measure => simp [intOf]; omega
      · have e4 : (bt l k != 92) = true := by simp [h92]
        have HO := Lib.hid (show P.dq a (y :: l.drop (k + 1)) = P.dq (a ++ [y]) (l.drop (k + 1)) from P.dq_other (by rw [HB.out]; omega) (by rw [HB.out]; omega) (by rw [HB.out]; omega) (by rw [HB.out]; omega))
        have hcut := Lib.hid (show cut l k (k + 1) = [y] by rw [cut_one l k hlt, HY.out])
        clear h92 h34 h36
        go_wp2
        go_round
        case rel => exact ⟨k + 1, _, by omega, by omega, rfl, by go_num, by simp; omega, by rw [← HN.out, HX.out, HO.out, hcut.out]⟩
        case measure => simp [intOf]; omega
    · have HE := Lib.hid (drop_end l k hlt)
      have e0 : ((k : Int) == (l.length : Int)) = true := by simp; omega
      go_wp2
      go_ret3
      exact ⟨Pc3.mkError (by rw [← HN.out, HE.out]; rfl), rfl⟩

set_option maxHeartbeats 1000000 in
theorem piece_ref (l : List UInt8) (i : Nat) (w : World) (hl : l.length ≤ 10000000) (hi : i < l.length) :
    Calls Tryd.prog 37 #[.string ⟨l.toArray⟩, .int .i64 i] w fun e w' => Pc3 l i (P.piece [] (l.drop i)) e ∧ w = w' := by
  obtain ⟨x, hx, hb, _⟩ := drop_cons l i hi
  have HX := Lib.hid hx
  have HB : Hid (P.iv x = bt l i) := hb.symm
  have HY := Lib.hid (by8_bt hb)
  have hcut := Lib.hid (show cut l i (i + 1) = [x] by rw [cut_one l i hi, HY.out])
  clear hx hb
  by_cases h39 : bt l i = 39
  · have e1 : (bt l i == 39) = true := by simp [h39]
    have hs := fun w => single_ref l i w hl hi x (HB.out.trans h39) HX.out
    have HS := Lib.hid hs
    clear h39 hs
    go_enter Tryd.func37, Tryd.ntmps37
    go_wp2_with (go_at_call 46; refine (HS.out _).mono ?_)
    rintro e w1 ⟨hpost, rfl⟩
    cases hres : P.piece [] (l.drop i) with
    | ok p =>
      obtain ⟨a, r⟩ := p
      rw [hres] at hpost
      have HRES := Lib.hid hres
      clear hres
      obtain ⟨n, hn1, hn2, hr, ha, rfl⟩ := hpost
      have HRR := Lib.hid hr
      clear hr
      go_wp2
      go_ret3
      exact ⟨Pc3.mkOk hn1 hn2 ha (by rw [HRES.out, HRR.out]), rfl⟩
    | error z =>
      rw [hres] at hpost
      have HRES := Lib.hid hres
      clear hres
      obtain rfl := (show e = _ from hpost)
      go_wp2
      go_ret3
      exact ⟨Pc3.mkError HRES.out, rfl⟩
  have e1 : (bt l i == 39) = false := by simp [h39]
  by_cases h34 : bt l i = 34
  · have e2 : (bt l i == 34) = true := by simp [h34]
    have hs := fun w => double_ref l i w hl hi x (HB.out.trans h34) HX.out
    have HS := Lib.hid hs
    clear h39 h34 hs
    go_enter Tryd.func37, Tryd.ntmps37
    go_wp2_with (go_at_call 47; refine (HS.out _).mono ?_)
    rintro e w1 ⟨hpost, rfl⟩
    cases hres : P.piece [] (l.drop i) with
    | ok p =>
      obtain ⟨a, r⟩ := p
      rw [hres] at hpost
      have HRES := Lib.hid hres
      clear hres
      obtain ⟨n, hn1, hn2, hr, ha, rfl⟩ := hpost
      have HRR := Lib.hid hr
      clear hr
      go_wp2
      go_ret3
      exact ⟨Pc3.mkOk hn1 hn2 ha (by rw [HRES.out, HRR.out]), rfl⟩
    | error z =>
      rw [hres] at hpost
      have HRES := Lib.hid hres
      clear hres
      obtain rfl := (show e = _ from hpost)
      go_wp2
      go_ret3
      exact ⟨Pc3.mkError HRES.out, rfl⟩
  have e2 : (bt l i == 34) = false := by simp [h34]
  by_cases h92 : bt l i = 92
  · have e3 : (bt l i == 92) = true := by simp [h92]
    have H92 := Lib.hid (HB.out.trans h92)
    clear h39 h34 h92
    by_cases hlast : i + 1 = l.length
    · have e5 : ((i : Int) + 1 == (l.length : Int)) = true := by simp; omega
      have HE := Lib.hid (drop_end l (i + 1) (by omega))
      have HG := Lib.hid (show P.piece [] (l.drop i) = .error 7 by rw [HX.out, HE.out, P.piece_lone H92.out])
      clear hlast
      go_enter Tryd.func37, Tryd.ntmps37
      go_wp2
      go_ret3
      exact ⟨Pc3.mkError HG.out, rfl⟩
    · have e5 : ((i : Int) + 1 == (l.length : Int)) = false := by simp; omega
      have hlt2 : i + 1 < l.length := by omega
      obtain ⟨y, hy, hb2, _⟩ := drop_cons l (i + 1) hlt2
      have HX2 := Lib.hid hy
      have HB2 : Hid (P.iv y = bt l (i + 1)) := hb2.symm
      have hcut2 := Lib.hid (show cut l (i + 1) (i + 2) = [y] by rw [cut_one l (i + 1) hlt2, by8_bt hb2])
      clear hy hb2 hlast
      have HP := Lib.hid (show P.piece [] (l.drop i) = .ok (if bt l (i + 1) == 10 then [] else [] ++ [y], l.drop (i + 2)) by rw [HX.out, HX2.out, P.piece_esc H92.out, HB2.out])
      cases f5 : (bt l (i + 1) == 10)
      · go_enter Tryd.func37, Tryd.ntmps37
        go_wp2
        go_ret3
        exact ⟨Pc3.mkOk (n := i + 2) (by omega) (by omega) (by simp; omega) (by rw [HP.out, f5, hcut2.out]; rfl), rfl⟩
      · go_enter Tryd.func37, Tryd.ntmps37
        go_wp2
        go_ret3
        exact ⟨Pc3.mkOk (n := i + 2) (a := []) (by omega) (by omega) (by simp) (by rw [HP.out, f5]; rfl), rfl⟩
  have e3 : (bt l i == 92) = false := by simp [h92]
  cases hst : P.stop (bt l i)
  · have HP := Lib.hid (show P.piece [] (l.drop i) = .ok ([] ++ [x], l.drop (i + 1)) by rw [HX.out]; exact P.piece_one (by rw [HB.out]; exact hst) (by rw [HB.out]; exact h39) (by rw [HB.out]; exact h34) (by rw [HB.out]; exact h92))
    obtain ⟨f1, f2, f3, f4, f5, f6, f7, f8, f9, f10, f11, f12⟩ := stop_false hst
    have g1 : P.bl (bt l i) = false := by unfold P.bl; simp [f1, f2]
    have g2 : P.ob (bt l i) = false := by unfold P.ob; simp [f4, f5, f6, f7, f8, f9, f10]
    clear h39 h34 h92 hst f1 f2 f4 f5 f6 f7 f8 f9 f10
    go_enter Tryd.func37, Tryd.ntmps37
    go_wp2_with (first | (go_at_call 48; refine (Blank_any _ _).mono ?_; rintro e w' ⟨rfl, rfl⟩) | (go_at_call 49; refine (OpByte_any _ _).mono ?_; rintro e w' ⟨rfl, rfl⟩))
    go_ret3
    exact ⟨Pc3.mkOk (n := i + 1) (by omega) (by omega) (by simp; omega) (by rw [HP.out, hcut.out]; rfl), rfl⟩
  · have HP := Lib.hid (show P.piece [] (l.drop i) = .error 6 by rw [HX.out]; exact P.piece_stop (by rw [HB.out]; exact hst) (by rw [HB.out]; exact h39) (by rw [HB.out]; exact h34) (by rw [HB.out]; exact h92))
    have HS := Lib.hid hst
    clear h39 h34 h92 hst
    go_enter Tryd.func37, Tryd.ntmps37
    go_wp2_with (first | (go_at_call 48; refine (Blank_any _ _).mono ?_; rintro e w' ⟨rfl, rfl⟩) | (go_at_call 49; refine (OpByte_any _ _).mono ?_; rintro e w' ⟨rfl, rfl⟩))
    all_goals first
      | (go_ret3; exact ⟨Pc3.mkError HP.out, rfl⟩)
      | (exfalso; have := HS.out; go_light; simp_all [P.stop]; done)

theorem Unquote_ref (l : List UInt8) (w : World) (hl : l.length ≤ 10000000) :
    Calls Tryd.prog 20 #[.string ⟨l.toArray⟩] w fun e w' => e = strErr (P.unquote l) ∧ w = w' := by
  obtain ⟨res, hres⟩ : ∃ res, P.unquote l = res := ⟨_, rfl⟩
  rw [hres]
  have HR := Lib.hid hres
  clear hres
  go_enter Tryd.func20, Tryd.ntmps20
  go_wp2
  go_loop [4, 5] (fun o j => ∃ (k n : Nat) (a : List UInt8), k ≤ l.length ∧ l.length ≤ k + n ∧ o = .string ⟨a.toArray⟩ ∧ j = .int .i64 k ∧ a.length ≤ k ∧ P.unq n a (l.drop k) = res) (fun _ j => l.length - (intOf j).toNat)
  case atStart => exact ⟨0, l.length, [], by omega, by omega, rfl, rfl, by simp, HR.out⟩
  case round =>
    obtain ⟨k, n, a, hk, hn, rfl, rfl, hal, hno⟩ := hrel
    have HN := Lib.hid hno
    clear hno
    by_cases hlt : k < l.length
    · have hne := Lib.hid (show l.drop k ≠ [] by intro h; have := congrArg List.length h; simp at this; omega)
      obtain ⟨n, rfl⟩ : ∃ m, n = m + 1 := ⟨n - 1, by omega⟩
      have hpa := Lib.hid (P.piece_acc (l.drop k) a)
      cases hp : P.piece [] (l.drop k) with
      | ok p =>
        obtain ⟨a1, r1⟩ := p
        have HP := Lib.hid hp
        clear hp
        go_wp2_with fail
        refine (piece_ref l k _ hl hlt).mono ?_
        rintro e w1 ⟨hpost, rfl⟩
        rw [HP.out] at hpost
        obtain ⟨n1, hn1, hn2, hr, ha, rfl⟩ := hpost
        have HRR := Lib.hid hr
        clear hr
        go_wp2
        go_round
        case rel =>
          refine ⟨n1, n, _, by omega, by omega, rfl, rfl, by simp; omega, ?_⟩
          rw [← HN.out, P.unq_ok (a := a ++ a1) (r := r1) hne.out (by rw [hpa.out, HP.out]; rfl), HRR.out]
        case measure => simp [intOf]; omega
      | error z =>
        have HP := Lib.hid hp
        clear hp
        have hz := P.piece_error hne.out HP.out
        have hz1 : (z != 0) = true := by simp; omega
        go_wp2_with fail
        refine (piece_ref l k _ hl hlt).mono ?_
        rintro e w1 ⟨hpost, rfl⟩
        rw [HP.out] at hpost
        obtain rfl := (show e = _ from hpost)
        go_wp2
        go_ret2
        exact ⟨strErr_error (by rw [← HN.out, P.unq_error hne.out (by rw [hpa.out, HP.out]; rfl)]), rfl⟩
    · have HE := Lib.hid (drop_end l k hlt)
      go_wp2
      go_ret2
      exact ⟨strErr_ok (by rw [← HN.out, HE.out, P.unq_nil]), rfl⟩
end W
end Go.Proofs.YtabhfodjfikdaaaDoor
