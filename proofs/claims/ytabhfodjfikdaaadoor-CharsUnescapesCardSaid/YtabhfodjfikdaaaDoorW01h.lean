/- Chapter 1: the reference's Unescape. -/
import Derived.Test.YtabhfodjfikdaaaDoorW01g
import Derived.Test.YtabhfodjfikdaaaDoorP01d
import Derived.BigRegion
import Derived.RegionTactic
namespace Go.Proofs.YtabhfodjfikdaaaDoor
open Go.RowKit K
namespace W

theorem begins_ref (l : List UInt8) (i : Nat) (t : List UInt8) (w : World) (hl : l.length ≤ 10000000) (hi : i ≤ l.length) (ht : t.length ≤ 10000000) :
    Calls Tryd.prog 40 #[.string ⟨l.toArray⟩, .int .i64 i, .string ⟨t.toArray⟩] w fun e w' => e = .returned (.tuple #[.bool (P.beg (l.drop i) t).1, .bool (P.beg (l.drop i) t).2]) ∧ Below w.heap.size w w' := by
  obtain ⟨res, hres⟩ : ∃ res, P.beg (l.drop i) t = res := ⟨_, rfl⟩
  rw [hres]
  have HR := Lib.hid hres
  clear hres
  go_enter Tryd.func40, Tryd.ntmps40
  go_wp2
  go_loopw [8] (fun j wr => ∃ k : Nat, k ≤ t.length ∧ j = .int .i64 k ∧ Below w.heap.size w wr ∧ P.beg (l.drop (i + k)) (t.drop k) = res) (fun j _ => t.length - (intOf j).toNat)
  case atStart => exact ⟨0, by omega, rfl, Below.refl _ _, HR.out⟩
  case round =>
    obtain ⟨k, hk, rfl, hbw, hno⟩ := hrel
    have HN := Lib.hid hno
    clear hno
    by_cases hlt : k < t.length
    · obtain ⟨y, hy, hby, _⟩ := drop_cons t k hlt
      have HY := Lib.hid hy
      have HBY := Lib.hid hby
      clear hy hby
      by_cases hend : i + k < l.length
      · obtain ⟨x, hx, hbx, _⟩ := drop_cons l (i + k) hend
        have HX := Lib.hid hx
        have HBX := Lib.hid hbx
        clear hx hbx
        have hg : ¬ ((l.length : Int) ≤ (i : Int) + (k : Int)) := by omega
        have hi0 : (0 : Int) ≤ (i : Int) + (k : Int) := by omega
        have hi1 : (i : Int) + (k : Int) < (l.length : Int) := by omega
        have hwr : IntKind.i64.wrap ((i : Int) + (k : Int)) = (i : Int) + (k : Int) := IntWalk.i64_in _ (by omega)
        have htn : ((i : Int) + (k : Int)).toNat = i + k := by omega
        by_cases hxy : bt l (i + k) = bt t k
        · have HXY := Lib.hid (show x = y by apply UInt8.toNat_inj.1; have h1 := HBX.out; have h2 := HBY.out; omega)
          have e1 : (bt l (i + k) != bt t k) = false := by simp [hxy]
          clear hxy
          go_wp2
          go_region
          all_goals go_wp2
          all_goals
            go_roundw
            case rel => exact ⟨k + 1, by omega, by go_num, by first | exact hbw.drew | exact hbw, by rw [← HN.out, HX.out, HY.out, P.beg, if_pos HXY.out]; rfl⟩
            case measure => simp [intOf]; omega
        · have HXY := Lib.hid (show x ≠ y by intro e; apply hxy; rw [HBX.out, HBY.out, e])
          have e1 : (bt l (i + k) != bt t k) = true := by simp [hxy]
          clear hxy
          go_wp2
          go_region
          all_goals go_wp2
          all_goals
            go_ret2
            exact ⟨by rw [← HN.out, HX.out, HY.out, P.beg, if_neg HXY.out]; rfl, by first | exact hbw.drew | exact hbw⟩
      · have HE := Lib.hid (drop_end l (i + k) hend)
        have hg : (l.length : Int) ≤ (i : Int) + (k : Int) := by omega
        go_wp2
        go_ret2
        exact ⟨by rw [← HN.out, HE.out, HY.out]; rfl, hbw⟩
    · have HE := Lib.hid (drop_end t k hlt)
      go_wp2
      go_ret2
      exact ⟨by rw [← HN.out, HE.out]; cases (l.drop (i + k)) <;> rfl, hbw⟩

set_option maxRecDepth 100000 in
set_option maxHeartbeats 1000000 in
theorem Unescape_ref (l : List UInt8) (w : World) (hl : l.length ≤ 1000000) :
    Calls Tryd.prog 24 #[.string ⟨l.toArray⟩] w fun e w' => e = strErr (P.unescapeR l) ∧ Below w.heap.size w w' := by
  obtain ⟨res, hres⟩ : ∃ res, P.unescapeR l = res := ⟨_, rfl⟩
  rw [hres]
  have HR := Lib.hid hres
  clear hres
  go_enter Tryd.func24, Tryd.ntmps24
  go_wp2
  go_loopw [4, 5] (fun o j wr => ∃ (k n : Nat) (a : List UInt8), k ≤ l.length ∧ l.length ≤ k + n ∧ o = .string ⟨a.toArray⟩ ∧ j = .int .i64 k ∧ Below w.heap.size w wr ∧ a.length ≤ k ∧ P.uneR n a (l.drop k) = res) (fun _ j _ => l.length - (intOf j).toNat)
  case atStart => exact ⟨0, l.length, [], by omega, by omega, rfl, rfl, Below.refl _ _, by simp, HR.out⟩
  case round =>
    obtain ⟨k, n, a, hk, hn, rfl, rfl, hbw, hal, hno⟩ := hrel
    have HN := Lib.hid hno
    clear hno
    by_cases hlt : k < l.length
    · obtain ⟨n, rfl⟩ : ∃ m, n = m + 1 := ⟨n - 1, by omega⟩
      have hne := Lib.hid (show (l.drop k).isEmpty = false by cases h : l.drop k with
        | nil => have := congrArg List.length h; simp at this; omega
        | cons _ _ => rfl)
      obtain ⟨wo, rfl⟩ : ∃ wo : World, wo = wr := ⟨_, rfl⟩
      go_wp2
      go_loopw [6, 7, 8] (fun m b c wr => ∃ q : Nat, q ≤ 256 ∧ c = .int .i64 q ∧ m = .int .i64 (P.scan (l.drop k) q).1 ∧ b = .bool (P.scan (l.drop k) q).2 ∧ Below w.heap.size w wr) (fun _ _ c _ => 256 - (intOf c).toNat)
      case atStart => exact ⟨0, by omega, rfl, rfl, rfl, hbw⟩
      case round =>
        obtain ⟨q, hq, rfl, rfl, rfl, hbw2⟩ := hrel
        by_cases hq2 : q < 256
        · have hE := Lib.hid (fun w => escape_ref (by8 q) w)
          have hE2 := Lib.hid (show P.iv (by8 q) = q from by8_toNat q (by omega) (by omega))
          have hle := P.esc1_le (by8 q)
          have hB := Lib.hid (fun w => begins_ref l k (P.esc1 (by8 q)) w (by omega) (by omega) (by omega))
          have hS1 := Lib.hid (show (P.scan (l.drop k) (q + 1)).1 = if (P.beg (l.drop k) (P.esc1 (by8 q))).1 then (q : Int) else (P.scan (l.drop k) q).1 from rfl)
          have hS2 := Lib.hid (show (P.scan (l.drop k) (q + 1)).2 = ((P.scan (l.drop k) q).2 || (P.beg (l.drop k) (P.esc1 (by8 q))).2) from rfl)
          generalize P.scan (l.drop k) q = S at *
          generalize P.beg (l.drop k) (P.esc1 (by8 q)) = G at *
          obtain ⟨s1, s2⟩ := S
          obtain ⟨g1, g2⟩ := G
          simp only at hS1 hS2
          go_wp2_with fail
          have hE' := hE.out
          rw [hE2.out] at hE'
          refine (hE' _).mono ?_
          rintro e w1 ⟨rfl, hb1⟩
          clear hE'
          go_wp2_with fail
          refine (hB.out _).mono ?_
          rintro e w2 ⟨rfl, hb2⟩
          cases g1 <;> cases s2
          all_goals
            go_wp2
            go_roundw
            case rel => exact ⟨q + 1, by omega, by go_num, by rw [hS1.out]; rfl, by rw [hS2.out]; first | rfl | simp, (hbw2.trans (hb1.mono hbw2.size)).trans (hb2.mono (Nat.le_trans hbw2.size hb1.size))⟩
            case measure => simp [intOf]; omega
        · have hq3 : q = 256 := by omega
          subst hq3
          have hrg := P.scan_range (l.drop k)
          have hfin := Lib.hid (show P.uneR (n + 1) a (l.drop k) = if (P.scan (l.drop k) 256).1 < 0 then (if (P.scan (l.drop k) 256).2 then .error 28 else .error 6) else P.uneR n (a ++ [by8 (P.scan (l.drop k) 256).1]) ((l.drop k).drop (P.esc1 (by8 (P.scan (l.drop k) 256).1)).length) by rw [P.uneR, hne.out]; rfl)
          have hdl := Lib.hid (P.scan_len (l.drop k))
          generalize P.scan (l.drop k) 256 = S at *
          obtain ⟨s1, s2⟩ := S
          simp only at hrg hfin hdl
          by_cases hneg : s1 < 0
          · cases s2
            · have HF := Lib.hid (show res = .error 6 by rw [← HN.out, hfin.out, if_pos hneg]; rfl)
              go_wp2
              go_ret2
              exact ⟨strErr_error HF.out, hbw2⟩
            · have HF := Lib.hid (show res = .error 28 by rw [← HN.out, hfin.out, if_pos hneg]; rfl)
              go_wp2
              go_ret2
              exact ⟨strErr_error HF.out, hbw2⟩
          · have hs0 : 0 ≤ s1 := by omega
            have hs1 : s1 ≤ 255 := by omega
            have hE := Lib.hid (fun w => escape_ref (by8 s1) w)
            have hE2 := Lib.hid (show P.iv (by8 s1) = s1 from by8_toNat s1 hs0 hs1)
            have hle := P.esc1_le (by8 s1)
            have hps := P.esc1_pos (by8 s1)
            have hdl2 := hdl.out hs0
            simp only [List.length_drop] at hdl2
            have hob := one_byte wr s1 hs0 hs1
            have HF := Lib.hid (show P.uneR n (a ++ [by8 s1]) (l.drop (k + (P.esc1 (by8 s1)).length)) = res by rw [← HN.out, hfin.out, if_neg hneg, List.drop_drop])
            clear hdl
            go_wp2_with fail
            have hE' := hE.out
            rw [hE2.out] at hE'
            refine (hE' _).mono ?_
            rintro e w1 ⟨rfl, hb1⟩
            clear hE'
            go_wp2
            go_roundw
            case rel =>
              refine ⟨k + (P.esc1 (by8 s1)).length, n, _, by omega, by omega, rfl, by go_num, ?_, by simp; omega, HF.out⟩
              exact (hbw2.alloc hbw2.size _).trans (hb1.mono (by have := hbw2.size; simp; omega))
            case measure => simp [intOf]; omega
    · have HE := Lib.hid (drop_end l k hlt)
      go_wp2
      go_ret2
      exact ⟨strErr_ok (by rw [← HN.out, HE.out, P.uneR_nil]), hbw⟩
end W
end Go.Proofs.YtabhfodjfikdaaaDoor
