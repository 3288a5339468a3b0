/- Chapter 34: Signal of trap and of its reference. -/
import Derived.Test.YtfigidknocpdaaaDoorW34
namespace Go.Proofs.YtfigidknocpdaaaDoor
open Go.RowKit K
namespace P
theorem trim_sig {s : List UInt8} (h : sig3.isPrefixOf s = true) : Lib.trimPrefix s sig3 = s.drop 3 := by
  unfold Lib.trimPrefix
  rw [if_pos (show Lib.hasPrefix s sig3 = true from h)]
  rfl
theorem zero_false {s : List UInt8} (h : isZero s = false) : (s == [48]) = false ∧ (s == [69, 88, 73, 84]) = false := by
  unfold isZero at h
  simpa using h
end P
namespace W

theorem NumberR_any (s : List UInt8) (w : World) :
    Calls Tryd.prog 35 #[.string ⟨s.toArray⟩] w fun e w' => e = optI (P.number s) ∧ w = w' := by
  obtain ⟨R, hR⟩ : ∃ R, P.number s = R := ⟨_, rfl⟩
  rw [hR]
  have HR := Lib.hid ((P.number_one s).symm.trans hR)
  clear hR
  go_enter Tryd.func35, Tryd.ntmps35
  go_wp2
  go_loop [4] (fun i => ∃ k : Nat, 1 ≤ k ∧ k ≤ 21 ∧ i = .int .i64 k ∧ Hid (P.numAt s (21 - k) k = R)) (fun i => 21 - (intOf i).toNat)
  case atStart => exact ⟨1, by omega, by omega, rfl, HR.out⟩
  case round =>
    obtain ⟨k, hk1, hk, rfl, HN⟩ := hrel
    by_cases hlt : k < 21
    · have g0 : ((k : Int) ≤ 20) = True := eq_true (by omega)
      have HST := Lib.hid (show P.numAt s (21 - k) k = if P.names.getD k [] ≠ [] ∧ (s = P.names.getD k [] ∨ s = Lib.itoa k) then some (k : Int) else P.numAt s (21 - (k + 1)) (k + 1) by rw [show 21 - k = (21 - (k + 1)) + 1 by omega, P.numAt])
      have HIT := Lib.hid (fun w => Itoa_k k w (by omega))
      have HNM := Lib.hid (fun w => NameR_any (k : Int) w)
      rw [P.nameL_at k hlt] at HNM
      generalize P.names.getD k [] = nm at *
      generalize Lib.itoa k = it at *
      by_cases h1 : nm = []
      · subst h1
        have HF := Lib.hid (show P.numAt s (21 - (k + 1)) (k + 1) = R by rw [← HN.out, HST.out, if_neg (by simp)])
        go_wp2_with (go_at_call 34; refine (HNM.out _).mono ?_; rintro e w' ⟨rfl, rfl⟩)
        go_round
        case rel => exact ⟨k + 1, by omega, by omega, by go_num, HF.out⟩
        case measure => simp [intOf]; omega
      · have hne : nm.isEmpty = false := by cases nm; simp at h1; rfl
        by_cases h2 : s = nm
        · subst h2
          have HF := Lib.hid (show R = some (k : Int) by rw [← HN.out, HST.out, if_pos ⟨h1, .inl rfl⟩])
          clear h1
          go_wp2_with (go_at_call 34; refine (HNM.out _).mono ?_; rintro e w' ⟨rfl, rfl⟩)
          go_ret2
          exact ⟨by rw [HF.out]; rfl, rfl⟩
        · have e2 : (s == nm) = false := by simp [h2]
          by_cases h3 : s = it
          · have e3 : (s == it) = true := by simp [h3]
            have HF := Lib.hid (show R = some (k : Int) by rw [← HN.out, HST.out, if_pos ⟨h1, .inr h3⟩])
            clear h1 h2 h3
            go_wp2_with (first | (go_at_call 34; refine (HNM.out _).mono ?_; rintro e w' ⟨rfl, rfl⟩) | (go_at_call 45; refine (HIT.out _).mono ?_; rintro e w' ⟨rfl, rfl⟩))
            go_ret2
            exact ⟨by rw [HF.out]; rfl, rfl⟩
          · have e3 : (s == it) = false := by simp [h3]
            have HF := Lib.hid (show P.numAt s (21 - (k + 1)) (k + 1) = R by rw [← HN.out, HST.out, if_neg (by rintro ⟨_, h | h⟩; exact h2 h; exact h3 h)])
            clear h1 h2 h3
            go_wp2_with (first | (go_at_call 34; refine (HNM.out _).mono ?_; rintro e w' ⟨rfl, rfl⟩) | (go_at_call 45; refine (HIT.out _).mono ?_; rintro e w' ⟨rfl, rfl⟩))
            go_round
            case rel => exact ⟨k + 1, by omega, by omega, by go_num, HF.out⟩
            case measure => simp [intOf]; omega
    · obtain rfl : k = 21 := by omega
      have HF := Lib.hid (show R = none by rw [← HN.out]; rfl)
      go_wp2
      go_ret2
      exact ⟨by rw [HF.out]; rfl, rfl⟩

theorem SignalR_any (s : List UInt8) (w : World) (hl : s.length ≤ 1000000000) :
    Calls Tryd.prog 12 #[.string ⟨s.toArray⟩] w fun e w' => e = optI (P.signalR s) ∧ w = w' := by
  obtain ⟨R, hR⟩ : ∃ R, P.signalR s = R := ⟨_, rfl⟩
  rw [hR]
  have HNU := Lib.hid (fun w => NumberR_any s w)
  cases hz : P.isZero s with
  | true =>
    have HF := Lib.hid (show R = some 0 by rw [← hR]; unfold P.signalR; rw [if_pos hz])
    clear hR
    unfold P.isZero at hz
    by_cases h1 : s = [48]
    · subst h1
      clear hz
      go_enter Tryd.func12, Tryd.ntmps12
      go_wp2
      go_ret2
      exact ⟨by rw [HF.out]; rfl, rfl⟩
    · have h2 : s = [69, 88, 73, 84] := by simpa [h1] using hz
      subst h2
      clear hz h1
      go_enter Tryd.func12, Tryd.ntmps12
      go_wp2
      go_ret2
      exact ⟨by rw [HF.out]; rfl, rfl⟩
  | false =>
    obtain ⟨z1, z2⟩ := P.zero_false hz
    have HR := Lib.hid (show (match P.sigAt s 20 1 with | some n => some n | none => P.number s) = R by rw [← hR]; unfold P.signalR; rw [if_neg (by simp [hz])]; cases P.sigAt s 20 1 <;> rfl)
    obtain ⟨G, hG⟩ : ∃ G, P.sigAt s 20 1 = G := ⟨_, rfl⟩
    rw [hG] at HR
    have HG := Lib.hid hG
    clear hR hz hG
    go_enter Tryd.func12, Tryd.ntmps12
    go_wp2
    go_loop [4] (fun i => ∃ k : Nat, 1 ≤ k ∧ k ≤ 21 ∧ i = .int .i64 k ∧ Hid (P.sigAt s (21 - k) k = G)) (fun i => 21 - (intOf i).toNat)
    case atStart => exact ⟨1, by omega, by omega, rfl, HG.out⟩
    case round =>
      obtain ⟨k, hk1, hk, rfl, HN⟩ := hrel
      by_cases hlt : k < 21
      · have g0 : ((k : Int) ≤ 20) = True := eq_true (by omega)
        have HST := Lib.hid (show P.sigAt s (21 - k) k = if P.names.getD k [] ≠ [] ∧ s = P.sig3 ++ P.names.getD k [] then some (k : Int) else P.sigAt s (21 - (k + 1)) (k + 1) by rw [show 21 - k = (21 - (k + 1)) + 1 by omega, P.sigAt])
        have HNM := Lib.hid (fun w => NameR_any (k : Int) w)
        have hnl := P.nameL_le (k : Int)
        rw [P.nameL_at k hlt] at HNM hnl
        generalize P.names.getD k [] = nm at *
        by_cases h1 : nm = []
        · subst h1
          have HF := Lib.hid (show P.sigAt s (21 - (k + 1)) (k + 1) = G by rw [← HN.out, HST.out, if_neg (by simp)])
          go_wp2_with (go_at_call 34; refine (HNM.out _).mono ?_; rintro e w' ⟨rfl, rfl⟩)
          go_round
          case rel => exact ⟨k + 1, by omega, by omega, by go_num, HF.out⟩
          case measure => simp [intOf]; omega
        · have hne : nm.isEmpty = false := by cases nm; simp at h1; rfl
          by_cases h2 : s = P.sig3 ++ nm
          · have HF := Lib.hid (show R = some (k : Int) by rw [← HR.out, ← HN.out, HST.out, if_pos ⟨h1, h2⟩])
            have e2 : (s == 83 :: 73 :: 71 :: nm) = true := by simp [h2, P.sig3]
            have e2' : (s == [83, 73, 71] ++ nm) = true := by simp [h2, P.sig3]
            clear h1 h2
            go_wp2_with (go_at_call 34; refine (HNM.out _).mono ?_; rintro e w' ⟨rfl, rfl⟩)
            go_ret2
            exact ⟨by rw [HF.out]; rfl, rfl⟩
          · have HF := Lib.hid (show P.sigAt s (21 - (k + 1)) (k + 1) = G by rw [← HN.out, HST.out, if_neg (by rintro ⟨_, h⟩; exact h2 h)])
            have e2 : (s == 83 :: 73 :: 71 :: nm) = false := by simpa [P.sig3] using h2
            have e2' : (s == [83, 73, 71] ++ nm) = false := by simpa [P.sig3] using h2
            clear h1 h2
            go_wp2_with (go_at_call 34; refine (HNM.out _).mono ?_; rintro e w' ⟨rfl, rfl⟩)
            go_round
            case rel => exact ⟨k + 1, by omega, by omega, by go_num, HF.out⟩
            case measure => simp [intOf]; omega
      · obtain rfl : k = 21 := by omega
        have HF := Lib.hid (show R = P.number s by rw [← HR.out, ← HN.out]; rfl)
        go_wp2_with fail
        refine (HNU.out _).mono ?_
        rintro e w1 ⟨rfl, rfl⟩
        unfold optI
        go_wp2
        go_ret2
        exact ⟨by rw [HF.out]; rfl, rfl⟩

theorem Signal_any (s : List UInt8) (w : World) (hw : Env w) :
    Calls Tryd.prog 11 #[.string ⟨s.toArray⟩] w fun e w' => e = optI (P.signal s) ∧ w = w' := by
  obtain ⟨R, hR⟩ : ∃ R, P.signal s = R := ⟨_, rfl⟩
  rw [hR]
  have HNU := Lib.hid (fun s => Number_any s w hw)
  have HNM := Lib.hid (fun n => Name_any n w hw)
  clear hw
  cases hz : P.isZero s with
  | true =>
    have HF := Lib.hid (show R = some 0 by rw [← hR]; unfold P.signal; rw [if_pos hz])
    clear hR
    unfold P.isZero at hz
    by_cases h1 : s = [48]
    · subst h1
      clear hz
      go_enter Tryd.func11, Tryd.ntmps11
      go_wp2
      go_ret2
      exact ⟨by rw [HF.out]; rfl, rfl⟩
    · have h2 : s = [69, 88, 73, 84] := by simpa [h1] using hz
      subst h2
      clear hz h1
      go_enter Tryd.func11, Tryd.ntmps11
      go_wp2
      go_ret2
      exact ⟨by rw [HF.out]; rfl, rfl⟩
  | false =>
    obtain ⟨z1, z2⟩ := P.zero_false hz
    unfold P.signal at hR
    rw [if_neg (by simp [hz])] at hR
    cases hn : P.number s with
    | some n =>
      rw [hn] at hR
      have HF := Lib.hid (show R = some n from hR.symm)
      have HN := Lib.hid hn
      clear hR hn hz
      go_enter Tryd.func11, Tryd.ntmps11
      go_wp2_with fail
      refine (HNU.out _).mono ?_
      rintro e w1 ⟨rfl, rfl⟩
      rw [HN.out]
      simp only [optI, Option.getD_some, Option.isSome_some]
      go_wp2
      go_ret2
      exact ⟨by rw [HF.out]; rfl, rfl⟩
    | none =>
      rw [hn] at hR
      have HN := Lib.hid hn
      simp only at hR
      have HCP := Lib.hid (fun w => Tryd.strings_CutPrefix ⟨s.toArray⟩ ⟨#[83, 73, 71]⟩ w)
      cases hp : P.sig3.isPrefixOf s with
      | false =>
        have HF := Lib.hid (show R = none by rw [← hR, if_neg (by simp [hp])])
        have hp' : Lib.hasPrefix s [83, 73, 71] = false := hp
        have HP := Lib.hid hp'
        clear hR hn hz hp hp'
        go_enter Tryd.func11, Tryd.ntmps11
        go_wp2_with fail
        refine (HNU.out _).mono ?_
        rintro e w1 ⟨rfl, rfl⟩
        rw [HN.out]
        simp only [optI, Option.getD_none, Option.isSome_none]
        go_wp2_with fail
        refine (HCP.out _).mono ?_
        rintro e w1 ⟨rfl, rfl⟩
        simp only [HP.out]
        go_wp2
        go_ret2
        exact ⟨by rw [HF.out]; rfl, rfl⟩
      | true =>
        rw [if_pos hp] at hR
        have hp' : Lib.hasPrefix s [83, 73, 71] = true := hp
        have ht' : Lib.trimPrefix s [83, 73, 71] = s.drop 3 := P.trim_sig hp
        have HP := Lib.hid hp'
        have HT := Lib.hid ht'
        generalize s.drop 3 = t at *
        clear hn hz hp hp' ht'
        cases hm : P.number t with
        | none =>
          have HF := Lib.hid (show R = none by rw [← hR, hm])
          have HM := Lib.hid hm
          clear hR hm
          go_enter Tryd.func11, Tryd.ntmps11
          go_wp2_with fail
          refine (HNU.out _).mono ?_
          rintro e w1 ⟨rfl, rfl⟩
          rw [HN.out]
          simp only [optI, Option.getD_none, Option.isSome_none]
          go_wp2_with fail
          refine (HCP.out _).mono ?_
          rintro e w1 ⟨rfl, rfl⟩
          simp only [HP.out, HT.out]
          go_wp2_with fail
          refine (HNU.out _).mono ?_
          rintro e w1 ⟨rfl, rfl⟩
          rw [HM.out]
          simp only [optI, Option.getD_none, Option.isSome_none]
          go_wp2
          go_ret2
          exact ⟨by rw [HF.out]; rfl, rfl⟩
        | some n =>
          have HF := Lib.hid (show (if P.nameL n = t then some n else none) = R by rw [← hR, hm])
          have HM := Lib.hid hm
          clear hR hm
          cases hq : (P.nameL n == t)
          all_goals
            have HQ := Lib.hid hq
            go_enter Tryd.func11, Tryd.ntmps11
            go_wp2_with fail
            refine (HNU.out _).mono ?_
            rintro e w1 ⟨rfl, rfl⟩
            rw [HN.out]
            simp only [optI, Option.getD_none, Option.isSome_none]
            go_wp2_with fail
            refine (HCP.out _).mono ?_
            rintro e w1 ⟨rfl, rfl⟩
            simp only [HP.out, HT.out]
            go_wp2_with fail
            refine (HNU.out _).mono ?_
            rintro e w1 ⟨rfl, rfl⟩
            rw [HM.out]
            simp only [optI, Option.getD_some, Option.isSome_some]
            go_wp2_with fail
            refine (HNM.out _).mono ?_
            rintro e w1 ⟨rfl, rfl⟩
            go_wp2
            go_ret2
            exact ⟨by rw [← HF.out]; have := HQ.out; simp at this; simp [this, optI], rfl⟩
end W
end Go.Proofs.YtfigidknocpdaaaDoor
