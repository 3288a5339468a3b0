/- Chapter 7: command, construct, Close. -/
import Derived.Test.YtcbdhheelddgeaaGreatDoorW07c
namespace Go.Proofs.YtcbdhheelddgeaaGreatDoor
open Go.RowKit K
namespace W
set_option maxRecDepth 100000 in
set_option maxHeartbeats 1000000 in
theorem lx_cmd {f : Nat} (ih : ∀ g, g ≤ f → LexC g) (s : List UInt8) (a : Nat) (w : World) (k : Nat) (x : Int) (hl : s.length ≤ 100000) (ha : a + 2 ≤ s.length) (hf : 3 * (s.length - (a + 2)) + 3 ≤ f + 1) (hr : LX.cmd (f + 1) s a (a + 2) 0 true = (k, x)) :
    Calls Tryz.prog 64 #[.string ⟨s.toArray⟩, .int .i64 a] w (Pair w k x) := by
  have IH := Lib.hid ih
  have HF := Lib.hid hf
  have HR := Lib.hid hr
  clear ih hf hr
  go_enter Tryz.func64, Tryz.ntmps64
  go_wp2
  go_loopw [6, 7, 8] (fun n b v wr => ∃ (i g m : Nat) (c : Bool), v = .int .i64 i ∧ n = .int .i64 m ∧ b = .bool c ∧ m ≤ i ∧ a < i ∧ i ≤ s.length ∧ Hid (g ≤ f + 1 ∧ 3 * (s.length - i) + 3 ≤ g ∧ LX.cmd g s a i m c = (k, x)) ∧ Hid (Below w.heap.size w wr)) (fun _ _ v _ => s.length - (intOf v).toNat)
  case atStart => exact ⟨a + 2, f + 1, 0, true, by go_num, rfl, rfl, by omega, by omega, by omega, ⟨Nat.le_refl _, HF.out, HR.out⟩, Below.refl _ _⟩
  case round =>
    obtain ⟨i, g, m, c, rfl, rfl, rfl, hm, hi1, hi2, HG, HB⟩ := hrel
    obtain ⟨g, rfl⟩ : ∃ g', g = g' + 1 := ⟨g - 1, by have := HG.out; omega⟩
    have HE := HG.out.2.2
    rw [LX.cmd] at HE
    by_cases hlt : i < s.length
    · rw [if_pos hlt] at HE
      have HJ := Lib.hid (lx_joins s i wr (by omega) hl)
      by_cases hj : LX.joins s i = true
      · rw [if_pos hj] at HE
        have hj2 := (LX.joins_iff.1 hj).2.2
        rw [hj] at HJ
        replace HE := Lib.hid HE
        clear hj
        go_wp2_with (go_at_call 56; refine HJ.out.mono ?_; rintro e w' ⟨rfl, rfl⟩)
        go_roundw
        case rel => exact ⟨i + 2, g, m, c, by go_num, rfl, rfl, by omega, by omega, by omega, ⟨by have := HG.out; omega, by have := HG.out; omega, HE.out⟩, HB⟩
        case measure => simp [intOf]; omega
      rw [if_neg hj] at HE
      obtain hj : LX.joins s i = false := by cases h : LX.joins s i; rfl; exact absurd h hj
      rw [hj] at HJ
      clear hj
      by_cases h35 : bt s i = 35 ∧ c = true
      · rw [if_pos h35] at HE
        obtain ⟨h35, rfl⟩ := h35
        have HCM := Lib.hid (lx_comment s i wr (by omega) hl)
        have hc1 := LX.comment_lt hlt (by rw [h35]; decide)
        have hc2 := LX.comment_le s i
        generalize LX.comment s i = j at HE HCM hc1 hc2
        replace HE := Lib.hid HE
        go_wp2_with (first | (go_at_call 56; refine HJ.out.mono ?_; rintro e w' ⟨rfl, rfl⟩) | (go_at_call 57; refine HCM.out.mono ?_; rintro e w' ⟨rfl, rfl⟩))
        go_roundw
        case rel => exact ⟨j, g, m, true, rfl, rfl, rfl, by omega, by omega, hc2, ⟨by have := HG.out; omega, by have := HG.out; omega, HE.out⟩, HB⟩
        case measure => simp [intOf]; omega
      rw [if_neg h35] at HE
      have HBG := Lib.hid (lx_begins s i wr hlt hl)
      by_cases hb : LX.begins s i = true
      · rw [if_pos hb] at HE
        obtain ⟨j, y, hj⟩ : ∃ j y, LX.con g s i false false = (j, y) := ⟨_, _, rfl⟩
        have HC := Lib.hid ((IH.out g (by have := HG.out; omega)).con s i false false wr j y hl hlt hb (by have := HG.out; omega) hj)
        have HGD := (LX.good_all g).con s i false false hlt hb
        rw [hj] at HE HGD
        obtain ⟨hj1, hj2, hj3⟩ := HGD
        (try dsimp only at hj1 hj2 hj3)
        clear hj
        rw [hb] at HBG
        replace HE := Lib.hid HE
        have HN := Lib.hid h35
        clear hb h35
        by_cases h35' : bt s i = 35
        · obtain rfl : c = false := by cases c; rfl; exact absurd ⟨h35', rfl⟩ HN.out
          go_wp2_with (first | (go_at_call 56; refine HJ.out.mono ?_; rintro e w' ⟨rfl, rfl⟩) | (go_at_call 28; refine HBG.out.mono ?_; rintro e w' ⟨rfl, rfl⟩))
          refine HC.out.mono ?_
          rintro e1 w1 ⟨rfl, hb1⟩
          have HB1 := Lib.hid (btr HB.out hb1)
          clear hb1
          rcases hj3 with rfl | rfl | rfl
          · have hj4 := hj2 rfl
            clear hj2
            go_wp2
            go_roundw
            case rel => exact ⟨j, g, m, false, rfl, rfl, rfl, by omega, by omega, hj1, ⟨by have := HG.out; omega, by have := HG.out; omega, HE.out⟩, HB1⟩
            case measure => simp [intOf]; omega
          all_goals
            clear hj2
            go_wp2
            go_ret2
            exact ⟨ret_two (fst_of HE.out) (snd_of HE.out), HB1.out⟩
        · have e35 := beq_f h35'
          go_wp2_with (first | (go_at_call 56; refine HJ.out.mono ?_; rintro e w' ⟨rfl, rfl⟩) | (go_at_call 28; refine HBG.out.mono ?_; rintro e w' ⟨rfl, rfl⟩))
          refine HC.out.mono ?_
          rintro e1 w1 ⟨rfl, hb1⟩
          have HB1 := Lib.hid (btr HB.out hb1)
          clear hb1
          rcases hj3 with rfl | rfl | rfl
          · have hj4 := hj2 rfl
            clear hj2
            go_wp2
            go_roundw
            case rel => exact ⟨j, g, m, false, rfl, rfl, rfl, by omega, by omega, hj1, ⟨by have := HG.out; omega, by have := HG.out; omega, HE.out⟩, HB1⟩
            case measure => simp [intOf]; omega
          all_goals
            clear hj2
            go_wp2
            go_ret2
            exact ⟨ret_two (fst_of HE.out) (snd_of HE.out), HB1.out⟩
      rw [if_neg hb] at HE
      obtain hb : LX.begins s i = false := by cases h : LX.begins s i; rfl; exact absurd h hb
      rw [hb] at HBG
      clear hb
      have HDV := Lib.hid (lx_divides (bt s i) wr)
      have HN := Lib.hid h35
      clear h35
      have h35' : (bt s i = 35 ∧ c = false) ∨ ¬ bt s i = 35 := by
        by_cases h : bt s i = 35
        · exact .inl ⟨h, by cases c; rfl; exact absurd ⟨h, rfl⟩ HN.out⟩
        · exact .inr h
      have HDD := Lib.hid (show ∃ b, LX.divides (bt s i) = b from ⟨_, rfl⟩)
      by_cases h40 : bt s i = 40
      · rw [if_pos h40] at HE
        obtain ⟨b, hbd⟩ := HDD.out
        rw [hbd] at HE HDV
        replace HE := Lib.hid HE
        clear h35' hbd
        go_wp2_with (first | (go_at_call 56; refine HJ.out.mono ?_; rintro e w' ⟨rfl, rfl⟩) | (go_at_call 28; refine HBG.out.mono ?_; rintro e w' ⟨rfl, rfl⟩))
        rw [h40] at HDV
        refine HDV.out.mono ?_
        rintro e w' ⟨rfl, rfl⟩
        go_wp2
        go_roundw
        case rel => exact ⟨i + 1, g, m + 1, b, by go_num, by go_num, rfl, by omega, by omega, by omega, ⟨by have := HG.out; omega, by have := HG.out; omega, HE.out⟩, HB⟩
        case measure => simp [intOf]; omega
      rw [if_neg h40] at HE
      by_cases h41 : bt s i = 41
      · by_cases hm0 : m = 0
        · rw [if_pos ⟨h41, hm0⟩] at HE
          replace HE := Lib.hid HE
          subst hm0
          clear h35'
          go_wp2_with (first | (go_at_call 56; refine HJ.out.mono ?_; rintro e w' ⟨rfl, rfl⟩) | (go_at_call 28; refine HBG.out.mono ?_; rintro e w' ⟨rfl, rfl⟩))
          go_ret2
          exact ⟨ret_two (by have := fst_of HE.out; omega) (snd_of HE.out), HB.out⟩
        · rw [if_neg (fun e => hm0 e.2), if_pos h41] at HE
          obtain ⟨b, hbd⟩ := HDD.out
          rw [hbd] at HE HDV
          replace HE := Lib.hid HE
          have hm1 : ((m : Int) == 0) = false := by rw [beq_eq_false_iff_ne]; omega
          have hm2 : (1 : Int) ≤ (m : Int) := by omega
          have hm3 : ¬ ((m : Int) = 0) := by omega
          clear h35' hbd hm0
          go_wp2_with (first | (go_at_call 56; refine HJ.out.mono ?_; rintro e w' ⟨rfl, rfl⟩) | (go_at_call 28; refine HBG.out.mono ?_; rintro e w' ⟨rfl, rfl⟩))
          rw [h41] at HDV
          refine HDV.out.mono ?_
          rintro e w' ⟨rfl, rfl⟩
          go_wp2
          go_roundw
          case rel => exact ⟨i + 1, g, m - 1, b, by go_num, by rw [show ((m - 1 : Nat) : Int) = (m : Int) - 1 by omega], rfl, by omega, by omega, by omega, ⟨by have := HG.out; omega, by have := HG.out; omega, HE.out⟩, HB⟩
          case measure => simp [intOf]; omega
      rw [if_neg (fun e => h41 e.1), if_neg h41] at HE
      have e41 := beq_f h41
      obtain ⟨b, hbd⟩ := HDD.out
      rw [hbd] at HE HDV
      replace HE := Lib.hid HE
      clear hbd
      rcases h35' with ⟨h35, rfl⟩ | h35
      all_goals
        (try have e35 := beq_f h35)
        go_wp2_with (first | (go_at_call 56; refine HJ.out.mono ?_; rintro e w' ⟨rfl, rfl⟩) | (go_at_call 28; refine HBG.out.mono ?_; rintro e w' ⟨rfl, rfl⟩))
        (try rw [h35] at HDV)
        refine HDV.out.mono ?_
        rintro e w' ⟨rfl, rfl⟩
        go_wp2
        go_roundw
        case rel => exact ⟨i + 1, g, m, b, by go_num, rfl, rfl, by omega, by omega, by omega, ⟨by have := HG.out; omega, by have := HG.out; omega, HE.out⟩, HB⟩
        case measure => simp [intOf]; omega
    · rw [if_neg hlt] at HE
      replace HE := Lib.hid HE
      go_wp2
      go_ret2
      exact ⟨ret_two (fst_of HE.out) (snd_of HE.out), HB.out⟩
end W
end Go.Proofs.YtcbdhheelddgeaaGreatDoor
