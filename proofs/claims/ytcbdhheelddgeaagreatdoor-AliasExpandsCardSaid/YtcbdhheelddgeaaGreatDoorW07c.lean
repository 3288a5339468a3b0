/- Chapter 7: arithmetic, command, braced. -/
import Derived.Test.YtcbdhheelddgeaaGreatDoorW07b
namespace Go.Proofs.YtcbdhheelddgeaaGreatDoor
open Go.RowKit K
namespace W
theorem loop_done {L i : Nat} (h : ¬ i < L) (h2 : i ≤ L) : i = L := by omega
set_option maxRecDepth 100000 in
set_option maxHeartbeats 1000000 in
theorem lx_ari {f : Nat} (ih : ∀ g, g ≤ f → LexC g) (s : List UInt8) (a : Nat) (w : World) (k : Nat) (x : Int) (hl : s.length ≤ 100000) (ha : a + 3 ≤ s.length) (hf : 3 * (s.length - (a + 3)) + 3 ≤ f + 1) (hr : LX.ari (f + 1) s a (a + 3) 0 = (k, x)) :
    Calls Tryz.prog 63 #[.string ⟨s.toArray⟩, .int .i64 a] w (Pair w k x) := by
  have IH := Lib.hid ih
  have HF := Lib.hid hf
  have HR := Lib.hid hr
  clear ih hf hr
  go_enter Tryz.func63, Tryz.ntmps63
  go_wp2
  go_loopw [6, 7] (fun n v wr => ∃ i g m : Nat, v = .int .i64 i ∧ n = .int .i64 m ∧ m ≤ i ∧ a < i ∧ i ≤ s.length ∧ Hid (g ≤ f + 1 ∧ 3 * (s.length - i) + 3 ≤ g ∧ LX.ari g s a i m = (k, x)) ∧ Hid (Below w.heap.size w wr)) (fun _ v _ => s.length - (intOf v).toNat)
  case atStart => exact ⟨a + 3, f + 1, 0, by go_num, rfl, by omega, by omega, by omega, ⟨Nat.le_refl _, HF.out, HR.out⟩, Below.refl _ _⟩
  case round =>
    obtain ⟨i, g, m, rfl, rfl, hm, hi1, hi2, HG, HB⟩ := hrel
    obtain ⟨g, rfl⟩ : ∃ g', g = g' + 1 := ⟨g - 1, by have := HG.out; omega⟩
    have HE := HG.out.2.2
    rw [LX.ari] at HE
    by_cases hlt : i < s.length
    · rw [if_pos hlt] at HE
      obtain ⟨j, y, hj⟩ : ∃ j y, LX.ins g s i true false = (j, y) := ⟨_, _, rfl⟩
      have HC := Lib.hid ((IH.out g (by have := HG.out; omega)).ins s i true false wr j y hl hlt (by have := HG.out; omega) hj)
      have HGD := (LX.good_all g).ins s i true false hlt
      rw [hj] at HE HGD
      obtain ⟨hj1, hj2, hj3⟩ := HGD
      (try dsimp only at hj1 hj2 hj3)
      clear hj
      by_cases h40 : bt s i = 40
      · rw [if_pos h40] at HE
        replace HE := Lib.hid HE
        go_wp2_with fail
        refine HC.out.mono ?_
        rintro e1 w1 ⟨rfl, hb1⟩
        have HB1 := Lib.hid (btr HB.out hb1)
        clear hb1
        rcases hj3 with rfl | rfl | rfl
        · have hj4 := hj2 rfl
          clear hj2
          go_wp2
          go_roundw
          case rel => exact ⟨j, g, m + 1, rfl, by go_num, by omega, by omega, hj1, ⟨by have := HG.out; omega, by have := HG.out; omega, HE.out⟩, HB1.out⟩
          case measure => simp [intOf]; omega
        all_goals
          clear hj2
          go_wp2
          go_ret2
          exact ⟨ret_two (fst_of HE.out) (snd_of HE.out), HB1.out⟩
      rw [if_neg h40] at HE
      by_cases h41 : bt s i = 41
      · by_cases hm0 : 0 < m
        · rw [if_pos ⟨h41, hm0⟩] at HE
          replace HE := Lib.hid HE
          have hm1 : ((0 : Int) < (m : Int)) = True := eq_true (by omega)
          have hm2 : (1 : Int) ≤ (m : Int) := by omega
          go_wp2_with fail
          refine HC.out.mono ?_
          rintro e1 w1 ⟨rfl, hb1⟩
          have HB1 := Lib.hid (btr HB.out hb1)
          clear hb1
          rcases hj3 with rfl | rfl | rfl
          · have hj4 := hj2 rfl
            clear hj2
            go_wp2
            go_roundw
            case rel => exact ⟨j, g, m - 1, rfl, by rw [show ((m - 1 : Nat) : Int) = (m : Int) - 1 by omega], by omega, by omega, hj1, ⟨by have := HG.out; omega, by have := HG.out; omega, HE.out⟩, HB1.out⟩
            case measure => simp [intOf]; omega
          all_goals
            clear hj2
            go_wp2
            go_ret2
            exact ⟨ret_two (fst_of HE.out) (snd_of HE.out), HB1.out⟩
        rw [if_neg (fun e => hm0 e.2), if_pos h41] at HE
        have hm1 : ((0 : Int) < (m : Int)) = False := eq_false (by omega)
        by_cases hi3 : i + 1 = s.length
        · rw [if_pos hi3] at HE
          replace HE := Lib.hid HE
          have ht : ((i : Int) + 1 == (s.length : Int)) = true := by rw [beq_iff_eq]; omega
          go_wp2
          go_ret2
          exact ⟨ret_two (fst_of HE.out) (snd_of HE.out), HB.out⟩
        rw [if_neg hi3] at HE
        have ht : ((i : Int) + 1 == (s.length : Int)) = false := by rw [beq_eq_false_iff_ne]; omega
        have hi4 : ((i : Int) + 1 < (s.length : Int)) = True := eq_true (by omega)
        have hi5 : i + 1 < s.length := by omega
        by_cases hb : bt s (i + 1) = 41
        · rw [if_pos hb] at HE
          replace HE := Lib.hid HE
          go_wp2
          go_ret2
          exact ⟨ret_two (by have := fst_of HE.out; omega) (snd_of HE.out), HB.out⟩
        · rw [if_neg hb] at HE
          replace HE := Lib.hid HE
          go_wp2
          go_ret2
          exact ⟨ret_two (fst_of HE.out) (snd_of HE.out), HB.out⟩
      rw [if_neg (fun e => h41 e.1), if_neg h41] at HE
      have e41 := beq_f h41
      replace HE := Lib.hid HE
      go_wp2_with fail
      refine HC.out.mono ?_
      rintro e1 w1 ⟨rfl, hb1⟩
      have HB1 := Lib.hid (btr HB.out hb1)
      clear hb1
      rcases hj3 with rfl | rfl | rfl
      · have hj4 := hj2 rfl
        clear hj2
        go_wp2
        go_roundw
        case rel => exact ⟨j, g, m, rfl, rfl, by omega, by omega, hj1, ⟨by have := HG.out; omega, by have := HG.out; omega, HE.out⟩, HB1.out⟩
        case measure => simp [intOf]; omega
      all_goals
        clear hj2
        go_wp2
        go_ret2
        exact ⟨ret_two (fst_of HE.out) (snd_of HE.out), HB1.out⟩
    · rw [if_neg hlt] at HE
      replace HE := Lib.hid HE
      go_wp2
      go_ret2
      exact ⟨ret_two (fst_of HE.out) (snd_of HE.out), HB.out⟩
set_option maxRecDepth 100000 in
set_option maxHeartbeats 1000000 in
theorem lx_brc {f : Nat} (ih : ∀ g, g ≤ f → LexC g) (s : List UInt8) (a : Nat) (q d : Bool) (w : World) (k : Nat) (x : Int) (hl : s.length ≤ 100000) (ha : a + 2 ≤ s.length) (hf : 3 * (s.length - (a + 2)) + 3 ≤ f + 1) (hr : LX.brc (f + 1) s a (a + 2) q d = (k, x)) :
    Calls Tryz.prog 65 #[.string ⟨s.toArray⟩, .int .i64 a, .agg #[.bool q, .bool d]] w (Pair w k x) := by
  have IH := Lib.hid ih
  have HF := Lib.hid hf
  have HR := Lib.hid hr
  clear ih hf hr
  go_enter Tryz.func65, Tryz.ntmps65
  go_wp2
  obtain ⟨wb, hwb⟩ : ∃ wb, wb = w.alloc (.cells #[.bool q, .bool d] 72) := ⟨_, rfl⟩
  have HBW := Lib.hid (show Below w.heap.size w wb by rw [hwb]; exact balloc _ _)
  have HC0 := Lib.hid (show wb.heap[w.heap.size]? = some (.cells #[.bool q, .bool d] 72 (0, 0)) by rw [hwb]; exact al_new w _)
  rw [← hwb]
  clear hwb
  go_loopw [8] (fun v wr => ∃ i g : Nat, v = .int .i64 i ∧ a < i ∧ i ≤ s.length ∧ Hid (g ≤ f + 1 ∧ 3 * (s.length - i) + 3 ≤ g ∧ LX.brc g s a i q d = (k, x)) ∧ Hid (Below wb.heap.size wb wr)) (fun v _ => s.length - (intOf v).toNat)
  case atStart => exact ⟨a + 2, f + 1, by go_num, by omega, by omega, ⟨Nat.le_refl _, HF.out, HR.out⟩, Below.refl _ _⟩
  case round =>
    obtain ⟨i, g, rfl, hi1, hi2, HG, HB⟩ := hrel
    obtain ⟨g, rfl⟩ : ∃ g', g = g' + 1 := ⟨g - 1, by have := HG.out; omega⟩
    have HE := HG.out.2.2
    have HWR := Lib.hid (btr HBW.out HB.out)
    have hcell := (HB.out.block w.heap.size (Array.getElem?_eq_some_iff.1 HC0.out).1).trans HC0.out
    have c0 : wr.cell? ⟨w.heap.size, 0, none⟩ = some (.bool q) := Lib.cell_of_heap hcell 0
    have c1 : wr.cell? ⟨w.heap.size, 1, none⟩ = some (.bool d) := Lib.cell_of_heap hcell 1
    clear hcell
    rw [LX.brc] at HE
    by_cases hlt : i < s.length
    · rw [if_pos hlt] at HE
      by_cases h125 : bt s i = 125
      · rw [if_pos h125] at HE
        replace HE := Lib.hid HE
        go_wp2
        go_ret2
        exact ⟨ret_two (by have := fst_of HE.out; omega) (snd_of HE.out), HWR.out⟩
      rw [if_neg h125] at HE
      by_cases h34 : bt s i = 34 ∧ d = true
      · rw [if_pos h34] at HE
        replace HE := Lib.hid HE
        obtain ⟨h34, rfl⟩ := h34
        go_wp2
        go_ret2
        exact ⟨ret_two (fst_of HE.out) (snd_of HE.out), HWR.out⟩
      rw [if_neg h34] at HE
      have HBG := Lib.hid (lx_begins s i wr hlt hl)
      by_cases hq : ((bt s i = 34 ∨ bt s i = 39) ∧ q = true) ∨ LX.begins s i = false
      · rw [if_pos hq] at HE
        replace HE := Lib.hid HE
        have fin : Hid (∃ i' g' : Nat, Value.int .i64 ((i : Int) + 1) = .int .i64 i' ∧ a < i' ∧ i' ≤ s.length ∧ Hid (g' ≤ f + 1 ∧ 3 * (s.length - i') + 3 ≤ g' ∧ LX.brc g' s a i' q d = (k, x)) ∧ Hid (Below wb.heap.size wb wr)) := ⟨i + 1, g, by go_num, by omega, by omega, ⟨by have := HG.out; omega, by have := HG.out; omega, HE.out⟩, HB⟩
        by_cases h34' : bt s i = 34
        · obtain rfl : d = false := by cases d; rfl; exact absurd ⟨h34', rfl⟩ h34
          rcases (show q = true ∨ q = false by cases q <;> simp) with rfl | rfl
          · clear hq h34
            go_wp2
            go_roundw
            case rel => exact fin.out
            case measure => simp [intOf]; omega
          · have hbf : LX.begins s i = false := by rcases hq with ⟨_, h⟩ | h; cases h; exact h
            exact absurd hbf (by unfold LX.begins; rw [if_neg (by rw [h34']; decide)]; simp [h34'])
        have e34 := beq_f h34'
        by_cases h39 : bt s i = 39
        · rcases (show q = true ∨ q = false by cases q <;> simp) with rfl | rfl
          · clear hq h34
            go_wp2
            go_roundw
            case rel => exact fin.out
            case measure => simp [intOf]; omega
          · have hbf : LX.begins s i = false := by rcases hq with ⟨_, h⟩ | h; cases h; exact h
            exact absurd hbf (by unfold LX.begins; rw [if_neg (by rw [h39]; decide)]; simp [h39])
        · have hbf : LX.begins s i = false := by rcases hq with ⟨h | h, _⟩ | h; exact absurd h h34'; exact absurd h h39; exact h
          rw [hbf] at HBG
          have e39 := beq_f h39
          clear hq h34 hbf
          go_wp2_with (go_at_call 28; refine HBG.out.mono ?_; rintro e w' ⟨rfl, rfl⟩)
          go_roundw
          case rel => exact fin.out
          case measure => simp [intOf]; omega
      · rw [if_neg hq] at HE
        have hbt : LX.begins s i = true := by cases hb : LX.begins s i; exact absurd (.inr hb) hq; rfl
        obtain ⟨j, y, hj⟩ : ∃ j y, LX.con g s i q d = (j, y) := ⟨_, _, rfl⟩
        have HC := Lib.hid ((IH.out g (by have := HG.out; omega)).con s i q d wr j y hl hlt hbt (by have := HG.out; omega) hj)
        have HGD := (LX.good_all g).con s i q d hlt hbt
        rw [hj] at HE HGD
        obtain ⟨hj1, hj2, hj3⟩ := HGD
        (try dsimp only at hj1 hj2 hj3)
        clear hj
        rw [hbt] at HBG
        replace HE := Lib.hid HE
        have HQ : (bt s i = 34 ∨ bt s i = 39) → q = false := fun h => by cases q; rfl; exact absurd (.inl ⟨h, rfl⟩) hq
        have HD : bt s i = 34 → d = false := fun h => by cases d; rfl; exact absurd ⟨h, rfl⟩ h34
        have HQ := Lib.hid HQ
        have HD := Lib.hid HD
        clear hq h34 hbt
        by_cases h34' : bt s i = 34
        · obtain rfl := HQ.out (.inl h34')
          obtain rfl := HD.out h34'
          go_wp2_with (go_at_call 28; refine HBG.out.mono ?_; rintro e w' ⟨rfl, rfl⟩)
          refine HC.out.mono ?_
          rintro e1 w1 ⟨rfl, hb1⟩
          have HB1 := Lib.hid (btr HB.out hb1)
          clear hb1
          rcases hj3 with rfl | rfl | rfl
          · have hj4 := hj2 rfl
            clear hj2
            go_wp2
            go_roundw
            case rel => exact ⟨j, g, rfl, by omega, hj1, ⟨by have := HG.out; omega, by have := HG.out; omega, HE.out⟩, HB1.out⟩
            case measure => simp [intOf]; omega
          all_goals
            clear hj2
            go_wp2
            go_ret2
            exact ⟨ret_two (fst_of HE.out) (snd_of HE.out), btr HBW.out HB1.out⟩
        have e34 := beq_f h34'
        by_cases h39 : bt s i = 39
        · obtain rfl := HQ.out (.inr h39)
          go_wp2_with (go_at_call 28; refine HBG.out.mono ?_; rintro e w' ⟨rfl, rfl⟩)
          refine HC.out.mono ?_
          rintro e1 w1 ⟨rfl, hb1⟩
          have HB1 := Lib.hid (btr HB.out hb1)
          clear hb1
          rcases hj3 with rfl | rfl | rfl
          · have hj4 := hj2 rfl
            clear hj2
            go_wp2
            go_roundw
            case rel => exact ⟨j, g, rfl, by omega, hj1, ⟨by have := HG.out; omega, by have := HG.out; omega, HE.out⟩, HB1.out⟩
            case measure => simp [intOf]; omega
          all_goals
            clear hj2
            go_wp2
            go_ret2
            exact ⟨ret_two (fst_of HE.out) (snd_of HE.out), btr HBW.out HB1.out⟩
        · have e39 := beq_f h39
          go_wp2_with (go_at_call 28; refine HBG.out.mono ?_; rintro e w' ⟨rfl, rfl⟩)
          refine HC.out.mono ?_
          rintro e1 w1 ⟨rfl, hb1⟩
          have HB1 := Lib.hid (btr HB.out hb1)
          clear hb1
          rcases hj3 with rfl | rfl | rfl
          · have hj4 := hj2 rfl
            clear hj2
            go_wp2
            go_roundw
            case rel => exact ⟨j, g, rfl, by omega, hj1, ⟨by have := HG.out; omega, by have := HG.out; omega, HE.out⟩, HB1.out⟩
            case measure => simp [intOf]; omega
          all_goals
            clear hj2
            go_wp2
            go_ret2
            exact ⟨ret_two (fst_of HE.out) (snd_of HE.out), btr HBW.out HB1.out⟩
    · rw [if_neg hlt] at HE
      replace HE := Lib.hid HE
      go_wp2
      go_ret2
      exact ⟨ret_two (fst_of HE.out) (snd_of HE.out), HWR.out⟩
end W
end Go.Proofs.YtcbdhheelddgeaaGreatDoor
