/- Chapter 7: construct, Close. -/
import Derived.Test.YtcbdhheelddgeaaGreatDoorW07d
namespace Go.Proofs.YtcbdhheelddgeaaGreatDoor
open Go.RowKit K
namespace W
set_option maxRecDepth 100000 in
set_option maxHeartbeats 2000000 in
theorem lx_con {f : Nat} (ih : LexC f) (s : List UInt8) (a : Nat) (q d : Bool) (w : World) (k : Nat) (x : Int) (hl : s.length ≤ 100000) (ha : a < s.length) (hb : LX.begins s a = true) (hf : 3 * (s.length - a) + 1 ≤ f + 1) (hr : LX.con (f + 1) s a q d = (k, x)) :
    Calls Tryz.prog 29 #[.string ⟨s.toArray⟩, .int .i64 a, .agg #[.bool q, .bool d]] w (Pair w k x) := by
  rw [LX.con] at hr
  by_cases h92 : bt s a = 92
  · rw [if_pos h92] at hr
    by_cases h1 : a + 1 = s.length
    · rw [if_pos h1] at hr
      have HR := Lib.hid hr
      have ht : ((a : Int) + 1 == (s.length : Int)) = true := by rw [beq_iff_eq]; omega
      clear hr ih hf hb
      go_enter Tryz.func29, Tryz.ntmps29
      go_wp2
      go_ret2
      exact ⟨ret_two (fst_of HR.out) (snd_of HR.out), balloc _ _⟩
    · rw [if_neg h1] at hr
      have HR := Lib.hid hr
      have ht : ((a : Int) + 1 == (s.length : Int)) = false := by rw [beq_eq_false_iff_ne]; omega
      clear hr ih hf hb
      go_enter Tryz.func29, Tryz.ntmps29
      go_wp2
      go_ret2
      exact ⟨ret_two (by have := fst_of HR.out; omega) (snd_of HR.out), balloc _ _⟩
  rw [if_neg h92] at hr
  by_cases h39 : bt s a = 39
  · rw [if_pos h39] at hr
    have h1 : ((a : Int) + 1 ≤ (s.length : Int)) = True := eq_true (by omega)
    have HI := Lib.hid (fun v => lx_IndexByte (s.drop (a + 1)) 39 v)
    have HX := Lib.hid (LX.index_find s (a + 1) 39)
    cases hfd : LX.find s (a + 1) 39 with
    | none =>
      rw [hfd] at hr HX
      have HR := Lib.hid hr
      clear hr ih hf hb hfd
      go_enter Tryz.func29, Tryz.ntmps29
      go_wp2_with fail
      rw [cut_end]
      refine (HI.out _).mono ?_
      rintro e w1 ⟨rfl, rfl⟩
      rw [show ((39 : Int).toNat.toUInt8) = 39 from rfl, HX.out]
      go_wp2
      go_ret2
      exact ⟨ret_two (fst_of HR.out) (snd_of HR.out), balloc _ _⟩
    | some n =>
      have hn := (LX.find_some hfd).1
      have hn0 : (0 : Int) ≤ (n : Int) := by omega
      have hn1 : (n : Int) ≤ 100000 := by omega
      rw [hfd] at hr HX
      have HR := Lib.hid hr
      clear hr ih hf hb hfd
      go_enter Tryz.func29, Tryz.ntmps29
      go_wp2_with fail
      rw [cut_end]
      refine (HI.out _).mono ?_
      rintro e w1 ⟨rfl, rfl⟩
      rw [show ((39 : Int).toNat.toUInt8) = 39 from rfl, HX.out]
      go_wp2
      go_ret2
      exact ⟨ret_two (by have := fst_of HR.out; omega) (snd_of HR.out), balloc _ _⟩
  rw [if_neg h39] at hr
  by_cases h34 : bt s a = 34
  · rw [if_pos h34] at hr
    have HC := Lib.hid (fun v => ih.dbl s a v k x hl ha (by omega) hr)
    clear hr ih hf hb
    go_enter Tryz.func29, Tryz.ntmps29
    go_wp2_with fail
    refine (HC.out _).mono ?_
    rintro e w1 ⟨rfl, hb1⟩
    have HB1 := Lib.hid (btr (balloc _ _) hb1)
    clear hb1
    go_wp2
    go_ret2
    exact ⟨rfl, HB1.out⟩
  rw [if_neg h34] at hr
  by_cases h96 : bt s a = 96
  · rw [if_pos h96] at hr
    have HC := Lib.hid (fun v => lx_bkq f s a v k x hl ha (by omega) hr)
    clear hr ih hf hb
    go_enter Tryz.func29, Tryz.ntmps29
    go_wp2_with fail
    refine (HC.out _).mono ?_
    rintro e w1 ⟨rfl, hb1⟩
    have HB1 := Lib.hid (btr (balloc _ _) hb1)
    clear hb1
    go_wp2
    go_ret2
    exact ⟨rfl, HB1.out⟩
  rw [if_neg h96] at hr
  have h36 := LX.begins_other hb h92 h39 h34 h96
  have hd := LX.begins_dollar hb h36
  have h1 : ((a : Int) ≤ (s.length : Int)) = True := eq_true (by omega)
  have h2 : ((a : Int) + 1 < (s.length : Int)) = True := eq_true (by omega)
  have HP := Lib.hid (fun v => lx_HasPrefix (s.drop a) [36, 40, 40] v)
  by_cases h5 : Lib.hasPrefix (s.drop a) [36, 40, 40] = true
  · rw [if_pos h5] at hr
    have h6 := (LX.has3 h5).1
    rw [h5] at HP
    have HC := Lib.hid (fun v => ih.ari s a v k x hl h6 (by omega) hr)
    clear hr ih hf hb h5
    go_enter Tryz.func29, Tryz.ntmps29
    go_wp2_with fail
    rw [cut_end]
    refine (HP.out _).mono ?_
    rintro e w1 ⟨rfl, rfl⟩
    go_wp2_with fail
    refine (HC.out _).mono ?_
    rintro e w1 ⟨rfl, hb1⟩
    have HB1 := Lib.hid (btr (balloc _ _) hb1)
    clear hb1
    go_wp2
    go_ret2
    exact ⟨rfl, HB1.out⟩
  rw [if_neg h5] at hr
  obtain h5 : Lib.hasPrefix (s.drop a) [36, 40, 40] = false := by cases h : Lib.hasPrefix (s.drop a) [36, 40, 40]; rfl; exact absurd h h5
  rw [h5] at HP
  clear h5
  by_cases h40 : bt s (a + 1) = 40
  · rw [if_pos h40] at hr
    have HC := Lib.hid (fun v => ih.cmd s a v k x hl (by omega) (by omega) hr)
    clear hr ih hf hb
    go_enter Tryz.func29, Tryz.ntmps29
    go_wp2_with fail
    rw [cut_end]
    refine (HP.out _).mono ?_
    rintro e w1 ⟨rfl, rfl⟩
    go_wp2_with fail
    refine (HC.out _).mono ?_
    rintro e w1 ⟨rfl, hb1⟩
    have HB1 := Lib.hid (btr (balloc _ _) hb1)
    clear hb1
    go_wp2
    go_ret2
    exact ⟨rfl, HB1.out⟩
  rw [if_neg h40] at hr
  by_cases h123 : bt s (a + 1) = 123
  · rw [if_pos h123] at hr
    have HC := Lib.hid (fun v => ih.brc s a q d v k x hl (by omega) (by omega) hr)
    clear hr ih hf hb
    go_enter Tryz.func29, Tryz.ntmps29
    go_wp2_with fail
    rw [cut_end]
    refine (HP.out _).mono ?_
    rintro e w1 ⟨rfl, rfl⟩
    go_wp2_with fail
    refine (HC.out _).mono ?_
    rintro e w1 ⟨rfl, hb1⟩
    have HB1 := Lib.hid (btr (balloc _ _) hb1)
    clear hb1
    go_wp2
    go_ret2
    exact ⟨rfl, HB1.out⟩
  rw [if_neg h123] at hr
  have HST := Lib.hid (fun v => lx_starts (bt s (a + 1)) v)
  cases hs : LX.starts (bt s (a + 1)) with
  | false =>
    rw [if_pos hs] at hr
    rw [hs] at HST
    have HR := Lib.hid hr
    clear hr ih hf hb hs
    go_enter Tryz.func29, Tryz.ntmps29
    go_wp2_with fail
    rw [cut_end]
    refine (HP.out _).mono ?_
    rintro e w1 ⟨rfl, rfl⟩
    go_wp2_with (go_at_call 66; refine (HST.out _).mono ?_; rintro e w' ⟨rfl, rfl⟩)
    go_ret2
    exact ⟨ret_two (by have := fst_of HR.out; omega) (snd_of HR.out), balloc _ _⟩
  | true =>
    rw [if_neg (by rw [hs]; simp)] at hr
    rw [hs] at HST
    have HR := Lib.hid hr
    clear hr ih hf hb hs
    go_enter Tryz.func29, Tryz.ntmps29
    go_wp2_with fail
    rw [cut_end]
    refine (HP.out _).mono ?_
    rintro e w1 ⟨rfl, rfl⟩
    go_wp2_with (go_at_call 66; refine (HST.out _).mono ?_; rintro e w' ⟨rfl, rfl⟩)
    obtain ⟨wb, hwb⟩ : ∃ wb, wb = w.alloc (.cells #[.bool q, .bool d] 72) := ⟨_, rfl⟩
    have HBW := Lib.hid (show Below w.heap.size w wb by rw [hwb]; exact balloc _ _)
    rw [← hwb]
    clear hwb
    go_loop [9] (fun v => ∃ i : Nat, v = .int .i64 i ∧ a + 2 ≤ i ∧ i ≤ s.length ∧ Hid (LX.nameEnd s i = LX.nameEnd s (a + 2))) (fun v => s.length - (intOf v).toNat)
    case atStart => exact ⟨a + 2, by go_num, by omega, by omega, rfl⟩
    case round =>
      obtain ⟨i, rfl, hi1, hi2, HN⟩ := hrel
      have HS2 := Lib.hid (lx_starts (bt s i) wb)
      have HD2 := Lib.hid (lx_digit (bt s i) wb)
      by_cases hlt : i < s.length
      · cases hg : LX.starts (bt s i) || LX.digit (bt s i) with
        | true =>
          have HGO := Lib.hid (LX.nameEnd_go hlt hg)
          cases h1 : LX.starts (bt s i) with
          | true =>
            rw [h1] at HS2
            clear hg h1
            go_wp2_with (go_at_call 66; refine HS2.out.mono ?_; rintro e w' ⟨rfl, rfl⟩)
            go_round
            case rel => exact ⟨i + 1, by go_num, by omega, by omega, by show _ = _; rw [← HGO.out]; exact HN.out⟩
            case measure => simp [intOf]; omega
          | false =>
            rw [h1, Bool.false_or] at hg
            rw [h1] at HS2
            rw [hg] at HD2
            clear hg h1
            go_wp2_with (first | (go_at_call 66; refine HS2.out.mono ?_; rintro e w' ⟨rfl, rfl⟩) | (go_at_call 67; refine HD2.out.mono ?_; rintro e w' ⟨rfl, rfl⟩))
            go_round
            case rel => exact ⟨i + 1, by go_num, by omega, by omega, by show _ = _; rw [← HGO.out]; exact HN.out⟩
            case measure => simp [intOf]; omega
        | false =>
          have HSP := Lib.hid (LX.nameEnd_stop hlt hg)
          have hg2 := Bool.or_eq_false_iff.1 hg
          rw [hg2.1] at HS2
          rw [hg2.2] at HD2
          clear hg hg2
          go_wp2_with (first | (go_at_call 66; refine HS2.out.mono ?_; rintro e w' ⟨rfl, rfl⟩) | (go_at_call 67; refine HD2.out.mono ?_; rintro e w' ⟨rfl, rfl⟩))
          go_ret2
          exact ⟨ret_two (by have := fst_of HR.out; have h1 := HN.out; have h2 := HSP.out; omega) (snd_of HR.out), HBW.out⟩
      · have HSP := Lib.hid (LX.nameEnd_end (s := s) (i := i) (by omega))
        go_wp2
        go_ret2
        exact ⟨ret_two (by have := fst_of HR.out; have h1 := HN.out; have h2 := HSP.out; omega) (snd_of HR.out), HBW.out⟩
/-- The contracts at every fuel. -/
theorem lexc : ∀ n f, f ≤ n → LexC f
  | 0, f, h => by
    obtain rfl : f = 0 := by omega
    exact ⟨fun _ _ _ _ _ _ _ _ _ _ h _ => absurd h (by omega), fun _ _ _ _ _ _ _ _ _ h _ => absurd h (by omega), fun _ _ _ _ _ _ _ h _ => absurd h (by omega), fun _ _ _ _ _ _ _ h _ => absurd h (by omega), fun _ _ _ _ _ _ _ h _ => absurd h (by omega), fun _ _ _ _ _ _ _ _ _ h _ => absurd h (by omega)⟩
  | n + 1, f, h => by
    rcases Nat.lt_or_ge f (n + 1) with h' | h'
    · exact lexc n f (by omega)
    · obtain rfl : f = n + 1 := by omega
      have ih := lexc n
      exact ⟨fun s a q d w k x h1 h2 h3 h4 h5 => lx_con (ih n (Nat.le_refl _)) s a q d w k x h1 h2 h3 h4 h5, fun s a q d w k x h1 h2 h3 h4 => lx_ins (ih n (Nat.le_refl _)) s a q d w k x h1 h2 h3 h4, fun s a w k x h1 h2 h3 h4 => lx_dbl ih s a w k x h1 h2 h3 h4,
        fun s a w k x h1 h2 h3 h4 => lx_ari ih s a w k x h1 h2 h3 h4, fun s a w k x h1 h2 h3 h4 => lx_cmd ih s a w k x h1 h2 h3 h4, fun s a q d w k x h1 h2 h3 h4 => lx_brc ih s a q d w k x h1 h2 h3 h4⟩
theorem construct_any (s : List UInt8) (a : Nat) (q d : Bool) (w : World) (k : Nat) (x : Int) (hl : s.length ≤ 100000) (ha : a < s.length) (hb : LX.begins s a = true) (hr : LX.construct s a q d = (k, x)) :
    Calls Tryz.prog 29 #[.string ⟨s.toArray⟩, .int .i64 a, .agg #[.bool q, .bool d]] w (Pair w k x) :=
  (lexc _ _ (Nat.le_refl (3 * s.length + 3))).con s a q d w k x hl ha hb (by omega) hr
set_option maxRecDepth 100000 in
theorem Close_any (s : List UInt8) (a : Nat) (w : World) (k : Nat) (x : Int) (hl : s.length ≤ 100000) (hr : LX.close s a = (k, x)) :
    Calls Tryz.prog 175 #[.string ⟨s.toArray⟩, .int .i64 a] w (Pair w k x) := by
  have h0 : ((a : Int) < 0) = False := eq_false (by omega)
  unfold LX.close at hr
  by_cases h1 : 16384 < s.length
  · rw [if_pos h1] at hr
    have h1' : ((16384 : Int) < (s.length : Int)) = True := eq_true (by omega)
    have HR := Lib.hid hr
    clear hr h1
    go_enter Tryz.func175, Tryz.ntmps175
    go_wp2
    go_ret2
    exact ⟨ret_two (by have := fst_of HR.out; omega) (snd_of HR.out), Below.refl _ _⟩
  rw [if_neg h1] at hr
  have h1' : ((16384 : Int) < (s.length : Int)) = False := eq_false (by omega)
  clear h1
  by_cases h2 : a < s.length
  case neg =>
    rw [if_neg (fun e => h2 e.1)] at hr
    have h2' : ((s.length : Int) ≤ (a : Int)) = True := eq_true (by omega)
    have HR := Lib.hid hr
    clear hr
    go_enter Tryz.func175, Tryz.ntmps175
    go_wp2
    go_ret2
    exact ⟨ret_two (by have := fst_of HR.out; omega) (snd_of HR.out), Below.refl _ _⟩
  have h2' : ((s.length : Int) ≤ (a : Int)) = False := eq_false (by omega)
  have HBG := Lib.hid (fun v => lx_begins s a v h2 hl)
  cases hb : LX.begins s a with
  | false =>
    rw [if_neg (fun e => by rw [hb] at e; cases e.2)] at hr
    rw [hb] at HBG
    have HR := Lib.hid hr
    clear hr hb
    go_enter Tryz.func175, Tryz.ntmps175
    go_wp2_with (go_at_call 28; refine (HBG.out _).mono ?_; rintro e w' ⟨rfl, rfl⟩)
    go_ret2
    exact ⟨ret_two (by have := fst_of HR.out; omega) (snd_of HR.out), Below.refl _ _⟩
  | true =>
    rw [if_pos ⟨h2, hb⟩] at hr
    have HC := Lib.hid (fun v => construct_any s a false false v k x hl h2 hb hr)
    rw [hb] at HBG
    clear hr hb
    go_enter Tryz.func175, Tryz.ntmps175
    go_wp2_with (go_at_call 28; refine (HBG.out _).mono ?_; rintro e w' ⟨rfl, rfl⟩)
    refine (HC.out _).mono ?_
    rintro e w1 ⟨rfl, hb1⟩
    go_wp2
    go_ret2
    exact ⟨rfl, hb1⟩
end W
end Go.Proofs.YtcbdhheelddgeaaGreatDoor
