/- Words: tilde, parameter. -/
import Derived.Test.YtmgomklpjjkehaaGreatW08e
namespace Go.Proofs.YtmgomklpjjkehaaGreat
open Go.RowKit K
namespace WP
theorem strip_more : ∀ (f h : Nat) (l : Str), l.length ≤ f → l.length ≤ h → strip f l = strip h l
  | 0, 0, _, _, _ => rfl
  | 0, h + 1, l, hf, _ => by
    obtain rfl := List.eq_nil_of_length_eq_zero (show l.length = 0 by omega)
    rw [strip, strip]; rfl
  | f + 1, 0, l, _, hh => by
    obtain rfl := List.eq_nil_of_length_eq_zero (show l.length = 0 by omega)
    rw [strip, strip]; rfl
  | f + 1, h + 1, l, hf, hh => by
    rw [strip, strip]
    by_cases hp : Lib.hasPrefix l [92, 10] = true
    · rw [if_pos hp, if_pos hp]
      have hl : 2 ≤ l.length := by
        match l, hp with
        | [], hp => exact absurd hp (by decide)
        | [x], hp => simp [Lib.hasPrefix] at hp
        | x :: y :: r, _ => simp
      exact strip_more f h _ (by rw [List.length_drop]; omega) (by rw [List.length_drop]; omega)
    · rw [if_neg hp, if_neg hp]
theorem numLen_le : ∀ (l : Str) (n : Int), numLen l n ≤ l.length
  | [], _ => Nat.le_refl _
  | c :: r, n => by
    rw [numLen]
    split
    · have := numLen_le r (10 * n + ((c.toNat : Int) - 48)); rw [List.length_cons]; omega
    · omega
theorem parameter_ge (s : Str) (i : Nat) : i ≤ parameter s i := by
  unfold parameter
  have := LX.nameEnd_ge s i
  repeat' split
  all_goals omega
theorem parameter_le {s : Str} {i : Nat} (hi : i ≤ s.length) : parameter s i ≤ s.length := by
  unfold parameter
  have h1 := LX.nameEnd_le s hi
  have h2 := numLen_le (s.drop i) 0
  rw [List.length_drop] at h2
  repeat' split
  all_goals omega
end WP
namespace W
def strLen : Value → Nat
  | .string b => b.size
  | _ => 0
theorem strLen_list (l : List UInt8) : strLen (.string ⟨l.toArray⟩) = l.length := by simp [strLen, ByteArray.size]
section
variable {W : World} {g : Nat} {c : WP.Ctx} {st : WP.St}
set_option maxRecDepth 100000 in
set_option maxHeartbeats 2000000 in
theorem tilde_any (h : ScP W g c st) (ha : st.a < c.s.length) (hl : c.s.length ≤ 100000) : Calls Tryz.prog 82 #[.pointer (some ⟨g, 0, none⟩)] W fun e W' => e = .returned (.bool (WP.tilde c st)) ∧ Below W.heap.size W W' := by
  obtain ⟨lc, ⟨tx, ls, h, ht, hls⟩, -⟩ := h
  obtain ⟨A, cap, rfl⟩ := row_val ht
  obtain ⟨A', cap', rfl⟩ := row_val hls
  obtain ⟨c0, c1, -, c3, -, -, -, c7, c8⟩ := h.cells
  clear h ht hls
  have HR := Lib.hid (show WP.tilde c st = (decide (st.ls = [] ∧ st.tx = []) && WP.tildeAt c.s st.a c.op) from rfl)
  by_cases hn : 0 < st.ls.length
  · rw [show WP.tilde c st = false by rw [HR.out, decide_eq_false (fun e => by rw [e.1] at hn; exact absurd hn (by decide))]; rfl]
    have n1 : ((0 : Int) < (st.ls.length : Int)) = True := eq_true (by omega)
    have n2 : (0 < st.ls.length) = True := eq_true hn
    go_enter Tryz.func82, Tryz.ntmps82
    go_wp2
    go_ret
    exact ⟨rfl, Below.refl _ _⟩
  have hn0 : st.ls = [] := List.eq_nil_of_length_eq_zero (by omega)
  have n1 : ((0 : Int) < (st.ls.length : Int)) = False := eq_false (by omega)
  have n2 : (0 < st.ls.length) = False := eq_false hn
  by_cases ht : 0 < st.tx.length
  · rw [show WP.tilde c st = false by rw [HR.out, decide_eq_false (fun e => by rw [e.2] at ht; exact absurd ht (by decide))]; rfl]
    have t1 : ((0 : Int) < (st.tx.length : Int)) = True := eq_true (by omega)
    have t2 : (0 < st.tx.length) = True := eq_true ht
    clear hn0
    go_enter Tryz.func82, Tryz.ntmps82
    go_wp2
    go_ret
    exact ⟨rfl, Below.refl _ _⟩
  have ht0 : st.tx = [] := List.eq_nil_of_length_eq_zero (by omega)
  have t1 : ((0 : Int) < (st.tx.length : Int)) = False := eq_false (by omega)
  have t2 : (0 < st.tx.length) = False := eq_false ht
  obtain ⟨R, hR⟩ : ∃ R, WP.strip c.s.length (c.s.drop (st.a + 1)) = R := ⟨_, rfl⟩
  have HR2 := Lib.hid (show WP.tilde c st = (decide (R = []) || decide (bt R 0 = 47) || (c.op && decide (bt R 0 = 125))) by rw [HR.out, decide_eq_true ⟨hn0, ht0⟩, Bool.true_and]; unfold WP.tildeAt; rw [hR])
  have HRR := Lib.hid hR
  have a1 : IntKind.i64.wrap ((st.a : Int) + 1) = (st.a : Int) + 1 := IntWalk.i64_in _ (by omega)
  have a2 : ((st.a : Int) + 1).toNat = st.a + 1 := by omega
  have a3 : ((st.a : Int) + 1 ≤ (c.s.length : Int)) = True := eq_true (by omega)
  have a4 : (0 : Int) ≤ (st.a : Int) + 1 := by omega
  clear HR hn0 ht0 hR
  go_enter Tryz.func82, Tryz.ntmps82
  go_wp2_with fail
  go_quiet (fail)
  rw [cut_end]
  have HU := Lib.hid (bdN (Below.refl W.heap.size W) nq)
  have c3' : (W.drewN nq).cell? ⟨g, 3, none⟩ = some (.bool c.op) := c3
  generalize W.drewN nq = U at HU c3' ⊢
  clear c0 c1 c3 c7 c8 a1 a2 a3 a4
  go_wp2
  go_loop [3] (fun v => ∃ l : List UInt8, v = .string ⟨l.toArray⟩ ∧ Hid (∃ f, l.length ≤ f ∧ WP.strip f l = R)) (fun v => strLen v)
  case atStart => exact ⟨_, rfl, c.s.length, by rw [List.length_drop]; omega, HRR.out⟩
  case round =>
    obtain ⟨l, rfl, HL⟩ := hrel
    have HP := Lib.hid (lx_HasPrefix l [92, 10] U)
    cases hp : Lib.hasPrefix l [92, 10] with
    | true =>
      have hl2 : 2 ≤ l.length := by
        match l, hp with
        | [], hp => exact absurd hp (by decide)
        | [x], hp => simp [Lib.hasPrefix] at hp
        | x :: y :: r, _ => simp
      have HN := Lib.hid (show ∃ f, (l.drop 2).length ≤ f ∧ WP.strip f (l.drop 2) = R by
        obtain ⟨f, h1, h2⟩ := HL.out
        obtain ⟨f, rfl⟩ : ∃ k, f = k + 1 := ⟨f - 1, by omega⟩
        rw [WP.strip, if_pos hp] at h2
        exact ⟨f, by rw [List.length_drop]; omega, h2⟩)
      rw [hp] at HP
      have l1 : ((2 : Int) ≤ (l.length : Int)) = True := eq_true (by omega)
      clear hp
      go_wp2_with (go_at_call 74; refine HP.out.mono ?_; rintro e w' ⟨rfl, rfl⟩)
      go_round
      case rel => exact ⟨l.drop 2, by rw [cut_end], HN.out⟩
      case measure => show strLen (.string ⟨(cut l 2 l.length).toArray⟩) < strLen (.string ⟨l.toArray⟩); rw [strLen_list, strLen_list, cut_end, List.length_drop]; omega
    | false =>
      have HE := Lib.hid (show l = R by
        obtain ⟨f, h1, h2⟩ := HL.out
        cases f with
        | zero => exact h2
        | succ f => rw [WP.strip, if_neg (by rw [hp]; simp)] at h2; exact h2)
      rw [hp] at HP
      clear hp
      have HR3 := HR2.out
      rw [← HE.out] at HR3
      replace HR3 := Lib.hid HR3
      by_cases hnil : l = []
      · subst hnil
        go_wp2_with (go_at_call 74; refine HP.out.mono ?_; rintro e w' ⟨rfl, rfl⟩)
        go_ret
        exact ⟨ret_bool (by rw [HR3.out]; simp), HU.out⟩
      · have hpos : (0 < l.length) = True := eq_true (List.length_pos_iff.2 hnil)
        have hne : l.isEmpty = false := by cases l with | nil => exact absurd rfl hnil | cons a b => rfl
        have HNI := Lib.hid hnil
        clear hnil
        obtain ⟨b, hb⟩ : ∃ b, bt l 0 = b := ⟨_, rfl⟩
        by_cases h47 : b = 47
        · subst h47
          go_wp2_with (go_at_call 74; refine HP.out.mono ?_; rintro e w' ⟨rfl, rfl⟩)
          go_ret
          exact ⟨ret_bool (by rw [HR3.out, hb]; simp), HU.out⟩
        have e47 := beq_f h47
        cases hop : c.op with
        | false =>
          rw [hop] at c3' HR3
          clear hop
          go_wp2_with (go_at_call 74; refine HP.out.mono ?_; rintro e w' ⟨rfl, rfl⟩)
          go_ret
          exact ⟨ret_bool (by rw [HR3.out, hb]; simp [HNI.out, h47]), HU.out⟩
        | true =>
          rw [hop] at c3' HR3
          clear hop
          go_wp2_with (go_at_call 74; refine HP.out.mono ?_; rintro e w' ⟨rfl, rfl⟩)
          go_ret
          exact ⟨ret_bool (by rw [HR3.out, hb, Bool.eq_iff_iff]; simp [HNI.out, h47]), HU.out⟩
set_option maxRecDepth 100000 in
set_option maxHeartbeats 2000000 in
theorem parameter_any (h : ScP W g c st) (i : Nat) (hi : i ≤ c.s.length) (hl : c.s.length ≤ 100000) : Calls Tryz.prog 78 #[.pointer (some ⟨g, 0, none⟩), .int .i64 i] W fun e W' => e = .returned (.int .i64 (WP.parameter c.s i)) ∧ W = W' := by
  obtain ⟨lc, ⟨tx, ls, h, -, -⟩, -⟩ := h
  obtain ⟨s, pl, op, lv, opn⟩ := c
  dsimp only at h hi hl ⊢
  obtain ⟨c0, -, -, -, -, -, -, -, -⟩ := h.cells
  clear h
  obtain ⟨R, hR⟩ : ∃ R, WP.parameter s i = R := ⟨_, rfl⟩
  rw [hR]
  unfold WP.parameter at hR
  by_cases h0 : i = s.length
  · rw [if_pos h0] at hR
    have HR := Lib.hid hR
    have e1 : ((i : Int) == (s.length : Int)) = true := by rw [beq_iff_eq]; omega
    clear h0 hR
    go_enter Tryz.func78, Tryz.ntmps78
    go_wp2
    go_ret
    exact ⟨ret_int (by rw [HR.out]), rfl⟩
  rw [if_neg h0] at hR
  have hlt : i < s.length := by omega
  have e1 : ((i : Int) == (s.length : Int)) = false := by rw [beq_eq_false_iff_ne]; omega
  have e2 : ((i : Int) < (s.length : Int)) = True := eq_true (by omega)
  clear h0
  have HI := Lib.hid (lx_IndexByte [64, 42, 35, 63, 45, 36, 33, 48] (bt s i) W)
  have HO := Lib.hid (show WP.one8 (bt s i) = decide (0 ≤ Lib.indexByte [64, 42, 35, 63, 45, 36, 33, 48] (bt s i).toNat.toUInt8) from rfl)
  generalize Lib.indexByte [64, 42, 35, 63, 45, 36, 33, 48] (bt s i).toNat.toUInt8 = x at HI HO
  by_cases hx : 0 ≤ x
  · rw [if_pos (by rw [HO.out, decide_eq_true hx])] at hR
    have HR := Lib.hid hR
    have x1 : (0 ≤ x) = True := eq_true hx
    clear hx hR HO
    go_enter Tryz.func78, Tryz.ntmps78
    go_wp2_with (go_at_call 80; refine HI.out.mono ?_; rintro e w' ⟨rfl, rfl⟩)
    go_ret
    exact ⟨ret_int (by rw [← HR.out]; omega), rfl⟩
  rw [if_neg (by rw [HO.out, decide_eq_false hx]; simp)] at hR
  have x1 : (0 ≤ x) = False := eq_false hx
  clear hx HO
  have HD := Lib.hid (wd_digit (bt s i) W)
  cases hd : LX.digit (bt s i) with
  | true =>
    rw [if_pos hd] at hR
    rw [hd] at HD
    have HR := Lib.hid hR
    clear hd hR
    go_enter Tryz.func78, Tryz.ntmps78
    go_wp2_with (first | (go_at_call 80; refine HI.out.mono ?_; rintro e w' ⟨rfl, rfl⟩) | (go_at_call 53; refine HD.out.mono ?_; rintro e w' ⟨rfl, rfl⟩))
    go_loop [1, 6] (fun v n => ∃ (m : Nat) (q : Int), v = .int .i64 m ∧ n = .int .i64 q ∧ m ≤ s.length ∧ 0 ≤ q ∧ q ≤ 2147483647 ∧ Hid (m + WP.numLen (s.drop m) q = R)) (fun v _ => s.length - (intOf v).toNat)
    case atStart => exact ⟨i, 0, rfl, rfl, hi, by omega, by omega, HR.out⟩
    case round =>
      obtain ⟨m, q, rfl, rfl, hm, hq0, hq1, HN⟩ := hrel
      by_cases hmt : m < s.length
      · obtain ⟨y, hy, hb, _⟩ := drop_cons s m hmt
        have m1 : ((m : Int) < (s.length : Int)) = True := eq_true (by omega)
        have HD2 := Lib.hid (wd_digit (bt s m) W)
        have HY := Lib.hid (show WP.numLen (s.drop m) q = if LX.digit (bt s m) = true ∧ 10 * q + (bt s m - 48) ≤ 2147483647 then 1 + WP.numLen (s.drop (m + 1)) (10 * q + (bt s m - 48)) else 0 by rw [hy, WP.numLen, hb])
        clear hy hb
        cases hdm : LX.digit (bt s m) with
        | true =>
          have hbd : 48 ≤ bt s m ∧ bt s m ≤ 57 := by unfold LX.digit at hdm; exact of_decide_eq_true hdm
          obtain ⟨b1, b2⟩ := hbd
          rw [hdm] at HD2
          obtain ⟨b, hbm⟩ : ∃ b, bt s m = b := ⟨_, rfl⟩
          rw [hbm] at HD2 HY b1 b2 hdm
          by_cases hle : 10 * q + (b - 48) ≤ 2147483647
          · have HY2 := HY.out
            rw [if_pos ⟨hdm, hle⟩] at HY2
            replace HY2 := Lib.hid HY2
            clear hdm HY
            go_wp2_with (go_at_call 53; refine HD2.out.mono ?_; rintro e w' ⟨rfl, rfl⟩)
            go_round
            case rel => exact ⟨m + 1, 10 * q + (b - 48), by go_num, rfl, by omega, by omega, hle, by show _ = _; rw [← HN.out, HY2.out]; omega⟩
            case measure => simp [intOf]; omega
          · have HY2 := HY.out
            rw [if_neg (fun e => hle e.2)] at HY2
            replace HY2 := Lib.hid HY2
            clear hdm HY
            go_wp2_with (go_at_call 53; refine HD2.out.mono ?_; rintro e w' ⟨rfl, rfl⟩)
            go_ret
            exact ⟨ret_int (by rw [← HN.out, HY2.out]; simp), rfl⟩
        | false =>
          have HY2 := HY.out
          rw [if_neg (fun e => by rw [hdm] at e; cases e.1)] at HY2
          replace HY2 := Lib.hid HY2
          rw [hdm] at HD2
          clear hdm HY
          go_wp2_with (go_at_call 53; refine HD2.out.mono ?_; rintro e w' ⟨rfl, rfl⟩)
          go_ret
          exact ⟨ret_int (by rw [← HN.out, HY2.out]; simp), rfl⟩
      · have m1 : ((m : Int) < (s.length : Int)) = False := eq_false (by omega)
        have HY2 := Lib.hid (show WP.numLen (s.drop m) q = 0 by rw [List.drop_eq_nil_of_le (by omega)]; rfl)
        go_wp2
        go_ret
        exact ⟨ret_int (by rw [← HN.out, HY2.out]; simp), rfl⟩
  | false =>
    rw [if_neg (by rw [hd]; simp)] at hR
    rw [hd] at HD
    clear hd
    have HST := Lib.hid (wd_starts (bt s i) W)
    cases hs : LX.starts (bt s i) with
    | false =>
      rw [if_neg (by rw [hs]; simp)] at hR
      rw [hs] at HST
      have HR := Lib.hid hR
      clear hs hR
      go_enter Tryz.func78, Tryz.ntmps78
      go_wp2_with (first | (go_at_call 80; refine HI.out.mono ?_; rintro e w' ⟨rfl, rfl⟩) | (go_at_call 53; refine HD.out.mono ?_; rintro e w' ⟨rfl, rfl⟩) | (go_at_call 52; refine HST.out.mono ?_; rintro e w' ⟨rfl, rfl⟩))
      go_ret
      exact ⟨ret_int (by rw [← HR.out]), rfl⟩
    | true =>
      rw [if_pos hs] at hR
      rw [hs] at HST
      have HR := Lib.hid hR
      clear hs hR
      go_enter Tryz.func78, Tryz.ntmps78
      go_wp2_with (first | (go_at_call 80; refine HI.out.mono ?_; rintro e w' ⟨rfl, rfl⟩) | (go_at_call 53; refine HD.out.mono ?_; rintro e w' ⟨rfl, rfl⟩) | (go_at_call 52; refine HST.out.mono ?_; rintro e w' ⟨rfl, rfl⟩))
      go_loop [1] (fun v => ∃ m : Nat, v = .int .i64 m ∧ m ≤ s.length ∧ Hid (LX.nameEnd s m = R)) (fun v => s.length - (intOf v).toNat)
      case atStart => exact ⟨i, rfl, hi, HR.out⟩
      case round =>
        obtain ⟨m, rfl, hm, HN⟩ := hrel
        have HS2 := Lib.hid (wd_starts (bt s m) W)
        have HD2 := Lib.hid (wd_digit (bt s m) W)
        by_cases hmt : m < s.length
        · have m1 : ((m : Int) < (s.length : Int)) = True := eq_true (by omega)
          cases hg : LX.starts (bt s m) || LX.digit (bt s m) with
          | true =>
            have HGO := Lib.hid (LX.nameEnd_go hmt hg)
            cases h1 : LX.starts (bt s m) with
            | true =>
              rw [h1] at HS2
              clear hg h1
              go_wp2_with (go_at_call 52; refine HS2.out.mono ?_; rintro e w' ⟨rfl, rfl⟩)
              go_round
              case rel => exact ⟨m + 1, by go_num, by omega, by show _ = _; rw [← HGO.out]; exact HN.out⟩
              case measure => simp [intOf]; omega
            | false =>
              rw [h1, Bool.false_or] at hg
              rw [h1] at HS2
              rw [hg] at HD2
              clear hg h1
              go_wp2_with (first | (go_at_call 52; refine HS2.out.mono ?_; rintro e w' ⟨rfl, rfl⟩) | (go_at_call 53; refine HD2.out.mono ?_; rintro e w' ⟨rfl, rfl⟩))
              go_round
              case rel => exact ⟨m + 1, by go_num, by omega, by show _ = _; rw [← HGO.out]; exact HN.out⟩
              case measure => simp [intOf]; omega
          | false =>
            have HSP := Lib.hid (LX.nameEnd_stop hmt hg)
            have hg2 := Bool.or_eq_false_iff.1 hg
            rw [hg2.1] at HS2
            rw [hg2.2] at HD2
            clear hg hg2
            go_wp2_with (first | (go_at_call 52; refine HS2.out.mono ?_; rintro e w' ⟨rfl, rfl⟩) | (go_at_call 53; refine HD2.out.mono ?_; rintro e w' ⟨rfl, rfl⟩))
            go_ret
            exact ⟨ret_int (by have h1 := HN.out; have h2 := HSP.out; omega), rfl⟩
        · have m1 : ((m : Int) < (s.length : Int)) = False := eq_false (by omega)
          have HSP := Lib.hid (LX.nameEnd_end (s := s) (i := m) (by omega))
          go_wp2
          go_ret
          exact ⟨ret_int (by have h1 := HN.out; have h2 := HSP.out; omega), rfl⟩
end
end W
end Go.Proofs.YtmgomklpjjkehaaGreat
