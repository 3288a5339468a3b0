/- Several texts in one: R07a R07b R07c R07d R07e. -/
import Derived.Test.YtcbdhheelddgeaaGreatDoorW07e
import Derived.Test.YtcbdhheelddgeaaGreatDoorQ09r
namespace Go.Proofs.YtcbdhheelddgeaaGreatDoor
open Go.RowKit K
namespace LX
theorem sp_all : ∀ n : Nat, n < 256 → ((P.wd n || (P.dg n || P.has [64, 42, 35, 63, 45, 36, 33] n) || n == 123 || n == 40) = (starts n || digit n || special n)) ∧ ((P.dg n || P.has [64, 42, 35, 63, 45, 36, 33] n) = true → starts n = false) ∧ (P.wd n = (starts n || digit n)) ∧ (divides n = (P.bl n || n == 10 || P.ob n)) := by decide +kernel
theorem bt_nat (s : Str) (i : Nat) : ∃ n : Nat, n < 256 ∧ bt s i = (n : Int) := by
  unfold bt
  exact ⟨_, UInt8.toNat_lt _, rfl⟩
theorem wd_bt (s : Str) (i : Nat) : P.wd (bt s i) = (starts (bt s i) || digit (bt s i)) := by
  obtain ⟨n, hn, h⟩ := bt_nat s i
  rw [h]; exact (sp_all n hn).2.2.1
theorem sp_bt (s : Str) (i : Nat) : (P.wd (bt s i) || (P.dg (bt s i) || P.has [64, 42, 35, 63, 45, 36, 33] (bt s i)) || bt s i == 123 || bt s i == 40) = (starts (bt s i) || digit (bt s i) || special (bt s i)) := by
  obtain ⟨n, hn, h⟩ := bt_nat s i
  rw [h]; have := (sp_all n hn).1
  rw [← this]
  congr 1
  · congr 1
    rw [Bool.eq_iff_iff]; simp; omega
  · rw [Bool.eq_iff_iff]; simp; omega
theorem div_bt (s : Str) (i : Nat) : divides (bt s i) = (P.bl (bt s i) || bt s i == 10 || P.ob (bt s i)) := by
  obtain ⟨n, hn, h⟩ := bt_nat s i
  rw [h]; rw [(sp_all n hn).2.2.2]
  congr 2
  rw [Bool.eq_iff_iff]; simp; omega
theorem find_zero {s : Str} {i : Nat} {c : UInt8} (h : i < s.length) (hb : bt s i = (c.toNat : Int)) : find s i c = some 0 := by
  obtain ⟨x, hx, hb2, _⟩ := drop_cons s i h
  unfold find
  rw [hx, List.findIdx?_cons]
  have : x = c := UInt8.toNat_inj.1 (by omega)
  simp [this]
theorem find_next {s : Str} {i : Nat} {c : UInt8} (h : i < s.length) (hb : ¬ bt s i = (c.toNat : Int)) : find s i c = (find s (i + 1) c).map (· + 1) := by
  obtain ⟨x, hx, hb2, _⟩ := drop_cons s i h
  unfold find
  rw [hx, List.findIdx?_cons]
  have : ¬ x = c := by rintro rfl; exact hb hb2
  rw [if_neg (by simpa using this)]
theorem find_past {s : Str} {i : Nat} {c : UInt8} (h : s.length ≤ i) : find s i c = none := by
  unfold find; rw [List.drop_eq_nil_of_le h]; rfl
theorem comment_here {s : Str} {i : Nat} (h : i < s.length) (hb : bt s i = 10) : comment s i = i := by
  unfold comment; rw [find_zero h (by rw [hb]; rfl)]; rfl
theorem comment_go {s : Str} {i : Nat} (h : i < s.length) (hb : ¬ bt s i = 10) : comment s i = comment s (i + 1) := by
  unfold comment; rw [find_next h (by intro e; exact hb (by rw [e]; rfl))]
  cases find s (i + 1) 10 with
  | none => rfl
  | some n => show i + (n + 1) = i + 1 + n; omega
theorem comment_end {s : Str} {i : Nat} (h : s.length ≤ i) : comment s i = s.length := by
  unfold comment; rw [find_past h]
end LX
namespace W
theorem rx_blank (c : Int) (w : World) : Calls Tryz.prog 43 #[.int .u8 c] w fun e w' => e = .returned (.bool (P.bl c)) ∧ w = w' := by
  go_enter Tryz.func43, Tryz.ntmps43
  go_wp2
  all_goals go_ret
  all_goals go_light
  all_goals exact ⟨ret_bool (by unfold P.bl; rw [Bool.eq_iff_iff]; try (simp; try omega)), rfl⟩
theorem rx_op (c : Int) (w : World) : Calls Tryz.prog 107 #[.int .u8 c] w fun e w' => e = .returned (.bool (P.ob c)) ∧ w = w' := by
  go_enter Tryz.func107, Tryz.ntmps107
  go_wp2_with (go_at_call 102; refine (Has_any _ _ _ (by simp)).mono ?_; rintro e w' ⟨rfl, rfl⟩)
  all_goals go_ret
  all_goals exact ⟨ret_bool (by unfold P.ob; rw [Bool.eq_iff_iff]; try (simp_all; try omega)), rfl⟩
theorem rx_special (c : Int) (w : World) : Calls Tryz.prog 142 #[.int .u8 c] w fun e w' => e = .returned (.bool (P.dg c || P.has [64, 42, 35, 63, 45, 36, 33] c)) ∧ w = w' := by
  go_enter Tryz.func142, Tryz.ntmps142
  go_wp2_with (first | (go_at_call 102; refine (Has_any _ _ _ (by simp)).mono ?_; rintro e w' ⟨rfl, rfl⟩) | (go_at_call 109; refine (Digit_any _ _).mono ?_; rintro e w' ⟨rfl, rfl⟩))
  all_goals go_ret
  all_goals exact ⟨ret_bool (by simp [*]), rfl⟩
theorem rx_joined (s : List UInt8) (i : Nat) (w : World) (hl : s.length ≤ 100000) (hi : i ≤ s.length) : Calls Tryz.prog 105 #[.string ⟨s.toArray⟩, .int .i64 i] w fun e w' => e = .returned (.bool (LX.joins s i)) ∧ w = w' := by
  have HR := Lib.hid (@LX.joins_iff s i)
  by_cases h1 : i + 1 < s.length
  · have h1' : ((i : Int) + 1 < (s.length : Int)) = True := eq_true (by omega)
    by_cases h2 : bt s i = 92
    · by_cases h3 : bt s (i + 1) = 10
      · have HX := Lib.hid (HR.out.2 ⟨h2, h3, by omega⟩)
        go_enter Tryz.func105, Tryz.ntmps105
        go_wp2
        go_ret
        exact ⟨ret_bool (by rw [HX.out]), rfl⟩
      · have h3' := beq_f h3
        have HX := Lib.hid (show LX.joins s i = false by rw [Bool.eq_false_iff]; exact fun e => h3 (HR.out.1 e).2.1)
        go_enter Tryz.func105, Tryz.ntmps105
        go_wp2
        go_ret
        exact ⟨ret_bool (by rw [HX.out]), rfl⟩
    · have HX := Lib.hid (show LX.joins s i = false by rw [Bool.eq_false_iff]; exact fun e => h2 (HR.out.1 e).1)
      go_enter Tryz.func105, Tryz.ntmps105
      go_wp2
      all_goals go_ret
      all_goals exact ⟨ret_bool HX.out.symm, rfl⟩
  · have HX := Lib.hid (show LX.joins s i = false by rw [Bool.eq_false_iff]; exact fun e => h1 (by have := (HR.out.1 e).2.2; omega))
    have h1' : ((i : Int) + 1 < (s.length : Int)) = False := eq_false (by omega)
    go_enter Tryz.func105, Tryz.ntmps105
    go_wp2
    go_ret
    exact ⟨ret_bool HX.out.symm, rfl⟩
theorem rx_comment (s : List UInt8) (i : Nat) (w : World) (hi : i ≤ s.length) (hl : s.length ≤ 100000) : Calls Tryz.prog 104 #[.string ⟨s.toArray⟩, .int .i64 i] w fun e w' => e = .returned (.int .i64 (LX.comment s i)) ∧ w = w' := by
  go_enter Tryz.func104, Tryz.ntmps104
  go_wp2
  go_loop [1] (fun v => ∃ k : Nat, v = .int .i64 k ∧ k ≤ s.length ∧ Hid (LX.comment s k = LX.comment s i)) (fun v => s.length - (intOf v).toNat)
  case atStart => exact ⟨i, rfl, hi, rfl⟩
  case round =>
    obtain ⟨k, rfl, hk, HK⟩ := hrel
    by_cases hlt : k < s.length
    · by_cases h10 : bt s k = 10
      · have HE := Lib.hid (LX.comment_here hlt h10)
        go_wp2
        go_ret
        exact ⟨ret_int (by rw [← HK.out, HE.out]), rfl⟩
      · have HE := Lib.hid (LX.comment_go hlt h10)
        go_wp2
        go_round
        case rel => exact ⟨k + 1, by go_num, by omega, by rw [← HE.out]; exact HK.out⟩
        case measure => simp [intOf]; omega
    · have HE := Lib.hid (LX.comment_end (s := s) (i := k) (by omega))
      go_wp2
      go_ret
      exact ⟨ret_int (by rw [← HK.out, HE.out]; omega), rfl⟩
theorem rx_name (s : List UInt8) (i : Nat) (w : World) (hi : i ≤ s.length) (hl : s.length ≤ 100000) : Calls Tryz.prog 146 #[.string ⟨s.toArray⟩, .int .i64 i] w fun e w' => e = .returned (.int .i64 (LX.nameEnd s i)) ∧ w = w' := by
  go_enter Tryz.func146, Tryz.ntmps146
  go_wp2
  go_loop [1] (fun v => ∃ k : Nat, v = .int .i64 k ∧ k ≤ s.length ∧ Hid (LX.nameEnd s k = LX.nameEnd s i)) (fun v => s.length - (intOf v).toNat)
  case atStart => exact ⟨i, rfl, hi, rfl⟩
  case round =>
    obtain ⟨k, rfl, hk, HK⟩ := hrel
    by_cases hlt : k < s.length
    · have HW := Lib.hid (LX.wd_bt s k)
      cases hw : P.wd (bt s k) with
      | true =>
        have HE := Lib.hid (LX.nameEnd_go hlt (by rw [← HW.out, hw]))
        have HC := Lib.hid (fun v => Word_any (bt s k) v)
        rw [hw] at HC
        clear hw
        go_wp2_with (go_at_call 101; refine (HC.out _).mono ?_; rintro e w' ⟨rfl, rfl⟩)
        go_round
        case rel => exact ⟨k + 1, by go_num, by omega, by rw [← HE.out]; exact HK.out⟩
        case measure => simp [intOf]; omega
      | false =>
        have HE := Lib.hid (LX.nameEnd_stop hlt (by rw [← HW.out, hw]))
        have HC := Lib.hid (fun v => Word_any (bt s k) v)
        rw [hw] at HC
        clear hw
        go_wp2_with (go_at_call 101; refine (HC.out _).mono ?_; rintro e w' ⟨rfl, rfl⟩)
        go_ret
        exact ⟨ret_int (by rw [← HK.out, HE.out]), rfl⟩
    · have HE := Lib.hid (LX.nameEnd_end (s := s) (i := k) (by omega))
      go_wp2
      go_ret
      exact ⟨ret_int (by rw [← HK.out, HE.out]), rfl⟩
theorem rx_begins (s : List UInt8) (i : Nat) (w : World) (hi : i < s.length) (hl : s.length ≤ 100000) : Calls Tryz.prog 124 #[.string ⟨s.toArray⟩, .int .i64 i] w fun e w' => e = .returned (.bool (decide (bt s i = 36) && LX.dollar s (i + 1))) ∧ w = w' := by
  have h0 : (i : Int) < (s.length : Int) := by omega
  have HR := Lib.hid (show LX.dollar s (i + 1) = (decide (i + 1 < s.length) && (LX.starts (bt s (i + 1)) || LX.digit (bt s (i + 1)) || LX.special (bt s (i + 1)))) from rfl)
  have HS := Lib.hid (LX.sp_bt s (i + 1))
  by_cases h36 : bt s i = 36
  · have e36 : (bt s i == 36) = true := by rw [beq_iff_eq]; exact h36
    have e36' : (bt s i != 36) = false := by rw [bne, e36]; rfl
    by_cases h1 : i + 1 < s.length
    · have h1' : ((s.length : Int) ≤ (i : Int) + 1) = False := eq_false (by omega)
      obtain ⟨c, hc⟩ : ∃ c, bt s (i + 1) = c := ⟨_, rfl⟩
      rw [hc] at HR HS
      obtain ⟨b1, hb1⟩ : ∃ b, P.wd c = b := ⟨_, rfl⟩
      obtain ⟨b2, hb2⟩ : ∃ b, (P.dg c || P.has [64, 42, 35, 63, 45, 36, 33] c) = b := ⟨_, rfl⟩
      have HA := Lib.hid (fun v => Word_any c v)
      have HB := Lib.hid (fun v => rx_special c v)
      rw [hb1] at HS HA
      rw [hb2] at HS HB
      have HZ := Lib.hid (show LX.dollar s (i + 1) = (b1 || b2 || c == 123 || c == 40) by rw [HR.out, decide_eq_true h1, ← HS.out]; simp)
      clear HR HS
      clear hb1 hb2
      obtain ⟨b3, hb3⟩ : ∃ b, (c == 123) = b := ⟨_, rfl⟩
      obtain ⟨b4, hb4⟩ : ∃ b, (c == 40) = b := ⟨_, rfl⟩
      rw [hb3, hb4] at HZ
      cases b1
      · cases b2
        · cases b3
          · cases b4
            all_goals
              go_enter Tryz.func124, Tryz.ntmps124
              go_wp2_with (first | (go_at_call 101; refine (HA.out _).mono ?_; rintro e w' ⟨rfl, rfl⟩) | (go_at_call 142; refine (HB.out _).mono ?_; rintro e w' ⟨rfl, rfl⟩))
              go_ret
              exact ⟨ret_bool (by rw [HZ.out]; simp [h36]), rfl⟩
          · go_enter Tryz.func124, Tryz.ntmps124
            go_wp2_with (first | (go_at_call 101; refine (HA.out _).mono ?_; rintro e w' ⟨rfl, rfl⟩) | (go_at_call 142; refine (HB.out _).mono ?_; rintro e w' ⟨rfl, rfl⟩))
            go_ret
            exact ⟨ret_bool (by rw [HZ.out]; simp [h36]), rfl⟩
        · go_enter Tryz.func124, Tryz.ntmps124
          go_wp2_with (first | (go_at_call 101; refine (HA.out _).mono ?_; rintro e w' ⟨rfl, rfl⟩) | (go_at_call 142; refine (HB.out _).mono ?_; rintro e w' ⟨rfl, rfl⟩))
          go_ret
          exact ⟨ret_bool (by rw [HZ.out]; simp [h36]), rfl⟩
      · go_enter Tryz.func124, Tryz.ntmps124
        go_wp2_with (first | (go_at_call 101; refine (HA.out _).mono ?_; rintro e w' ⟨rfl, rfl⟩) | (go_at_call 142; refine (HB.out _).mono ?_; rintro e w' ⟨rfl, rfl⟩))
        go_ret
        exact ⟨ret_bool (by rw [HZ.out]; simp [h36]), rfl⟩
    · have h1' : ((s.length : Int) ≤ (i : Int) + 1) = True := eq_true (by omega)
      go_enter Tryz.func124, Tryz.ntmps124
      go_wp2
      go_ret
      exact ⟨ret_bool (by rw [HR.out, decide_eq_false h1]; simp), rfl⟩
  · have e36 : (bt s i == 36) = false := by rw [beq_eq_false_iff_ne]; exact h36
    have e36' : (bt s i != 36) = true := by rw [bne, e36]; rfl
    go_enter Tryz.func124, Tryz.ntmps124
    go_wp2
    all_goals go_ret
    all_goals exact ⟨ret_bool (by simp [h36]), rfl⟩
end W
end Go.Proofs.YtcbdhheelddgeaaGreatDoor
namespace Go.Proofs.YtcbdhheelddgeaaGreatDoor
open Go.RowKit K
namespace LX
/-- What the reference's Pass gives: the construct that begins, or the byte. -/
def pas : Nat → Str → Nat → Bool → Bool → Nat × Int
  | 0, _, a, _, _ => (a, 7)
  | f + 1, s, a, q, d => if (q = true ∧ (bt s a = 39 ∨ bt s a = 34)) ∨ begins s a = false then (a + 1, 0) else con f s a q d
theorem pas_ins (f : Nat) (s : Str) (a : Nat) (d : Bool) : ins f s a true d = pas f s a true d := by
  cases f with
  | zero => rw [ins, pas]
  | succ f =>
    rw [ins, pas]
    by_cases h : bt s a = 39 ∨ bt s a = 34 ∨ begins s a = false
    · rw [if_pos h, if_pos (by rcases h with h | h | h; exact .inl ⟨rfl, .inl h⟩; exact .inl ⟨rfl, .inr h⟩; exact .inr h)]
    · rw [if_neg h, if_neg (by rintro (⟨_, h1 | h1⟩ | h1); exact h (.inl h1); exact h (.inr (.inl h1)); exact h (.inr (.inr h1)))]
theorem pas_good (f : Nat) (s : Str) (a : Nat) (q d : Bool) (h : a < s.length) : Good s.length a (pas f s a q d) := by
  cases f with
  | zero => rw [pas]; exact good_no (by omega)
  | succ f =>
    rw [pas]
    refine good_ite (fun _ => good_ok (by omega) (by omega)) (fun h1 => (good_all f).con s a q d h ?_)
    cases hb : begins s a
    · exact absurd (.inr hb) h1
    · rfl
/-- The reference's three contexts, as the program's two marks. -/
def PL (p : Int) (q d : Bool) : Prop := (p = 0 ∧ q = false ∧ d = false) ∨ (p = 1 ∧ q = true ∧ d = true) ∨ (p = 2 ∧ q = true ∧ d = false)
end LX
namespace W
/-- What a call of a function of the reference's lexer gives. -/
def PairR (w : World) (k : Nat) (x : Int) (e : Ending) (w' : World) : Prop := e = .returned (.tuple #[.int .i64 k, .int .i64 x]) ∧ w = w'
structure RexC (f : Nat) : Prop where
  pas : ∀ (s : List UInt8) (a : Nat) (p : Int) (q d : Bool) (w : World) (k : Nat) (x : Int), LX.PL p q d → s.length ≤ 100000 → a < s.length → 3 * (s.length - a) + 2 ≤ f → LX.pas f s a q d = (k, x) →
    Calls Tryz.prog 108 #[.string ⟨s.toArray⟩, .int .i64 a, .int .i64 p] w (PairR w k x)
  exp : ∀ (s : List UInt8) (a : Nat) (p : Int) (q d : Bool) (w : World) (k : Nat) (x : Int), LX.PL p q d → s.length ≤ 100000 → a < s.length → bt s a = 36 → LX.dollar s (a + 1) = true → 3 * (s.length - a) + 1 ≤ f → LX.con f s a q d = (k, x) →
    Calls Tryz.prog 125 #[.string ⟨s.toArray⟩, .int .i64 a, .int .i64 p] w (PairR w k x)
  dbl : ∀ (s : List UInt8) (a : Nat) (w : World) (k : Nat) (x : Int), s.length ≤ 100000 → a < s.length → 3 * (s.length - (a + 1)) + 3 ≤ f → LX.dbl f s a (a + 1) = (k, x) →
    Calls Tryz.prog 127 #[.string ⟨s.toArray⟩, .int .i64 a] w (PairR w k x)
  ari : ∀ (s : List UInt8) (a : Nat) (w : World) (k : Nat) (x : Int), s.length ≤ 100000 → a + 3 ≤ s.length → 3 * (s.length - (a + 3)) + 3 ≤ f → LX.ari f s a (a + 3) 0 = (k, x) →
    Calls Tryz.prog 144 #[.string ⟨s.toArray⟩, .int .i64 a] w (PairR w k x)
  cmd : ∀ (s : List UInt8) (a : Nat) (w : World) (k : Nat) (x : Int), s.length ≤ 100000 → a + 2 ≤ s.length → 3 * (s.length - (a + 2)) + 3 ≤ f → LX.cmd f s a (a + 2) 0 true = (k, x) →
    Calls Tryz.prog 145 #[.string ⟨s.toArray⟩, .int .i64 a] w (PairR w k x)
  brc : ∀ (s : List UInt8) (a : Nat) (p : Int) (q d : Bool) (w : World) (k : Nat) (x : Int), LX.PL p q d → s.length ≤ 100000 → a + 2 ≤ s.length → 3 * (s.length - (a + 2)) + 3 ≤ f → LX.brc f s a (a + 2) q d = (k, x) →
    Calls Tryz.prog 143 #[.string ⟨s.toArray⟩, .int .i64 a, .int .i64 p] w (PairR w k x)
set_option maxRecDepth 100000 in
theorem rx_single (s : List UInt8) (a : Nat) (w : World) (k : Nat) (x : Int) (hl : s.length ≤ 100000) (ha : a < s.length) (hr : (match LX.find s (a + 1) 39 with | none => (a, 7) | some n => (a + n + 2, 0)) = (k, x)) :
    Calls Tryz.prog 126 #[.string ⟨s.toArray⟩, .int .i64 a] w (PairR w k x) := by
  obtain ⟨o, ho⟩ : ∃ o, LX.find s (a + 1) 39 = o := ⟨_, rfl⟩
  rw [ho] at hr
  have HO := Lib.hid ho
  have HR := Lib.hid hr
  clear ho hr
  go_enter Tryz.func126, Tryz.ntmps126
  go_wp2
  go_loop [6] (fun v => ∃ i : Nat, v = .int .i64 i ∧ a < i ∧ i ≤ s.length ∧ Hid (o = (LX.find s i 39).map (· + (i - (a + 1))))) (fun v => s.length - (intOf v).toNat)
  case atStart => exact ⟨a + 1, by go_num, by omega, by omega, by rw [← HO.out, Nat.sub_self]; cases LX.find s (a + 1) 39 <;> rfl⟩
  case round =>
    obtain ⟨i, rfl, hi1, hi2, HI⟩ := hrel
    by_cases hlt : i < s.length
    · by_cases h39 : bt s i = 39
      · have HF := Lib.hid (LX.find_zero (c := 39) hlt (by rw [h39]; rfl))
        go_wp2
        go_ret2
        refine ⟨?_, rfl⟩
        have h := HI.out
        rw [HF.out] at h
        have h2 := HR.out
        rw [h] at h2
        exact ret_two (by have := fst_of h2; dsimp only at this; omega) (snd_of h2)
      · have HF := Lib.hid (LX.find_next (c := 39) hlt (by intro e; exact h39 (by rw [e]; rfl)))
        go_wp2
        go_round
        case rel => exact ⟨i + 1, by go_num, by omega, by omega, by
          rw [HI.out, HF.out]
          cases LX.find s (i + 1) 39 with
          | none => rfl
          | some n => show some _ = some _; congr 1; dsimp only; omega⟩
        case measure => simp [intOf]; omega
    · have HF := Lib.hid (LX.find_past (s := s) (i := i) (c := 39) (by omega))
      go_wp2
      go_ret2
      refine ⟨?_, rfl⟩
      have h := HI.out
      rw [HF.out] at h
      have h2 := HR.out
      rw [h] at h2
      exact ret_two (by have := fst_of h2; omega) (snd_of h2)
set_option maxRecDepth 100000 in
theorem rx_bkq (f : Nat) (s : List UInt8) (a : Nat) (w : World) (k : Nat) (x : Int) (hl : s.length ≤ 100000) (ha : a < s.length) (hf : s.length - (a + 1) + 1 ≤ f) (hr : LX.bkq f s a (a + 1) = (k, x)) :
    Calls Tryz.prog 123 #[.string ⟨s.toArray⟩, .int .i64 a] w (PairR w k x) := by
  have HF := Lib.hid hf
  have HR := Lib.hid hr
  clear hf hr
  go_enter Tryz.func123, Tryz.ntmps123
  go_wp2
  go_loop [6] (fun v => ∃ i g : Nat, v = .int .i64 i ∧ a < i ∧ i ≤ s.length ∧ Hid (s.length - i + 1 ≤ g ∧ LX.bkq g s a i = (k, x))) (fun v => s.length - (intOf v).toNat)
  case atStart => exact ⟨a + 1, f, by go_num, by omega, by omega, HF.out, HR.out⟩
  case round =>
    obtain ⟨i, g, rfl, hi1, hi2, HG⟩ := hrel
    obtain ⟨g, rfl⟩ : ∃ g', g = g' + 1 := ⟨g - 1, by have := HG.out; omega⟩
    have HE := HG.out.2
    rw [LX.bkq] at HE
    by_cases hlt : i < s.length
    · rw [if_pos hlt] at HE
      by_cases h96 : bt s i = 96
      · rw [if_pos h96] at HE
        replace HE := Lib.hid HE
        go_wp2
        go_ret2
        exact ⟨ret_two (by have := fst_of HE.out; omega) (snd_of HE.out), rfl⟩
      · rw [if_neg h96] at HE
        by_cases h92 : bt s i = 92
        · rw [if_pos h92] at HE
          by_cases hi3 : i + 1 = s.length
          · rw [if_pos hi3] at HE
            replace HE := Lib.hid HE
            have ht : ((i : Int) + 1 == (s.length : Int)) = true := by rw [beq_iff_eq]; omega
            go_wp2
            go_ret2
            exact ⟨ret_two (fst_of HE.out) (snd_of HE.out), rfl⟩
          · rw [if_neg hi3] at HE
            replace HE := Lib.hid HE
            have ht : ((i : Int) + 1 == (s.length : Int)) = false := by rw [beq_eq_false_iff_ne]; omega
            go_wp2
            go_round
            case rel => exact ⟨i + 2, g, by go_num, by omega, by omega, by have := HG.out.1; omega, HE.out⟩
            case measure => simp [intOf]; omega
        · rw [if_neg h92] at HE
          replace HE := Lib.hid HE
          have e92 := beq_f h92
          go_wp2
          go_round
          case rel => exact ⟨i + 1, g, by go_num, by omega, by omega, by have := HG.out.1; omega, HE.out⟩
          case measure => simp [intOf]; omega
    · rw [if_neg hlt] at HE
      replace HE := Lib.hid HE
      go_wp2
      go_ret2
      exact ⟨ret_two (fst_of HE.out) (snd_of HE.out), rfl⟩
set_option maxRecDepth 100000 in
theorem rx_dbl {f : Nat} (ih : ∀ g, g ≤ f → RexC g) (s : List UInt8) (a : Nat) (w : World) (k : Nat) (x : Int) (hl : s.length ≤ 100000) (ha : a < s.length) (hf : 3 * (s.length - (a + 1)) + 3 ≤ f + 1) (hr : LX.dbl (f + 1) s a (a + 1) = (k, x)) :
    Calls Tryz.prog 127 #[.string ⟨s.toArray⟩, .int .i64 a] w (PairR w k x) := by
  have IH := Lib.hid ih
  have HF := Lib.hid hf
  have HR := Lib.hid hr
  clear ih hf hr
  go_enter Tryz.func127, Tryz.ntmps127
  go_wp2
  go_loop [6] (fun v => ∃ i g : Nat, v = .int .i64 i ∧ a < i ∧ i ≤ s.length ∧ Hid (g ≤ f + 1 ∧ 3 * (s.length - i) + 3 ≤ g ∧ LX.dbl g s a i = (k, x))) (fun v => s.length - (intOf v).toNat)
  case atStart => exact ⟨a + 1, f + 1, by go_num, by omega, by omega, ⟨Nat.le_refl _, HF.out, HR.out⟩⟩
  case round =>
    obtain ⟨i, g, rfl, hi1, hi2, HG⟩ := hrel
    obtain ⟨g, rfl⟩ : ∃ g', g = g' + 1 := ⟨g - 1, by have := HG.out; omega⟩
    have HE := HG.out.2.2
    rw [LX.dbl] at HE
    by_cases hlt : i < s.length
    · rw [if_pos hlt] at HE
      by_cases h34 : bt s i = 34
      · rw [if_pos h34] at HE
        replace HE := Lib.hid HE
        go_wp2
        go_ret2
        exact ⟨ret_two (by have := fst_of HE.out; omega) (snd_of HE.out), rfl⟩
      · rw [if_neg h34, LX.pas_ins] at HE
        obtain ⟨j, y, hj⟩ : ∃ j y, LX.pas g s i true true = (j, y) := ⟨_, _, rfl⟩
        have HC := Lib.hid (fun wr => (IH.out g (by have := HG.out; omega)).pas s i 1 true true wr j y (.inr (.inl ⟨rfl, rfl, rfl⟩)) hl hlt (by have := HG.out; omega) hj)
        have HGD := LX.pas_good g s i true true hlt
        rw [hj] at HE HGD
        obtain ⟨hj1, hj2, hj3⟩ := HGD
        replace HE := Lib.hid HE
        clear hj
        go_wp2_with fail
        refine (HC.out _).mono ?_
        rintro e1 w1 ⟨rfl, rfl⟩
        (try dsimp only at hj1 hj2 hj3)
        rcases hj3 with rfl | rfl | rfl
        · have hj4 := hj2 rfl
          clear hj2
          go_wp2
          go_round
          case rel => exact ⟨j, g, rfl, by omega, hj1, ⟨by have := HG.out; omega, by have := HG.out; omega, HE.out⟩⟩
          case measure => simp [intOf]; omega
        all_goals
          clear hj2
          go_wp2
          go_ret2
          exact ⟨ret_two (fst_of HE.out) (snd_of HE.out), rfl⟩
    · rw [if_neg hlt] at HE
      replace HE := Lib.hid HE
      go_wp2
      go_ret2
      exact ⟨ret_two (fst_of HE.out) (snd_of HE.out), rfl⟩
end W
end Go.Proofs.YtcbdhheelddgeaaGreatDoor
namespace Go.Proofs.YtcbdhheelddgeaaGreatDoor
open Go.RowKit K
namespace W
set_option maxRecDepth 100000 in
set_option maxHeartbeats 1000000 in
theorem rx_ari {f : Nat} (ih : ∀ g, g ≤ f → RexC g) (s : List UInt8) (a : Nat) (w : World) (k : Nat) (x : Int) (hl : s.length ≤ 100000) (ha : a + 3 ≤ s.length) (hf : 3 * (s.length - (a + 3)) + 3 ≤ f + 1) (hr : LX.ari (f + 1) s a (a + 3) 0 = (k, x)) :
    Calls Tryz.prog 144 #[.string ⟨s.toArray⟩, .int .i64 a] w (PairR w k x) := by
  have IH := Lib.hid ih
  have HF := Lib.hid hf
  have HR := Lib.hid hr
  clear ih hf hr
  go_enter Tryz.func144, Tryz.ntmps144
  go_wp2
  go_loop [6, 7] (fun v n => ∃ i g m : Nat, v = .int .i64 i ∧ n = .int .i64 m ∧ m ≤ i ∧ a < i ∧ i ≤ s.length ∧ Hid (g ≤ f + 1 ∧ 3 * (s.length - i) + 3 ≤ g ∧ LX.ari g s a i m = (k, x))) (fun v _ => s.length - (intOf v).toNat)
  case atStart => exact ⟨a + 3, f + 1, 0, by go_num, rfl, by omega, by omega, by omega, ⟨Nat.le_refl _, HF.out, HR.out⟩⟩
  case round =>
    obtain ⟨i, g, m, rfl, rfl, hm, hi1, hi2, HG⟩ := hrel
    obtain ⟨g, rfl⟩ : ∃ g', g = g' + 1 := ⟨g - 1, by have := HG.out; omega⟩
    have HE := HG.out.2.2
    rw [LX.ari] at HE
    by_cases hlt : i < s.length
    · rw [if_pos hlt] at HE
      obtain ⟨j, y, hj⟩ : ∃ j y, LX.ins g s i true false = (j, y) := ⟨_, _, rfl⟩
      have HC := Lib.hid (fun wr => (IH.out g (by have := HG.out; omega)).pas s i 2 true false wr j y (.inr (.inr ⟨rfl, rfl, rfl⟩)) hl hlt (by have := HG.out; omega) (by rw [← LX.pas_ins]; exact hj))
      have HGD := (LX.good_all g).ins s i true false hlt
      rw [hj] at HE HGD
      obtain ⟨hj1, hj2, hj3⟩ := HGD
      (try dsimp only at hj1 hj2 hj3)
      clear hj
      by_cases h40 : bt s i = 40
      · rw [if_pos h40] at HE
        replace HE := Lib.hid HE
        go_wp2_with fail
        refine (HC.out _).mono ?_
        rintro e1 w1 ⟨rfl, rfl⟩
        rcases hj3 with rfl | rfl | rfl
        · have hj4 := hj2 rfl
          clear hj2
          go_wp2
          go_round
          case rel => exact ⟨j, g, m + 1, rfl, by go_num, by omega, by omega, hj1, ⟨by have := HG.out; omega, by have := HG.out; omega, HE.out⟩⟩
          case measure => simp [intOf]; omega
        all_goals
          clear hj2
          go_wp2
          go_ret2
          exact ⟨ret_two (fst_of HE.out) (snd_of HE.out), rfl⟩
      rw [if_neg h40] at HE
      have e40 := beq_f h40
      by_cases h41 : bt s i = 41
      · by_cases hm0 : 0 < m
        · rw [if_pos ⟨h41, hm0⟩] at HE
          replace HE := Lib.hid HE
          have hm1 : ((0 : Int) < (m : Int)) = True := eq_true (by omega)
          have hm3 : (0 < m) = True := eq_true (by omega)
          have hm2 : (1 : Int) ≤ (m : Int) := by omega
          go_wp2_with fail
          refine (HC.out _).mono ?_
          rintro e1 w1 ⟨rfl, rfl⟩
          rcases hj3 with rfl | rfl | rfl
          · have hj4 := hj2 rfl
            clear hj2
            go_wp2
            go_round
            case rel => exact ⟨j, g, m - 1, rfl, by go_num, by omega, by omega, hj1, ⟨by have := HG.out; omega, by have := HG.out; omega, HE.out⟩⟩
            case measure => simp [intOf]; omega
          all_goals
            clear hj2
            go_wp2
            go_ret2
            exact ⟨ret_two (fst_of HE.out) (snd_of HE.out), rfl⟩
        · rw [if_neg (fun h => hm0 h.2), if_pos h41] at HE
          have hm1 : ((0 : Int) < (m : Int)) = False := eq_false (by omega)
          have hm3 : (0 < m) = False := eq_false (by omega)
          clear HC hj1 hj2 hj3
          by_cases hi3 : i + 1 = s.length
          · rw [if_pos hi3] at HE
            replace HE := Lib.hid HE
            have ht : ((i : Int) + 1 == (s.length : Int)) = true := by rw [beq_iff_eq]; omega
            go_wp2
            go_ret2
            exact ⟨ret_two (fst_of HE.out) (snd_of HE.out), rfl⟩
          rw [if_neg hi3] at HE
          have ht : ((i : Int) + 1 == (s.length : Int)) = false := by rw [beq_eq_false_iff_ne]; omega
          by_cases h5 : bt s (i + 1) = 41
          · rw [if_pos h5] at HE
            replace HE := Lib.hid HE
            go_wp2
            go_ret2
            exact ⟨ret_two (by have := fst_of HE.out; omega) (snd_of HE.out), rfl⟩
          · rw [if_neg h5] at HE
            replace HE := Lib.hid HE
            have e5 := beq_f h5
            go_wp2
            go_ret2
            exact ⟨ret_two (fst_of HE.out) (snd_of HE.out), rfl⟩
      · rw [if_neg (fun h => h41 h.1), if_neg h41] at HE
        replace HE := Lib.hid HE
        have e41 := beq_f h41
        go_wp2_with fail
        refine (HC.out _).mono ?_
        rintro e1 w1 ⟨rfl, rfl⟩
        rcases hj3 with rfl | rfl | rfl
        · have hj4 := hj2 rfl
          clear hj2
          go_wp2
          go_round
          case rel => exact ⟨j, g, m, rfl, rfl, by omega, by omega, hj1, ⟨by have := HG.out; omega, by have := HG.out; omega, HE.out⟩⟩
          case measure => simp [intOf]; omega
        all_goals
          clear hj2
          go_wp2
          go_ret2
          exact ⟨ret_two (fst_of HE.out) (snd_of HE.out), rfl⟩
    · rw [if_neg hlt] at HE
      replace HE := Lib.hid HE
      go_wp2
      go_ret2
      exact ⟨ret_two (fst_of HE.out) (snd_of HE.out), rfl⟩
set_option maxRecDepth 100000 in
set_option maxHeartbeats 1000000 in
theorem rx_brc {f : Nat} (ih : ∀ g, g ≤ f + 1 → ∀ (s : List UInt8) (a : Nat) (p : Int) (q d : Bool) (w : World) (k : Nat) (x : Int), LX.PL p q d → s.length ≤ 100000 → a < s.length → 3 * (s.length - a) + 2 ≤ g → LX.pas g s a q d = (k, x) →
    Calls Tryz.prog 108 #[.string ⟨s.toArray⟩, .int .i64 a, .int .i64 p] w (PairR w k x)) (s : List UInt8) (a : Nat) (p : Int) (q d : Bool) (w : World) (k : Nat) (x : Int) (hp : LX.PL p q d) (hl : s.length ≤ 100000) (ha : a + 2 ≤ s.length) (hf : 3 * (s.length - (a + 2)) + 3 ≤ f + 1) (hr : LX.brc (f + 1) s a (a + 2) q d = (k, x)) :
    Calls Tryz.prog 143 #[.string ⟨s.toArray⟩, .int .i64 a, .int .i64 p] w (PairR w k x) := by
  have IH := Lib.hid ih
  have HF := Lib.hid hf
  have HR := Lib.hid hr
  have HP := Lib.hid hp
  obtain ⟨z, hz⟩ : ∃ z, (p == 1) = z := ⟨_, rfl⟩
  have HZ := Lib.hid (show z = d by rw [← hz]; rcases hp with ⟨rfl, rfl, rfl⟩ | ⟨rfl, rfl, rfl⟩ | ⟨rfl, rfl, rfl⟩ <;> rfl)
  clear ih hf hr hp
  go_enter Tryz.func143, Tryz.ntmps143
  go_wp2
  go_loop [8] (fun v => ∃ i g : Nat, v = .int .i64 i ∧ a < i ∧ i ≤ s.length ∧ Hid (g ≤ f + 1 ∧ 3 * (s.length - i) + 3 ≤ g ∧ LX.brc g s a i q d = (k, x))) (fun v => s.length - (intOf v).toNat)
  case atStart => exact ⟨a + 2, f + 1, by go_num, by omega, by omega, ⟨Nat.le_refl _, HF.out, HR.out⟩⟩
  case round =>
    obtain ⟨i, g, rfl, hi1, hi2, HG⟩ := hrel
    obtain ⟨g, rfl⟩ : ∃ g', g = g' + 1 := ⟨g - 1, by have := HG.out; omega⟩
    have HE := HG.out.2.2
    rw [LX.brc] at HE
    by_cases hlt : i < s.length
    · rw [if_pos hlt] at HE
      by_cases h125 : bt s i = 125
      · rw [if_pos h125] at HE
        replace HE := Lib.hid HE
        go_wp2
        go_ret2
        exact ⟨ret_two (by have := fst_of HE.out; omega) (snd_of HE.out), rfl⟩
      rw [if_neg h125] at HE
      have e125 := beq_f h125
      by_cases h6 : bt s i = 34 ∧ d = true
      · rw [if_pos h6] at HE
        obtain ⟨h34, rfl⟩ := h6
        rw [HZ.out] at hz
        replace HE := Lib.hid HE
        go_wp2
        go_ret2
        exact ⟨ret_two (fst_of HE.out) (snd_of HE.out), rfl⟩
      rw [if_neg h6] at HE
      obtain ⟨j, y, hj⟩ : ∃ j y, LX.pas (g + 1) s i q d = (j, y) := ⟨_, _, rfl⟩
      have HC := Lib.hid (fun wr => IH.out (g + 1) (by have := HG.out; omega) s i p q d wr j y HP.out hl hlt (by have := HG.out; omega) hj)
      have HGD := LX.pas_good (g + 1) s i q d hlt
      rw [hj] at HGD
      obtain ⟨hj1, hj2, hj3⟩ := HGD
      (try dsimp only at hj1 hj2 hj3)
      have hN : (y = 0 → LX.brc g s a j q d = (k, x)) ∧ (¬ y = 0 → (j, y) = (k, x)) := by
        rw [LX.pas] at hj
        by_cases h7 : ((bt s i = 34 ∨ bt s i = 39) ∧ q = true) ∨ LX.begins s i = false
        · rw [if_pos h7] at HE
          rw [if_pos (by rcases h7 with ⟨h | h, h2⟩ | h; exact .inl ⟨h2, .inr h⟩; exact .inl ⟨h2, .inl h⟩; exact .inr h)] at hj
          obtain ⟨rfl, rfl⟩ := Prod.mk.inj hj
          exact ⟨fun _ => HE, fun h => absurd rfl h⟩
        · rw [if_neg h7] at HE
          rw [if_neg (by rintro (⟨h2, h | h⟩ | h); exact h7 (.inl ⟨.inr h, h2⟩); exact h7 (.inl ⟨.inl h, h2⟩); exact h7 (.inr h))] at hj
          rw [hj] at HE
          unfold LX.thn at HE
          exact ⟨fun h => by rw [if_pos h] at HE; exact HE, fun h => by rw [if_neg h] at HE; exact HE⟩
      have HN := Lib.hid hN
      clear hj HE hN
      have H6 := Lib.hid (show (bt s i == 34) = false ∨ (bt s i = 34 ∧ z = false) by
        rw [HZ.out]
        by_cases h : bt s i = 34
        · right; cases d with
          | true => exact absurd ⟨h, rfl⟩ h6
          | false => exact ⟨h, rfl⟩
        · left; exact beq_f h)
      clear h6
      rcases H6.out with e34 | ⟨e34, e35⟩
      all_goals
        clear H6
        (try rw [e35] at hz)
        (try clear HZ)
        go_wp2_with fail
        refine (HC.out _).mono ?_
        rintro e1 w1 ⟨rfl, rfl⟩
        rcases hj3 with rfl | rfl | rfl
        · have hj4 := hj2 rfl
          have HN1 := Lib.hid (HN.out.1 rfl)
          clear hj2 HN
          go_wp2
          go_round
          case rel => exact ⟨j, g, rfl, by omega, hj1, ⟨by have := HG.out; omega, by have := HG.out; omega, HN1.out⟩⟩
          case measure => simp [intOf]; omega
        all_goals
          have HN1 := Lib.hid (HN.out.2 (by decide))
          clear hj2 HN
          go_wp2
          go_ret2
          exact ⟨ret_two (fst_of HN1.out) (snd_of HN1.out), rfl⟩
    · rw [if_neg hlt] at HE
      replace HE := Lib.hid HE
      go_wp2
      go_ret2
      exact ⟨ret_two (fst_of HE.out) (snd_of HE.out), rfl⟩
end W
end Go.Proofs.YtcbdhheelddgeaaGreatDoor
namespace Go.Proofs.YtcbdhheelddgeaaGreatDoor
open Go.RowKit K
namespace LX
theorem begins_not {s : Str} {i : Nat} (h : begins s i = true) : ¬ bt s i = 40 ∧ ¬ bt s i = 41 ∧ ¬ bt s i = 35 ∧ divides (bt s i) = false := by
  unfold begins at h
  by_cases h36 : bt s i = 36
  · rw [h36]; decide
  · rw [if_neg h36] at h
    rcases of_decide_eq_true h with e | e | e | e <;> rw [e] <;> decide
end LX
namespace W
set_option maxRecDepth 100000 in
set_option maxHeartbeats 2000000 in
theorem rx_cmd {f : Nat} (ih : ∀ g, g ≤ f + 1 → ∀ (s : List UInt8) (a : Nat) (p : Int) (q d : Bool) (w : World) (k : Nat) (x : Int), LX.PL p q d → s.length ≤ 100000 → a < s.length → 3 * (s.length - a) + 2 ≤ g → LX.pas g s a q d = (k, x) →
    Calls Tryz.prog 108 #[.string ⟨s.toArray⟩, .int .i64 a, .int .i64 p] w (PairR w k x)) (s : List UInt8) (a : Nat) (w : World) (k : Nat) (x : Int) (hl : s.length ≤ 100000) (ha : a + 2 ≤ s.length) (hf : 3 * (s.length - (a + 2)) + 3 ≤ f + 1) (hr : LX.cmd (f + 1) s a (a + 2) 0 true = (k, x)) :
    Calls Tryz.prog 145 #[.string ⟨s.toArray⟩, .int .i64 a] w (PairR w k x) := by
  have IH := Lib.hid ih
  have HF := Lib.hid hf
  have HR := Lib.hid hr
  clear ih hf hr
  go_enter Tryz.func145, Tryz.ntmps145
  go_wp2
  go_loop [6, 7, 8] (fun v n b => ∃ (i g m : Nat) (z : Bool), v = .int .i64 i ∧ n = .int .i64 (m + 1 : Nat) ∧ b = .bool z ∧ m ≤ i ∧ a < i ∧ i ≤ s.length ∧ Hid (g ≤ f + 1 ∧ 3 * (s.length - i) + 3 ≤ g ∧ LX.cmd g s a i m z = (k, x))) (fun v _ _ => s.length - (intOf v).toNat)
  case atStart => exact ⟨a + 2, f + 1, 0, true, by go_num, rfl, rfl, by omega, by omega, by omega, ⟨Nat.le_refl _, HF.out, HR.out⟩⟩
  case round =>
    obtain ⟨i, g, m, z, rfl, rfl, rfl, hm, hi1, hi2, HG⟩ := hrel
    obtain ⟨g, rfl⟩ : ∃ g', g = g' + 1 := ⟨g - 1, by have := HG.out; omega⟩
    have HE := HG.out.2.2
    rw [LX.cmd] at HE
    by_cases hlt : i < s.length
    case neg =>
      rw [if_neg hlt] at HE
      replace HE := Lib.hid HE
      go_wp2
      go_ret2
      exact ⟨ret_two (fst_of HE.out) (snd_of HE.out), rfl⟩
    rw [if_pos hlt] at HE
    have hcl := LX.comment_le s i
    by_cases hj : LX.joins s i = true
    · rw [if_pos hj] at HE
      have hj2 := LX.joins_iff.1 hj
      have HJ := Lib.hid (fun v => rx_joined s i v hl hi2)
      rw [hj] at HJ
      replace HE := Lib.hid HE
      obtain ⟨h92, _, hj3⟩ := hj2
      clear hj
      have e35 : (bt s i == 35) = false := by rw [h92]; rfl
      cases z
      all_goals
        go_wp2_with (go_at_call 105; refine (HJ.out _).mono ?_; rintro e w' ⟨rfl, rfl⟩)
        go_round
        case rel => exact ⟨i + 2, g, m, _, by go_num, rfl, rfl, by omega, by omega, hj3, ⟨by have := HG.out; omega, by have := HG.out; omega, HE.out⟩⟩
        case measure => simp [intOf]; omega
    rw [if_neg hj] at HE
    have HJ := Lib.hid (fun v => rx_joined s i v hl hi2)
    rw [show LX.joins s i = false by simpa using hj] at HJ
    clear hj
    by_cases h35 : bt s i = 35 ∧ z = true
    · rw [if_pos h35] at HE
      obtain ⟨h35, rfl⟩ := h35
      have HC := Lib.hid (fun v => rx_comment s i v hi2 hl)
      have hc2 := LX.comment_lt hlt (by rw [h35]; decide)
      obtain ⟨c, hc⟩ : ∃ c, LX.comment s i = c := ⟨_, rfl⟩
      rw [hc] at HE HC hcl hc2
      replace HE := Lib.hid HE
      clear hc
      go_wp2_with (go_at_call 104; refine (HC.out _).mono ?_; rintro e w' ⟨rfl, rfl⟩)
      go_round
      case rel => exact ⟨c, g, m, true, rfl, rfl, rfl, by omega, by omega, hcl, ⟨by have := HG.out; omega, by have := HG.out; omega, HE.out⟩⟩
      case measure => simp [intOf]; omega
    rw [if_neg h35] at HE
    have H35 := Lib.hid (show (z = true ∧ (bt s i == 35) = false) ∨ z = false by
      cases z with
      | true => exact .inl ⟨rfl, beq_f fun e => h35 ⟨e, rfl⟩⟩
      | false => exact .inr rfl)
    clear h35 hcl
    -- what Pass gives here, and where the loop stands behind it
    obtain ⟨j, y, hj⟩ : ∃ j y, LX.pas (g + 1) s i false false = (j, y) := ⟨_, _, rfl⟩
    have HC := Lib.hid (fun wr => IH.out (g + 1) (by have := HG.out; omega) s i 0 false false wr j y (.inl ⟨rfl, rfl, rfl⟩) hl hlt (by have := HG.out; omega) hj)
    have HGD := LX.pas_good (g + 1) s i false false hlt
    rw [hj] at HGD
    obtain ⟨hj1, hj2, hj3⟩ := HGD
    (try dsimp only at hj1 hj2 hj3)
    have hdv := LX.div_bt s i
    have HBL := Lib.hid (fun v => rx_blank (bt s i) v)
    have HOB := Lib.hid (fun v => rx_op (bt s i) v)
    obtain ⟨b1, hb1⟩ : ∃ b, P.bl (bt s i) = b := ⟨_, rfl⟩
    obtain ⟨b2, hb2⟩ : ∃ b, P.ob (bt s i) = b := ⟨_, rfl⟩
    obtain ⟨b3, hb3⟩ : ∃ b, (bt s i == 10) = b := ⟨_, rfl⟩
    rw [hb1] at HBL hdv
    rw [hb2] at HOB hdv
    rw [hb3] at hdv
    have HB1 := Lib.hid hb1
    have HB2 := Lib.hid hb2
    have HB3 := Lib.hid hb3
    clear hb1 hb2 hb3
    have HD := Lib.hid hdv
    clear hdv
    -- the count of parentheses behind the byte, or the end
    by_cases h41 : bt s i = 41 ∧ m = 0
    · obtain ⟨h41, rfl⟩ := h41
      have hnb : ¬ LX.begins s i = true := fun e => (LX.begins_not e).2.1 h41
      rw [if_neg hnb, if_neg (by rw [h41]; decide), if_pos ⟨h41, rfl⟩] at HE
      clear hj hj1 hj2 hj3 HC HBL HOB HD HB1 HB2 HB3 hnb
      replace HE := Lib.hid HE
      rcases H35.out with ⟨rfl, e35⟩ | rfl
      all_goals
        clear H35
        go_wp2_with (go_at_call 105; refine (HJ.out _).mono ?_; rintro e w' ⟨rfl, rfl⟩)
        go_ret2
        exact ⟨ret_two (by have := fst_of HE.out; omega) (snd_of HE.out), rfl⟩
    have hN : ∃ m' : Nat, ((bt s i = 40 ∧ m' = m + 1) ∨ (¬ bt s i = 40 ∧ bt s i = 41 ∧ m = m' + 1) ∨ (¬ bt s i = 40 ∧ ¬ bt s i = 41 ∧ m' = m)) ∧ (y = 0 → LX.cmd g s a j m' (b1 || b3 || b2) = (k, x)) ∧ (¬ y = 0 → (j, y) = (k, x)) := by
      rw [LX.pas] at hj
      cases hb : LX.begins s i with
      | true =>
        obtain ⟨n1, n2, _, n4⟩ := LX.begins_not hb
        rw [if_pos hb] at HE
        rw [if_neg (by rw [hb]; rintro (⟨h, _⟩ | h) <;> cases h)] at hj
        rw [hj] at HE
        unfold LX.thn at HE
        rw [← HD.out, n4]
        exact ⟨m, .inr (.inr ⟨n1, n2, rfl⟩), fun h => by rw [if_pos h] at HE; exact HE, fun h => by rw [if_neg h] at HE; exact HE⟩
      | false =>
        rw [if_neg (by rw [hb]; simp)] at HE
        rw [if_pos (.inr hb)] at hj
        obtain ⟨rfl, rfl⟩ := Prod.mk.inj hj
        rw [← HD.out]
        by_cases h40 : bt s i = 40
        · rw [if_pos h40] at HE
          exact ⟨m + 1, .inl ⟨h40, rfl⟩, fun _ => HE, fun h => absurd rfl h⟩
        · rw [if_neg h40, if_neg h41] at HE
          by_cases e41 : bt s i = 41
          · rw [if_pos e41] at HE
            exact ⟨m - 1, .inr (.inl ⟨h40, e41, by have : ¬ m = 0 := fun h => h41 ⟨e41, h⟩; omega⟩), fun _ => HE, fun h => absurd rfl h⟩
          · rw [if_neg e41] at HE
            exact ⟨m, .inr (.inr ⟨h40, e41, rfl⟩), fun _ => HE, fun h => absurd rfl h⟩
    clear hj HE
    obtain ⟨m', hm', hn0, hn1⟩ := hN
    have HN0 := Lib.hid hn0
    have HN1 := Lib.hid hn1
    have H41 := Lib.hid h41
    clear hn0 hn1 h41 HD
    rcases hm' with ⟨h40, rfl⟩ | ⟨h40, h41, rfl⟩ | ⟨h40, h41, rfl⟩
    · have q1 : b1 = false := by rw [← HB1.out, h40]; rfl
      have q2 : b2 = true := by rw [← HB2.out, h40]; rfl
      have q3 : b3 = false := by rw [← HB3.out, h40]; rfl
      subst q1 q2 q3
      rw [h40] at HBL HOB
      clear HB1 HB2 HB3 H41
      rcases H35.out with ⟨rfl, e35⟩ | rfl
      all_goals
        clear H35
        go_wp2_with (first | (go_at_call 105; refine (HJ.out _).mono ?_; rintro e w' ⟨rfl, rfl⟩) | (go_at_call 43; refine (HBL.out _).mono ?_; rintro e w' ⟨rfl, rfl⟩) | (go_at_call 107; refine (HOB.out _).mono ?_; rintro e w' ⟨rfl, rfl⟩) | fail)
        refine (HC.out _).mono ?_
        rintro e1 w1 ⟨rfl, rfl⟩
        rcases hj3 with rfl | rfl | rfl
        · have hj4 := hj2 rfl
          have HN := Lib.hid (HN0.out rfl)
          clear hj2 HN0 HN1
          go_wp2
          go_round
          case rel => exact ⟨j, g, _, _, rfl, by go_num, rfl, by omega, by omega, hj1, ⟨by have := HG.out; omega, by have := HG.out; omega, HN.out⟩⟩
          case measure => simp [intOf]; omega
        all_goals
          have HN := Lib.hid (HN1.out (by decide))
          clear hj2 HN0 HN1
          go_wp2
          go_ret2
          exact ⟨ret_two (fst_of HN.out) (snd_of HN.out), rfl⟩
    · have q1 : b1 = false := by rw [← HB1.out, h41]; rfl
      have q2 : b2 = true := by rw [← HB2.out, h41]; rfl
      have q3 : b3 = false := by rw [← HB3.out, h41]; rfl
      subst q1 q2 q3
      rw [h41] at HBL HOB
      have e1 : (((m' + 1 + 1 : Nat) : Int) == 1) = false := by rw [beq_eq_false_iff_ne]; omega
      clear HB1 HB2 HB3 H41
      rcases H35.out with ⟨rfl, e35⟩ | rfl
      all_goals
        clear H35
        go_wp2_with (first | (go_at_call 105; refine (HJ.out _).mono ?_; rintro e w' ⟨rfl, rfl⟩) | (go_at_call 43; refine (HBL.out _).mono ?_; rintro e w' ⟨rfl, rfl⟩) | (go_at_call 107; refine (HOB.out _).mono ?_; rintro e w' ⟨rfl, rfl⟩) | fail)
        refine (HC.out _).mono ?_
        rintro e1 w1 ⟨rfl, rfl⟩
        rcases hj3 with rfl | rfl | rfl
        · have hj4 := hj2 rfl
          have HN := Lib.hid (HN0.out rfl)
          clear hj2 HN0 HN1
          go_wp2
          go_round
          case rel => exact ⟨j, g, _, _, rfl, by go_num, rfl, by omega, by omega, hj1, ⟨by have := HG.out; omega, by have := HG.out; omega, HN.out⟩⟩
          case measure => simp [intOf]; omega
        all_goals
          have HN := Lib.hid (HN1.out (by decide))
          clear hj2 HN0 HN1
          go_wp2
          go_ret2
          exact ⟨ret_two (fst_of HN.out) (snd_of HN.out), rfl⟩
    · have e40 := beq_f h40
      have e41 := beq_f h41
      clear HB1 HB2 H41
      have hb3 := HB3.out
      clear HB3
      obtain ⟨q, hq⟩ : ∃ q, (b1 || b3 || b2) = q := ⟨_, rfl⟩
      rw [hq] at HN0
      have H3 := Lib.hid (show (b1 = true ∧ q = true) ∨ (b1 = false ∧ b3 = true ∧ q = true) ∨ (b1 = false ∧ b3 = false ∧ q = b2) by
        rw [← hq]; cases b1 <;> cases b3 <;> simp)
      clear hq
      rcases H3.out with ⟨rfl, rfl⟩ | ⟨rfl, rfl, rfl⟩ | ⟨rfl, rfl, rfl⟩
      · clear H3 hb3
        rcases H35.out with ⟨rfl, e35⟩ | rfl
        all_goals
          clear H35
          go_wp2_with (first | (go_at_call 105; refine (HJ.out _).mono ?_; rintro e w' ⟨rfl, rfl⟩) | (go_at_call 43; refine (HBL.out _).mono ?_; rintro e w' ⟨rfl, rfl⟩) | (go_at_call 107; refine (HOB.out _).mono ?_; rintro e w' ⟨rfl, rfl⟩) | fail)
          refine (HC.out _).mono ?_
          rintro e1 w1 ⟨rfl, rfl⟩
          rcases hj3 with rfl | rfl | rfl
          · have hj4 := hj2 rfl
            have HN := Lib.hid (HN0.out rfl)
            clear hj2 HN0 HN1
            go_wp2
            go_round
            case rel => exact ⟨j, g, _, _, rfl, by go_num, rfl, by omega, by omega, hj1, ⟨by have := HG.out; omega, by have := HG.out; omega, HN.out⟩⟩
            case measure => simp [intOf]; omega
          all_goals
            have HN := Lib.hid (HN1.out (by decide))
            clear hj2 HN0 HN1
            go_wp2
            go_ret2
            exact ⟨ret_two (fst_of HN.out) (snd_of HN.out), rfl⟩

      · have h10 : bt s i = 10 := by simpa using hb3
        rw [h10] at HBL HOB
        clear H3 hb3 e40 e41 h40 h41
        rcases H35.out with ⟨rfl, e35⟩ | rfl
        all_goals
          clear H35
          (try clear e35)
          go_wp2_with (first | (go_at_call 105; refine (HJ.out _).mono ?_; rintro e w' ⟨rfl, rfl⟩) | (go_at_call 43; refine (HBL.out _).mono ?_; rintro e w' ⟨rfl, rfl⟩) | (go_at_call 107; refine (HOB.out _).mono ?_; rintro e w' ⟨rfl, rfl⟩) | fail)
          refine (HC.out _).mono ?_
          rintro e1 w1 ⟨rfl, rfl⟩
          rcases hj3 with rfl | rfl | rfl
          · have hj4 := hj2 rfl
            have HN := Lib.hid (HN0.out rfl)
            clear hj2 HN0 HN1
            go_wp2
            go_round
            case rel => exact ⟨j, g, _, _, rfl, by go_num, rfl, by omega, by omega, hj1, ⟨by have := HG.out; omega, by have := HG.out; omega, HN.out⟩⟩
            case measure => simp [intOf]; omega
          all_goals
            have HN := Lib.hid (HN1.out (by decide))
            clear hj2 HN0 HN1
            go_wp2
            go_ret2
            exact ⟨ret_two (fst_of HN.out) (snd_of HN.out), rfl⟩

      · clear H3
        rcases H35.out with ⟨rfl, e35⟩ | rfl
        all_goals
          clear H35
          go_wp2_with (first | (go_at_call 105; refine (HJ.out _).mono ?_; rintro e w' ⟨rfl, rfl⟩) | (go_at_call 43; refine (HBL.out _).mono ?_; rintro e w' ⟨rfl, rfl⟩) | (go_at_call 107; refine (HOB.out _).mono ?_; rintro e w' ⟨rfl, rfl⟩) | fail)
          refine (HC.out _).mono ?_
          rintro e1 w1 ⟨rfl, rfl⟩
          rcases hj3 with rfl | rfl | rfl
          · have hj4 := hj2 rfl
            have HN := Lib.hid (HN0.out rfl)
            clear hj2 HN0 HN1
            go_wp2
            go_round
            case rel => exact ⟨j, g, _, _, rfl, by go_num, rfl, by omega, by omega, hj1, ⟨by have := HG.out; omega, by have := HG.out; omega, HN.out⟩⟩
            case measure => simp [intOf]; omega
          all_goals
            have HN := Lib.hid (HN1.out (by decide))
            clear hj2 HN0 HN1
            go_wp2
            go_ret2
            exact ⟨ret_two (fst_of HN.out) (snd_of HN.out), rfl⟩
end W
end Go.Proofs.YtcbdhheelddgeaaGreatDoor
namespace Go.Proofs.YtcbdhheelddgeaaGreatDoor
open Go.RowKit K
namespace LX
def spec (c : Int) : Bool := P.dg c || P.has [64, 42, 35, 63, 45, 36, 33] c
theorem spec_all : ∀ n : Nat, n < 256 → (spec n = true → starts n = false) ∧ (spec n = false → ¬ n = 123 → ¬ n = 40 → (starts n || digit n || special n) = true → starts n = true) := by decide +kernel
theorem has3_of {s : Str} {a : Nat} (h : a + 2 < s.length) (h1 : bt s a = 36) (h2 : bt s (a + 1) = 40) (h3 : bt s (a + 2) = 40) : Lib.hasPrefix (s.drop a) [36, 40, 40] = true := by
  obtain ⟨x, hx, hbx, _⟩ := drop_cons s a (by omega)
  obtain ⟨y, hy, hby, _⟩ := drop_cons s (a + 1) (by omega)
  obtain ⟨z, hz, hbz, _⟩ := drop_cons s (a + 2) (by omega)
  rw [hx, hy, hz]
  obtain rfl : x = 36 := UInt8.toNat_inj.1 (by show x.toNat = 36; omega)
  obtain rfl : y = 40 := UInt8.toNat_inj.1 (by show y.toNat = 40; omega)
  obtain rfl : z = 40 := UInt8.toNat_inj.1 (by show z.toNat = 40; omega)
  simp [Lib.hasPrefix]
end LX
namespace W
set_option maxRecDepth 100000 in
set_option maxHeartbeats 1000000 in
theorem rx_exp {f : Nat} (ih : RexC f) (s : List UInt8) (a : Nat) (p : Int) (q d : Bool) (w : World) (k : Nat) (x : Int) (hp : LX.PL p q d) (hl : s.length ≤ 100000) (_ha : a < s.length) (h36 : bt s a = 36) (hd : LX.dollar s (a + 1) = true) (hf : 3 * (s.length - a) + 1 ≤ f + 1) (hr : LX.con (f + 1) s a q d = (k, x)) :
    Calls Tryz.prog 125 #[.string ⟨s.toArray⟩, .int .i64 a, .int .i64 p] w (PairR w k x) := by
  rw [LX.con, if_neg (by rw [h36]; decide), if_neg (by rw [h36]; decide), if_neg (by rw [h36]; decide), if_neg (by rw [h36]; decide)] at hr
  unfold LX.dollar at hd
  rw [Bool.and_eq_true, decide_eq_true_eq] at hd
  obtain ⟨hd1, hd2⟩ := hd
  have h1 : ((a : Int) + 1 < (s.length : Int)) = True := eq_true (by omega)
  by_cases h123 : bt s (a + 1) = 123
  · rw [if_neg (fun e => by have := (LX.has3 e).2.2.1; rw [h123] at this; exact absurd this (by decide)), if_neg (by rw [h123]; decide), if_pos h123] at hr
    have HC := Lib.hid (fun v => ih.brc s a p q d v k x hp hl (by omega) (by omega) hr)
    clear hr ih hf hp hd2
    go_enter Tryz.func125, Tryz.ntmps125
    go_wp2_with fail
    refine (HC.out _).mono ?_
    rintro e w1 ⟨rfl, rfl⟩
    go_wp2
    go_ret2
    exact ⟨rfl, rfl⟩
  have e123 := beq_f h123
  by_cases h40 : bt s (a + 1) = 40
  · by_cases h2 : a + 2 < s.length
    · have h2' : ((a : Int) + 2 < (s.length : Int)) = True := eq_true (by omega)
      by_cases h3 : bt s (a + 2) = 40
      · rw [if_pos (LX.has3_of h2 h36 h40 h3)] at hr
        have HC := Lib.hid (fun v => ih.ari s a v k x hl (by omega) (by omega) hr)
        clear hr ih hf hp hd2
        go_enter Tryz.func125, Tryz.ntmps125
        go_wp2_with fail
        refine (HC.out _).mono ?_
        rintro e w1 ⟨rfl, rfl⟩
        go_wp2
        go_ret2
        exact ⟨rfl, rfl⟩
      · have e3 := beq_f h3
        rw [if_neg (fun e => h3 (LX.has3 e).2.2.2), if_pos h40] at hr
        have HC := Lib.hid (fun v => ih.cmd s a v k x hl (by omega) (by omega) hr)
        clear hr ih hf hp hd2
        go_enter Tryz.func125, Tryz.ntmps125
        go_wp2_with fail
        refine (HC.out _).mono ?_
        rintro e w1 ⟨rfl, rfl⟩
        go_wp2
        go_ret2
        exact ⟨rfl, rfl⟩
    · have h2' : ((a : Int) + 2 < (s.length : Int)) = False := eq_false (by omega)
      rw [if_neg (fun e => h2 (by have := (LX.has3 e).1; omega)), if_pos h40] at hr
      have HC := Lib.hid (fun v => ih.cmd s a v k x hl (by omega) (by omega) hr)
      clear hr ih hf hp hd2
      go_enter Tryz.func125, Tryz.ntmps125
      go_wp2_with fail
      refine (HC.out _).mono ?_
      rintro e w1 ⟨rfl, rfl⟩
      go_wp2
      go_ret2
      exact ⟨rfl, rfl⟩
  have e40 := beq_f h40
  rw [if_neg (fun e => h40 (LX.has3 e).2.2.1), if_neg h40, if_neg h123] at hr
  have hsp := Lib.hid (show (LX.spec (bt s (a + 1)) = true → LX.starts (bt s (a + 1)) = false) ∧ (LX.spec (bt s (a + 1)) = false → LX.starts (bt s (a + 1)) = true) by
    obtain ⟨n, hn, e⟩ := LX.bt_nat s (a + 1)
    rw [e] at h123 h40 hd2 ⊢
    exact ⟨(LX.spec_all n hn).1, fun h => (LX.spec_all n hn).2 h (by omega) (by omega) hd2⟩)
  have HS := Lib.hid (fun v => show Calls Tryz.prog 142 #[.int .u8 (bt s (a + 1))] v (fun e w' => e = .returned (.bool (LX.spec (bt s (a + 1)))) ∧ v = w') from rx_special (bt s (a + 1)) v)
  have HN := Lib.hid (fun v => rx_name s (a + 1) v (by omega) hl)
  clear ih hf hp hd2
  cases hq : LX.spec (bt s (a + 1)) with
  | true =>
    rw [if_pos (hsp.out.1 hq)] at hr
    rw [hq] at HS
    have HR := Lib.hid hr
    clear hr hq hsp
    go_enter Tryz.func125, Tryz.ntmps125
    go_wp2_with (go_at_call 142; refine (HS.out _).mono ?_; rintro e w' ⟨rfl, rfl⟩)
    go_ret2
    exact ⟨ret_two (by have := fst_of HR.out; omega) (snd_of HR.out), rfl⟩
  | false =>
    have hst := hsp.out.2 hq
    rw [if_neg (by rw [hst]; simp), ← LX.nameEnd_go (i := a + 1) (by omega) (by rw [hst]; rfl)] at hr
    rw [hq] at HS
    have HR := Lib.hid hr
    clear hr hq hsp hst
    go_enter Tryz.func125, Tryz.ntmps125
    go_wp2_with (first | (go_at_call 142; refine (HS.out _).mono ?_; rintro e w' ⟨rfl, rfl⟩) | (go_at_call 146; refine (HN.out _).mono ?_; rintro e w' ⟨rfl, rfl⟩))
    go_ret2
    exact ⟨ret_two (fst_of HR.out) (snd_of HR.out), rfl⟩
set_option maxRecDepth 100000 in
set_option maxHeartbeats 1000000 in
theorem rx_pas {f : Nat} (ih : ∀ g, g ≤ f → RexC g) (s : List UInt8) (a : Nat) (p : Int) (q d : Bool) (w : World) (k : Nat) (x : Int) (hp : LX.PL p q d) (hl : s.length ≤ 100000) (ha : a < s.length) (hf : 3 * (s.length - a) + 2 ≤ f + 1) (hr : LX.pas (f + 1) s a q d = (k, x)) :
    Calls Tryz.prog 108 #[.string ⟨s.toArray⟩, .int .i64 a, .int .i64 p] w (PairR w k x) := by
  obtain ⟨f', rfl⟩ : ∃ f', f = f' + 1 := ⟨f - 1, by omega⟩
  have h0 : ((a : Int) < (s.length : Int)) = True := eq_true (by omega)
  have HB := Lib.hid (fun v => rx_begins s a v ha hl)
  have hbg : LX.begins s a = if bt s a = 36 then LX.dollar s (a + 1) else decide (bt s a = 92 ∨ bt s a = 39 ∨ bt s a = 34 ∨ bt s a = 96) := rfl
  rw [LX.pas] at hr
  by_cases h92 : bt s a = 92
  · rw [if_neg (by rw [hbg, h92, if_neg (by decide)]; rintro (⟨_, h | h⟩ | h) <;> revert h <;> decide), LX.con, if_pos h92] at hr
    have HR := Lib.hid hr
    clear hr ih hf hp hbg HB
    by_cases h1 : a + 1 = s.length
    · have h1' : ((a : Int) + 1 == (s.length : Int)) = true := by rw [beq_iff_eq]; omega
      have HR2 := Lib.hid (show (a, (7 : Int)) = (k, x) by have := HR.out; rwa [if_pos h1] at this)
      go_enter Tryz.func108, Tryz.ntmps108
      go_wp2
      go_ret2
      exact ⟨ret_two (fst_of HR2.out) (snd_of HR2.out), rfl⟩
    · have h1' : ((a : Int) + 1 == (s.length : Int)) = false := by rw [beq_eq_false_iff_ne]; omega
      have HR2 := Lib.hid (show (a + 2, (0 : Int)) = (k, x) by have := HR.out; rwa [if_neg h1] at this)
      go_enter Tryz.func108, Tryz.ntmps108
      go_wp2
      go_ret2
      exact ⟨ret_two (by have := fst_of HR2.out; omega) (snd_of HR2.out), rfl⟩
  have e92 := beq_f h92
  by_cases h96 : bt s a = 96
  · rw [if_neg (by rw [hbg, h96, if_neg (by decide)]; rintro (⟨_, h | h⟩ | h) <;> revert h <;> decide), LX.con, if_neg h92, if_neg (by rw [h96]; decide), if_neg (by rw [h96]; decide), if_pos h96] at hr
    have HC := Lib.hid (fun v => rx_bkq f' s a v k x hl ha (by omega) hr)
    clear hr ih hf hp hbg HB
    go_enter Tryz.func108, Tryz.ntmps108
    go_wp2_with fail
    refine (HC.out _).mono ?_
    rintro e w1 ⟨rfl, rfl⟩
    go_wp2
    go_ret2
    exact ⟨rfl, rfl⟩
  have e96 := beq_f h96
  by_cases h36 : bt s a = 36
  · cases hd : LX.dollar s (a + 1) with
    | true =>
      rw [if_neg (by rw [hbg, if_pos h36, hd, h36]; rintro (⟨_, h | h⟩ | h) <;> revert h <;> decide)] at hr
      have HC := Lib.hid (fun v => (ih _ (Nat.le_refl _)).exp s a p q d v k x hp hl ha h36 hd (by omega) hr)
      rw [hd, decide_eq_true h36] at HB
      clear hr ih hf hp hbg hd
      go_enter Tryz.func108, Tryz.ntmps108
      go_wp2_with (go_at_call 124; refine (HB.out _).mono ?_; rintro e w' ⟨rfl, rfl⟩)
      refine (HC.out _).mono ?_
      rintro e w1 ⟨rfl, rfl⟩
      go_wp2
      go_ret2
      exact ⟨rfl, rfl⟩
    | false =>
      rw [if_pos (by rw [hbg, if_pos h36]; exact .inr hd)] at hr
      rw [hd, decide_eq_true h36] at HB
      have HR := Lib.hid hr
      clear hr ih hf hp hbg hd
      go_enter Tryz.func108, Tryz.ntmps108
      go_wp2_with (go_at_call 124; refine (HB.out _).mono ?_; rintro e w' ⟨rfl, rfl⟩)
      go_ret2
      exact ⟨ret_two (by have := fst_of HR.out; omega) (snd_of HR.out), rfl⟩
  rw [decide_eq_false h36, Bool.false_and] at HB
  rw [hbg, if_neg h36] at hr
  clear hbg
  have HP0 := Lib.hid (show (p == 0) = !q by rcases hp with ⟨rfl, rfl, rfl⟩ | ⟨rfl, rfl, rfl⟩ | ⟨rfl, rfl, rfl⟩ <;> rfl)
  by_cases h39 : bt s a = 39
  · cases q with
    | true =>
      have hp0 := HP0.out
      rw [if_pos (.inl ⟨rfl, .inl h39⟩)] at hr
      have HR := Lib.hid hr
      clear hr ih hf hp HP0
      go_enter Tryz.func108, Tryz.ntmps108
      go_wp2_with (go_at_call 124; refine (HB.out _).mono ?_; rintro e w' ⟨rfl, rfl⟩)
      go_ret2
      exact ⟨ret_two (by have := fst_of HR.out; omega) (snd_of HR.out), rfl⟩
    | false =>
      have hp0 := HP0.out
      rw [if_neg (by rw [h39]; rintro (⟨h, _⟩ | h) <;> revert h <;> decide), LX.con, if_neg h92, if_pos h39] at hr
      have HC := Lib.hid (fun v => rx_single s a v k x hl ha hr)
      clear hr ih hf hp HP0
      go_enter Tryz.func108, Tryz.ntmps108
      go_wp2_with (go_at_call 124; refine (HB.out _).mono ?_; rintro e w' ⟨rfl, rfl⟩)
      refine (HC.out _).mono ?_
      rintro e w1 ⟨rfl, rfl⟩
      go_wp2
      go_ret2
      exact ⟨rfl, rfl⟩
  have e39 := beq_f h39
  by_cases h34 : bt s a = 34
  · cases q with
    | true =>
      have hp0 := HP0.out
      rw [if_pos (.inl ⟨rfl, .inr h34⟩)] at hr
      have HR := Lib.hid hr
      clear hr ih hf hp HP0
      go_enter Tryz.func108, Tryz.ntmps108
      go_wp2_with (go_at_call 124; refine (HB.out _).mono ?_; rintro e w' ⟨rfl, rfl⟩)
      go_ret2
      exact ⟨ret_two (by have := fst_of HR.out; omega) (snd_of HR.out), rfl⟩
    | false =>
      have hp0 := HP0.out
      rw [if_neg (by rw [h34]; rintro (⟨h, _⟩ | h) <;> revert h <;> decide), LX.con, if_neg h92, if_neg h39, if_pos h34] at hr
      have HC := Lib.hid (fun v => (ih f' (by omega)).dbl s a v k x hl ha (by omega) hr)
      clear hr ih hf hp HP0
      go_enter Tryz.func108, Tryz.ntmps108
      go_wp2_with (go_at_call 124; refine (HB.out _).mono ?_; rintro e w' ⟨rfl, rfl⟩)
      refine (HC.out _).mono ?_
      rintro e w1 ⟨rfl, rfl⟩
      go_wp2
      go_ret2
      exact ⟨rfl, rfl⟩
  have e34 := beq_f h34
  rw [if_pos (.inr (decide_eq_false (by rintro (h | h | h | h); exact h92 h; exact h39 h; exact h34 h; exact h96 h)))] at hr
  have HR := Lib.hid hr
  clear hr ih hf hp HP0
  go_enter Tryz.func108, Tryz.ntmps108
  go_wp2_with (go_at_call 124; refine (HB.out _).mono ?_; rintro e w' ⟨rfl, rfl⟩)
  go_ret2
  exact ⟨ret_two (by have := fst_of HR.out; omega) (snd_of HR.out), rfl⟩
/-- The contracts at every fuel. -/
theorem rexc : ∀ n f, f ≤ n → RexC f
  | 0, f, h => by
    obtain rfl : f = 0 := by omega
    exact ⟨fun _ _ _ _ _ _ _ _ _ _ _ h _ => absurd h (by omega), fun _ _ _ _ _ _ _ _ _ _ _ _ _ h _ => absurd h (by omega), fun _ _ _ _ _ _ _ h _ => absurd h (by omega), fun _ _ _ _ _ _ _ h _ => absurd h (by omega), fun _ _ _ _ _ _ _ h _ => absurd h (by omega), fun _ _ _ _ _ _ _ _ _ _ _ h _ => absurd h (by omega)⟩
  | n + 1, f, h => by
    rcases Nat.lt_or_ge f (n + 1) with h' | h'
    · exact rexc n f (by omega)
    · obtain rfl : f = n + 1 := by omega
      have ih := rexc n
      have hpas : ∀ g, g ≤ n + 1 → ∀ (s : List UInt8) (a : Nat) (p : Int) (q d : Bool) (w : World) (k : Nat) (x : Int), LX.PL p q d → s.length ≤ 100000 → a < s.length → 3 * (s.length - a) + 2 ≤ g → LX.pas g s a q d = (k, x) →
          Calls Tryz.prog 108 #[.string ⟨s.toArray⟩, .int .i64 a, .int .i64 p] w (PairR w k x) := by
        intro g hg
        rcases Nat.lt_or_ge g (n + 1) with h1 | h1
        · exact (ih g (by omega)).pas
        · obtain rfl : g = n + 1 := by omega
          exact fun s a p q d w k x h1 h2 h3 h4 h5 => rx_pas ih s a p q d w k x h1 h2 h3 h4 h5
      exact ⟨hpas _ (Nat.le_refl _), fun s a p q d w k x h1 h2 h3 h4 h5 h6 h7 => rx_exp (ih n (Nat.le_refl _)) s a p q d w k x h1 h2 h3 h4 h5 h6 h7, fun s a w k x h1 h2 h3 h4 => rx_dbl ih s a w k x h1 h2 h3 h4,
        fun s a w k x h1 h2 h3 h4 => rx_ari ih s a w k x h1 h2 h3 h4, fun s a w k x h1 h2 h3 h4 => rx_cmd hpas s a w k x h1 h2 h3 h4, fun s a p q d w k x h0 h1 h2 h3 h4 => rx_brc hpas s a p q d w k x h0 h1 h2 h3 h4⟩
/-- Pass, whatever the context: the construct, or the byte. -/
theorem Pass_any (s : List UInt8) (a : Nat) (p : Int) (q d : Bool) (w : World) (k : Nat) (x : Int) (hp : LX.PL p q d) (hl : s.length ≤ 100000) (ha : a < s.length) (hr : LX.pas (3 * s.length + 4) s a q d = (k, x)) :
    Calls Tryz.prog 108 #[.string ⟨s.toArray⟩, .int .i64 a, .int .i64 p] w (PairR w k x) :=
  (rexc _ _ (Nat.le_refl (3 * s.length + 4))).pas s a p q d w k x hp hl ha (by omega) hr
end W
namespace LX
theorem pas_big (s : Str) (a : Nat) (q d : Bool) : pas (3 * s.length + 4) s a q d = if (q = true ∧ (bt s a = 39 ∨ bt s a = 34)) ∨ begins s a = false then (a + 1, 0) else construct s a q d := rfl
end LX
end Go.Proofs.YtcbdhheelddgeaaGreatDoor
