/- Several texts in one: W08e W08f W08g. -/
import Derived.Test.YtcbdhheelddgeaaGreatDoorWB
import Derived.Test.YtcbdhheelddgeaaGreatDoorW07e
import Derived.Deep.RegionHeld3
import Derived.Test.YtcbdhheelddgeaaGreatDoorP08b
namespace Go.Proofs.YtcbdhheelddgeaaGreatDoor
open Go.RowKit K
namespace WP
theorem cls_ok {s : Str} {a e : Nat} (h : cls s a = .ok e) : LX.close s a = (e, 0) := by
  unfold cls at h
  split at h
  · rename_i h0
    injection h with h
    rw [← h, ← h0]
  · cases h
theorem cls_bad {s : Str} {a : Nat} {f : Flt} (h : cls s a = .error f) : ∃ k, LX.close s a = (k, f.2) ∧ f.1 = (k : Int) ∧ ¬ f.2 = 0 := by
  unfold cls at h
  split at h
  · cases h
  · rename_i h0
    injection h with h
    subst h
    exact ⟨_, rfl, rfl, h0⟩
end WP
namespace W
section
variable {W : World} {g : Nat} {c : WP.Ctx} {st : WP.St}
theorem reject_any (h : ScP W g c st) (i : Nat) : Calls Tryz.prog 177 #[.pointer (some ⟨g, 0, none⟩), .int .i64 i] W fun e W' => e = .panicked (faultP (WP.reject c st i)) ∧ W = W' := by
  obtain ⟨lc, ⟨tx, ls, h, -, -⟩, -⟩ := h
  obtain ⟨c0, c1, -, -, -, -, -, -, -⟩ := h.cells
  clear h
  have HF := Lib.hid (fun (x y : Int) (V : World) => fail_any x y V)
  unfold WP.reject
  by_cases hi : i = c.s.length
  · rw [if_pos hi]
    have e1 : ((i : Int) == (c.s.length : Int)) = true := by rw [beq_iff_eq]; omega
    clear hi
    go_enter Tryz.func177, Tryz.ntmps177
    go_wp2_with fail
    refine (HF.out _ _ _).mono ?_
    rintro e w' ⟨rfl, rfl⟩
    exact ⟨rfl, rfl, rfl⟩
  · rw [if_neg hi]
    have e1 : ((i : Int) == (c.s.length : Int)) = false := by rw [beq_eq_false_iff_ne]; omega
    clear hi
    go_enter Tryz.func177, Tryz.ntmps177
    go_wp2_with fail
    refine (HF.out _ _ _).mono ?_
    rintro e w' ⟨rfl, rfl⟩
    exact ⟨rfl, rfl, rfl⟩
/-- What name gives. -/
def NameOut (W : World) (b : Bool) (m : Int) (e : Ending) (W' : World) : Prop := (e = if b = true then .panicked (faultP (m, 3)) else .returned (.tuple #[])) ∧ W = W'
theorem name_any (h : ScP W g c st) (i k : Nat) (m : Int) (hi : i < c.s.length) (hik : i ≤ k) (hk : k ≤ c.s.length) (hl : c.s.length ≤ 100000) :
    Calls Tryz.prog 170 #[.pointer (some ⟨g, 0, none⟩), .int .i64 i, .int .i64 k, .int .i64 m] W (NameOut W (WP.tooLong c.s i k) m) := by
  obtain ⟨lc, ⟨tx, ls, h, -, -⟩, -⟩ := h
  obtain ⟨c0, -, -, -, -, -, -, -, -⟩ := h.cells
  clear h
  have HF := Lib.hid (fun (x y : Int) (V : World) => fail_any x y V)
  have b1 : ((i : Int) < (c.s.length : Int)) = True := eq_true (by omega)
  obtain ⟨d, rfl⟩ : ∃ d : Nat, k = i + d := ⟨k - i, by omega⟩
  have hs : ((i + d : Nat) : Int) - (i : Int) = (d : Int) := by omega
  have hs2 : ((i : Int) + (d : Int)) - (i : Int) = (d : Int) := by omega
  have HST := Lib.hid (wd_starts (bt c.s i) W)
  have HT := Lib.hid (show WP.tooLong c.s i (i + d) = (LX.starts (bt c.s i) && decide (32 < d)) by unfold WP.tooLong; rw [show i + d - i = d by omega])
  cases hst : LX.starts (bt c.s i) with
  | false =>
    rw [hst] at HST HT
    rw [show WP.tooLong c.s i (i + d) = false from HT.out]
    clear hst HT
    go_enter Tryz.func170, Tryz.ntmps170
    go_wp2_with (go_at_call 178; refine HST.out.mono ?_; rintro e w' ⟨rfl, rfl⟩)
    go_end0
    exact ⟨rfl, rfl⟩
  | true =>
    rw [hst] at HST HT
    by_cases hd : 32 < d
    · rw [show WP.tooLong c.s i (i + d) = true by rw [HT.out, decide_eq_true hd]; rfl]
      have d1 : ((32 : Int) < (d : Int)) = True := eq_true (by omega)
      have d2 : (32 < d) = True := eq_true hd
      clear hst HT
      go_enter Tryz.func170, Tryz.ntmps170
      go_wp2_with (go_at_call 178; refine HST.out.mono ?_; rintro e w' ⟨rfl, rfl⟩)
      refine (HF.out _ _ _).mono ?_
      rintro e w' ⟨rfl, rfl⟩
      exact ⟨rfl, rfl, rfl⟩
    · rw [show WP.tooLong c.s i (i + d) = false by rw [HT.out, decide_eq_false hd]; rfl]
      have d1 : ((32 : Int) < (d : Int)) = False := eq_false (by omega)
      have d2 : (32 < d) = False := eq_false hd
      clear hst HT
      go_enter Tryz.func170, Tryz.ntmps170
      go_wp2_with (go_at_call 178; refine HST.out.mono ?_; rintro e w' ⟨rfl, rfl⟩)
      go_end0
      exact ⟨rfl, rfl⟩
end
theorem escapes_any (pl : Nat) (c : Int) (op : Bool) (w : World) : Calls Tryz.prog 164 #[.int .i64 pl, .int .u8 c, .bool op] w fun e w' => e = .returned (.bool (WP.escapes pl c op)) ∧ w = w' := by
  have e0 : ((pl : Int) != 0) = decide (pl ≠ 0) := by rw [Bool.eq_iff_iff, bne_iff_ne, decide_eq_true_eq]; omega
  have e1 : ((pl : Int) == 1) = decide (pl = 1) := by rw [Bool.eq_iff_iff, beq_iff_eq, decide_eq_true_eq]; omega
  have HR := Lib.hid (show WP.escapes pl c op = if c = 36 ∨ c = 96 ∨ c = 92 then decide (pl ≠ 0) else if c = 34 then decide (pl = 1) else if c = 125 then decide (pl ≠ 0) && op else false from rfl)
  generalize decide (pl ≠ 0) = b0 at e0 HR
  generalize decide (pl = 1) = b1 at e1 HR
  by_cases h1 : c = 36
  · subst h1
    rw [if_pos (.inl rfl)] at HR
    go_enter Tryz.func164, Tryz.ntmps164
    go_wp2
    go_ret
    exact ⟨ret_bool HR.out.symm, rfl⟩
  by_cases h2 : c = 96
  · subst h2
    rw [if_pos (.inr (.inl rfl))] at HR
    go_enter Tryz.func164, Tryz.ntmps164
    go_wp2
    go_ret
    exact ⟨ret_bool HR.out.symm, rfl⟩
  by_cases h3 : c = 92
  · subst h3
    rw [if_pos (.inr (.inr rfl))] at HR
    go_enter Tryz.func164, Tryz.ntmps164
    go_wp2
    go_ret
    exact ⟨ret_bool HR.out.symm, rfl⟩
  rw [if_neg (by rintro (h | h | h); exact h1 h; exact h2 h; exact h3 h)] at HR
  by_cases h4 : c = 34
  · subst h4
    rw [if_pos rfl] at HR
    go_enter Tryz.func164, Tryz.ntmps164
    go_wp2
    go_ret
    exact ⟨ret_bool HR.out.symm, rfl⟩
  rw [if_neg h4] at HR
  by_cases h5 : c = 125
  · subst h5
    rw [if_pos rfl] at HR
    cases b0 with
    | true =>
      go_enter Tryz.func164, Tryz.ntmps164
      go_wp2
      go_ret
      exact ⟨ret_bool HR.out.symm, rfl⟩
    | false =>
      go_enter Tryz.func164, Tryz.ntmps164
      go_wp2
      go_ret
      exact ⟨ret_bool HR.out.symm, rfl⟩
  rw [if_neg h5] at HR
  go_enter Tryz.func164, Tryz.ntmps164
  go_wp2
  go_ret
  exact ⟨ret_bool HR.out.symm, rfl⟩
theorem operator_any (t : List UInt8) (colon : Bool) (w : World) : Calls Tryz.prog 176 #[.string ⟨t.toArray⟩, .bool colon] w fun e w' => e = .returned (.tuple #[.int .i64 (WP.operator t colon).1, .int .i64 (WP.operator t colon).2]) ∧ w = w' := by
  have HR := Lib.hid (show WP.operator t colon = if t = [] then (0, 0) else if bt t 0 = 45 then (1, 1) else if bt t 0 = 61 then (2, 1) else if bt t 0 = 63 then (3, 1) else if bt t 0 = 43 then (4, 1)
    else if colon = true then (0, 0) else if Lib.hasPrefix t [37, 37] = true then (7, 2) else if Lib.hasPrefix t [35, 35] = true then (9, 2) else if bt t 0 = 37 then (6, 1) else if bt t 0 = 35 then (8, 1) else (0, 0) from rfl)
  have HP1 := Lib.hid (lx_HasPrefix t [37, 37] w)
  have HP2 := Lib.hid (lx_HasPrefix t [35, 35] w)
  by_cases h0 : t = []
  · subst h0
    rw [if_pos rfl] at HR
    go_enter Tryz.func176, Tryz.ntmps176
    go_wp2
    go_ret2
    exact ⟨by rw [HR.out]; rfl, rfl⟩
  rw [if_neg h0] at HR
  have hpos : (0 < t.length) = True := eq_true (List.length_pos_iff.2 h0)
  have hne : t.isEmpty = false := by cases t with | nil => exact absurd rfl h0 | cons a b => rfl
  by_cases h1 : bt t 0 = 45
  · rw [if_pos h1] at HR
    go_enter Tryz.func176, Tryz.ntmps176
    go_wp2
    go_ret2
    exact ⟨by rw [HR.out]; rfl, rfl⟩
  rw [if_neg h1] at HR
  by_cases h2 : bt t 0 = 61
  · rw [if_pos h2] at HR
    go_enter Tryz.func176, Tryz.ntmps176
    go_wp2
    go_ret2
    exact ⟨by rw [HR.out]; rfl, rfl⟩
  rw [if_neg h2] at HR
  by_cases h3 : bt t 0 = 63
  · rw [if_pos h3] at HR
    go_enter Tryz.func176, Tryz.ntmps176
    go_wp2
    go_ret2
    exact ⟨by rw [HR.out]; rfl, rfl⟩
  rw [if_neg h3] at HR
  by_cases h4 : bt t 0 = 43
  · rw [if_pos h4] at HR
    go_enter Tryz.func176, Tryz.ntmps176
    go_wp2
    go_ret2
    exact ⟨by rw [HR.out]; rfl, rfl⟩
  rw [if_neg h4] at HR
  cases colon with
  | true =>
    rw [if_pos rfl] at HR
    go_enter Tryz.func176, Tryz.ntmps176
    go_wp2
    go_ret2
    exact ⟨by rw [HR.out]; rfl, rfl⟩
  | false =>
    rw [if_neg (by simp)] at HR
    cases hq1 : Lib.hasPrefix t [37, 37] with
    | true =>
      rw [hq1] at HR HP1
      rw [if_pos rfl] at HR
      clear hq1
      go_enter Tryz.func176, Tryz.ntmps176
      go_wp2_with fail
      refine HP1.out.mono ?_
      rintro e w' ⟨rfl, rfl⟩
      go_wp2
      go_ret2
      exact ⟨by rw [HR.out]; rfl, rfl⟩
    | false =>
      rw [hq1] at HR HP1
      rw [if_neg (by simp)] at HR
      clear hq1
      cases hq2 : Lib.hasPrefix t [35, 35] with
      | true =>
        rw [hq2] at HR HP2
        rw [if_pos rfl] at HR
        clear hq2
        go_enter Tryz.func176, Tryz.ntmps176
        go_wp2_with fail
        refine HP1.out.mono ?_
        rintro e w' ⟨rfl, rfl⟩
        go_wp2_with fail
        refine HP2.out.mono ?_
        rintro e w' ⟨rfl, rfl⟩
        go_wp2
        go_ret2
        exact ⟨by rw [HR.out]; rfl, rfl⟩
      | false =>
        rw [hq2] at HR HP2
        rw [if_neg (by simp)] at HR
        clear hq2
        by_cases h5 : bt t 0 = 37
        · rw [if_pos h5] at HR
          go_enter Tryz.func176, Tryz.ntmps176
          go_wp2_with fail
          refine HP1.out.mono ?_
          rintro e w' ⟨rfl, rfl⟩
          go_wp2_with fail
          refine HP2.out.mono ?_
          rintro e w' ⟨rfl, rfl⟩
          go_wp2
          go_ret2
          exact ⟨by rw [HR.out]; rfl, rfl⟩
        rw [if_neg h5] at HR
        by_cases h6 : bt t 0 = 35
        · rw [if_pos h6] at HR
          go_enter Tryz.func176, Tryz.ntmps176
          go_wp2_with fail
          refine HP1.out.mono ?_
          rintro e w' ⟨rfl, rfl⟩
          go_wp2_with fail
          refine HP2.out.mono ?_
          rintro e w' ⟨rfl, rfl⟩
          go_wp2
          go_ret2
          exact ⟨by rw [HR.out]; rfl, rfl⟩
        rw [if_neg h6] at HR
        go_enter Tryz.func176, Tryz.ntmps176
        go_wp2_with fail
        refine HP1.out.mono ?_
        rintro e w' ⟨rfl, rfl⟩
        go_wp2_with fail
        refine HP2.out.mono ?_
        rintro e w' ⟨rfl, rfl⟩
        go_wp2
        go_ret2
        exact ⟨by rw [HR.out]; rfl, rfl⟩
theorem substitution_any (t : List UInt8) (w : World) (hl : t.length ≤ 50000) : Calls Tryz.prog 171 #[.string ⟨t.toArray⟩] w fun e w' => e = .returned (.bool (WP.subst t)) ∧ Below w.heap.size w w' := by
  obtain ⟨k, x, hkx⟩ : ∃ k x, LX.close (36 :: 40 :: (t ++ [41])) 0 = (k, x) := ⟨_, _, rfl⟩
  have HC := Lib.hid (fun v => Close_any (36 :: 40 :: (t ++ [41])) 0 v k x (by simp; omega) hkx)
  have HS := Lib.hid (show WP.subst t = (decide (x = 0) && decide (k = t.length + 3)) by
    unfold WP.subst
    rw [hkx, Bool.eq_iff_iff, decide_eq_true_eq, Bool.and_eq_true, decide_eq_true_eq, decide_eq_true_eq, Prod.mk.injEq]
    exact And.comm)
  clear hkx
  have hx0 : (x == 0) = decide (x = 0) := rfl
  by_cases h0 : x = 0
  · subst h0
    by_cases hk : k = t.length + 3
    · rw [show WP.subst t = true by rw [HS.out, decide_eq_true rfl, decide_eq_true hk]; rfl]
      have e1 : ((k : Int) == (t.length : Int) + 1 + 1 + 1) = true := by rw [beq_iff_eq]; omega
      have e2 : ((k : Int) == (t.length : Int) + 3) = true := by rw [beq_iff_eq]; omega
      clear hk HS
      go_enter Tryz.func171, Tryz.ntmps171
      go_wp2_with fail
      refine (HC.out _).mono ?_
      rintro e w1 ⟨rfl, hb⟩
      have HB := Lib.hid hb
      clear hb
      go_wp2
      go_ret
      exact ⟨rfl, HB.out⟩
    · rw [show WP.subst t = false by rw [HS.out, decide_eq_true rfl, decide_eq_false hk]; rfl]
      have e1 : ((k : Int) == (t.length : Int) + 1 + 1 + 1) = false := by rw [beq_eq_false_iff_ne]; omega
      have e2 : ¬ (k : Int) = (t.length : Int) + 1 + 1 + 1 := by omega
      clear hk HS
      go_enter Tryz.func171, Tryz.ntmps171
      go_wp2_with fail
      refine (HC.out _).mono ?_
      rintro e w1 ⟨rfl, hb⟩
      have HB := Lib.hid hb
      clear hb
      go_wp2
      go_ret
      exact ⟨rfl, HB.out⟩
  · rw [show WP.subst t = false by rw [HS.out, decide_eq_false h0]; rfl]
    have e1 := beq_f h0
    clear HS hx0
    go_enter Tryz.func171, Tryz.ntmps171
    go_wp2_with fail
    refine (HC.out _).mono ?_
    rintro e w1 ⟨rfl, hb⟩
    have HB := Lib.hid hb
    clear hb
    go_wp2
    go_ret
    exact ⟨rfl, HB.out⟩
/-- What close gives. -/
def ClsOut (W : World) : Except WP.Flt Nat → Ending → World → Prop
  | .ok k, e, W' => e = .returned (.int .i64 k) ∧ Below W.heap.size W W'
  | .error f, e, W' => e = .panicked (faultP f) ∧ Below W.heap.size W W'
set_option maxRecDepth 100000 in
set_option maxHeartbeats 1000000 in
theorem close_any {W : World} {g : Nat} {c : WP.Ctx} {st : WP.St} (h : ScP W g c st) (hl : c.s.length ≤ 100000) : Calls Tryz.prog 166 #[.pointer (some ⟨g, 0, none⟩)] W (ClsOut W (WP.cls c.s st.a)) := by
  obtain ⟨lc, ⟨tx, ls, h, -, -⟩, -⟩ := h
  have HB0 := Lib.hid h
  obtain ⟨c0, c1, -, -, -, -, -, -, -⟩ := h.cells
  clear h
  have HF := Lib.hid (fun (x y : Int) (V : World) => fail_any x y V)
  obtain ⟨k, x, hkx⟩ : ∃ k x, LX.close c.s st.a = (k, x) := ⟨_, _, rfl⟩
  have HC := Lib.hid (fun v => Close_any c.s st.a v k x hl hkx)
  have HR := Lib.hid (show WP.cls c.s st.a = if x = 0 then .ok k else .error ((k : Int), x) by unfold WP.cls; rw [hkx])
  clear hkx
  by_cases h0 : x = 0
  · subst h0
    rw [show WP.cls c.s st.a = .ok k by rw [HR.out, if_pos rfl]]
    clear HR
    go_enter Tryz.func166, Tryz.ntmps166
    go_wp2_with fail
    go_region_held3 (fun w' => w'.cell? ⟨g, 0, none⟩ = some (.string ⟨c.s.toArray⟩) ∧ w'.cell? ⟨g, 1, none⟩ = some (.int .i64 st.a) ∧ Below W.heap.size W w')
      (first | exact ⟨by simpa using c0, by simpa using c1, (Below.refl _ _).drew⟩ | (go_split_ands; exact ⟨cell_below (btr ‹Below W.heap.size W _› ‹_›) HB0.out.cells.1, cell_below (btr ‹Below W.heap.size W _› ‹_›) HB0.out.cells.2.1, btr ‹Below W.heap.size W _› ‹_›⟩) | go_keep)
      ((go_at_call 175; go_split_ands; refine (HC.out _).mono ?_; rintro e w1 ⟨rfl, hb1⟩))
    all_goals go_split_ands
    all_goals have HB := Lib.hid ‹Below W.heap.size W _›
    all_goals go_wp2
    all_goals go_ret
    all_goals exact ⟨rfl, HB.out⟩
  · rw [show WP.cls c.s st.a = .error ((k : Int), x) by rw [HR.out, if_neg h0]]
    have e1 : (x != 0) = true := by simpa using h0
    clear HR
    go_enter Tryz.func166, Tryz.ntmps166
    go_wp2_with fail
    go_region_held3 (fun w' => w'.cell? ⟨g, 0, none⟩ = some (.string ⟨c.s.toArray⟩) ∧ w'.cell? ⟨g, 1, none⟩ = some (.int .i64 st.a) ∧ Below W.heap.size W w')
      (first | exact ⟨by simpa using c0, by simpa using c1, (Below.refl _ _).drew⟩ | (go_split_ands; exact ⟨cell_below (btr ‹Below W.heap.size W _› ‹_›) HB0.out.cells.1, cell_below (btr ‹Below W.heap.size W _› ‹_›) HB0.out.cells.2.1, btr ‹Below W.heap.size W _› ‹_›⟩) | go_keep)
      ((go_at_call 175; go_split_ands; refine (HC.out _).mono ?_; rintro e w1 ⟨rfl, hb1⟩))
    all_goals go_split_ands
    all_goals have HB := Lib.hid ‹Below W.heap.size W _›
    all_goals go_wp2_with fail
    all_goals refine (HF.out _ _ _).mono ?_
    all_goals rintro e w' ⟨rfl, rfl⟩
    all_goals exact ⟨rfl, rfl, HB.out⟩
end W
end Go.Proofs.YtcbdhheelddgeaaGreatDoor
namespace Go.Proofs.YtcbdhheelddgeaaGreatDoor
open Go.RowKit K
namespace WP
theorem strip_more : ∀ (f h : Nat) (l : Str), l.length ≤ f → l.length ≤ h → strip f l = strip h l
  | 0, 0, _, _, _ => rfl
  | 0, h + 1, l, hf, _ => by
    obtain rfl := List.eq_nil_of_length_eq_zero (show l.length = 0 by omega)
    rw [strip, strip]; rfl
  | f + 1, 0, l, _, hh => by
    obtain rfl := List.eq_nil_of_length_eq_zero (show l.length = 0 by omega)
    rw [strip, strip]; rfl
  | f + 1, h + 1, l, hf, hh => by
    rw [strip, strip]
    by_cases hp : Lib.hasPrefix l [92, 10] = true
    · rw [if_pos hp, if_pos hp]
      have hl : 2 ≤ l.length := by
        match l, hp with
        | [], hp => exact absurd hp (by decide)
        | [x], hp => simp [Lib.hasPrefix] at hp
        | x :: y :: r, _ => simp
      exact strip_more f h _ (by rw [List.length_drop]; omega) (by rw [List.length_drop]; omega)
    · rw [if_neg hp, if_neg hp]
theorem numLen_le : ∀ (l : Str) (n : Int), numLen l n ≤ l.length
  | [], _ => Nat.le_refl _
  | c :: r, n => by
    rw [numLen]
    split
    · have := numLen_le r (10 * n + ((c.toNat : Int) - 48)); rw [List.length_cons]; omega
    · omega
theorem parameter_ge (s : Str) (i : Nat) : i ≤ parameter s i := by
  unfold parameter
  have := LX.nameEnd_ge s i
  repeat' split
  all_goals omega
theorem parameter_le {s : Str} {i : Nat} (hi : i ≤ s.length) : parameter s i ≤ s.length := by
  unfold parameter
  have h1 := LX.nameEnd_le s hi
  have h2 := numLen_le (s.drop i) 0
  rw [List.length_drop] at h2
  repeat' split
  all_goals omega
end WP
namespace W
def strLen : Value → Nat
  | .string b => b.size
  | _ => 0
theorem strLen_list (l : List UInt8) : strLen (.string ⟨l.toArray⟩) = l.length := by simp [strLen, ByteArray.size]
section
variable {W : World} {g : Nat} {c : WP.Ctx} {st : WP.St}
set_option maxRecDepth 100000 in
set_option maxHeartbeats 2000000 in
theorem tilde_any (h : ScP W g c st) (ha : st.a < c.s.length) (hl : c.s.length ≤ 100000) : Calls Tryz.prog 172 #[.pointer (some ⟨g, 0, none⟩)] W fun e W' => e = .returned (.bool (WP.tilde c st)) ∧ Below W.heap.size W W' := by
  obtain ⟨lc, ⟨tx, ls, h, ht, hls⟩, -⟩ := h
  obtain ⟨A, cap, rfl⟩ := row_val ht
  obtain ⟨A', cap', rfl⟩ := row_val hls
  obtain ⟨c0, c1, -, c3, -, -, -, c7, c8⟩ := h.cells
  clear h ht hls
  have HR := Lib.hid (show WP.tilde c st = (decide (st.ls = [] ∧ st.tx = []) && WP.tildeAt c.s st.a c.op) from rfl)
  by_cases hn : 0 < st.ls.length
  · rw [show WP.tilde c st = false by rw [HR.out, decide_eq_false (fun e => by rw [e.1] at hn; exact absurd hn (by decide))]; rfl]
    have n1 : ((0 : Int) < (st.ls.length : Int)) = True := eq_true (by omega)
    have n2 : (0 < st.ls.length) = True := eq_true hn
    go_enter Tryz.func172, Tryz.ntmps172
    go_wp2
    go_ret
    exact ⟨rfl, Below.refl _ _⟩
  have hn0 : st.ls = [] := List.eq_nil_of_length_eq_zero (by omega)
  have n1 : ((0 : Int) < (st.ls.length : Int)) = False := eq_false (by omega)
  have n2 : (0 < st.ls.length) = False := eq_false hn
  by_cases ht : 0 < st.tx.length
  · rw [show WP.tilde c st = false by rw [HR.out, decide_eq_false (fun e => by rw [e.2] at ht; exact absurd ht (by decide))]; rfl]
    have t1 : ((0 : Int) < (st.tx.length : Int)) = True := eq_true (by omega)
    have t2 : (0 < st.tx.length) = True := eq_true ht
    clear hn0
    go_enter Tryz.func172, Tryz.ntmps172
    go_wp2
    go_ret
    exact ⟨rfl, Below.refl _ _⟩
  have ht0 : st.tx = [] := List.eq_nil_of_length_eq_zero (by omega)
  have t1 : ((0 : Int) < (st.tx.length : Int)) = False := eq_false (by omega)
  have t2 : (0 < st.tx.length) = False := eq_false ht
  obtain ⟨R, hR⟩ : ∃ R, WP.strip c.s.length (c.s.drop (st.a + 1)) = R := ⟨_, rfl⟩
  have HR2 := Lib.hid (show WP.tilde c st = (decide (R = []) || decide (bt R 0 = 47) || (c.op && decide (bt R 0 = 125))) by rw [HR.out, decide_eq_true ⟨hn0, ht0⟩, Bool.true_and]; unfold WP.tildeAt; rw [hR])
  have HRR := Lib.hid hR
  have a1 : IntKind.i64.wrap ((st.a : Int) + 1) = (st.a : Int) + 1 := IntWalk.i64_in _ (by omega)
  have a2 : ((st.a : Int) + 1).toNat = st.a + 1 := by omega
  have a3 : ((st.a : Int) + 1 ≤ (c.s.length : Int)) = True := eq_true (by omega)
  have a4 : (0 : Int) ≤ (st.a : Int) + 1 := by omega
  clear HR hn0 ht0 hR
  go_enter Tryz.func172, Tryz.ntmps172
  go_wp2_with fail
  go_quiet (fail)
  rw [cut_end]
  have HU := Lib.hid (bdN (Below.refl W.heap.size W) nq)
  have c3' : (W.drewN nq).cell? ⟨g, 3, none⟩ = some (.bool c.op) := c3
  generalize W.drewN nq = U at HU c3' ⊢
  clear c0 c1 c3 c7 c8 a1 a2 a3 a4
  go_wp2
  go_loop [3] (fun v => ∃ l : List UInt8, v = .string ⟨l.toArray⟩ ∧ Hid (∃ f, l.length ≤ f ∧ WP.strip f l = R)) (fun v => strLen v)
  case atStart => exact ⟨_, rfl, c.s.length, by rw [List.length_drop]; omega, HRR.out⟩
  case round =>
    obtain ⟨l, rfl, HL⟩ := hrel
    have HP := Lib.hid (lx_HasPrefix l [92, 10] U)
    cases hp : Lib.hasPrefix l [92, 10] with
    | true =>
      have hl2 : 2 ≤ l.length := by
        match l, hp with
        | [], hp => exact absurd hp (by decide)
        | [x], hp => simp [Lib.hasPrefix] at hp
        | x :: y :: r, _ => simp
      have HN := Lib.hid (show ∃ f, (l.drop 2).length ≤ f ∧ WP.strip f (l.drop 2) = R by
        obtain ⟨f, h1, h2⟩ := HL.out
        obtain ⟨f, rfl⟩ : ∃ k, f = k + 1 := ⟨f - 1, by omega⟩
        rw [WP.strip, if_pos hp] at h2
        exact ⟨f, by rw [List.length_drop]; omega, h2⟩)
      rw [hp] at HP
      have l1 : ((2 : Int) ≤ (l.length : Int)) = True := eq_true (by omega)
      clear hp
      go_wp2_with (go_at_call 62; refine HP.out.mono ?_; rintro e w' ⟨rfl, rfl⟩)
      go_round
      case rel => exact ⟨l.drop 2, by rw [cut_end], HN.out⟩
      case measure => show strLen (.string ⟨(cut l 2 l.length).toArray⟩) < strLen (.string ⟨l.toArray⟩); rw [strLen_list, strLen_list, cut_end, List.length_drop]; omega
    | false =>
      have HE := Lib.hid (show l = R by
        obtain ⟨f, h1, h2⟩ := HL.out
        cases f with
        | zero => exact h2
        | succ f => rw [WP.strip, if_neg (by rw [hp]; simp)] at h2; exact h2)
      rw [hp] at HP
      clear hp
      have HR3 := HR2.out
      rw [← HE.out] at HR3
      replace HR3 := Lib.hid HR3
      by_cases hnil : l = []
      · subst hnil
        go_wp2_with (go_at_call 62; refine HP.out.mono ?_; rintro e w' ⟨rfl, rfl⟩)
        go_ret
        exact ⟨ret_bool (by rw [HR3.out]; simp), HU.out⟩
      · have hpos : (0 < l.length) = True := eq_true (List.length_pos_iff.2 hnil)
        have hne : l.isEmpty = false := by cases l with | nil => exact absurd rfl hnil | cons a b => rfl
        have HNI := Lib.hid hnil
        clear hnil
        obtain ⟨b, hb⟩ : ∃ b, bt l 0 = b := ⟨_, rfl⟩
        by_cases h47 : b = 47
        · subst h47
          go_wp2_with (go_at_call 62; refine HP.out.mono ?_; rintro e w' ⟨rfl, rfl⟩)
          go_ret
          exact ⟨ret_bool (by rw [HR3.out, hb]; simp), HU.out⟩
        have e47 := beq_f h47
        cases hop : c.op with
        | false =>
          rw [hop] at c3' HR3
          clear hop
          go_wp2_with (go_at_call 62; refine HP.out.mono ?_; rintro e w' ⟨rfl, rfl⟩)
          go_ret
          exact ⟨ret_bool (by rw [HR3.out, hb]; simp [HNI.out, h47]), HU.out⟩
        | true =>
          rw [hop] at c3' HR3
          clear hop
          go_wp2_with (go_at_call 62; refine HP.out.mono ?_; rintro e w' ⟨rfl, rfl⟩)
          go_ret
          exact ⟨ret_bool (by rw [HR3.out, hb, Bool.eq_iff_iff]; simp [HNI.out, h47]), HU.out⟩
set_option maxRecDepth 100000 in
set_option maxHeartbeats 2000000 in
theorem parameter_any (h : ScP W g c st) (i : Nat) (hi : i ≤ c.s.length) (hl : c.s.length ≤ 100000) : Calls Tryz.prog 169 #[.pointer (some ⟨g, 0, none⟩), .int .i64 i] W fun e W' => e = .returned (.int .i64 (WP.parameter c.s i)) ∧ W = W' := by
  obtain ⟨lc, ⟨tx, ls, h, -, -⟩, -⟩ := h
  obtain ⟨s, pl, op, lv, opn⟩ := c
  dsimp only at h hi hl ⊢
  obtain ⟨c0, -, -, -, -, -, -, -, -⟩ := h.cells
  clear h
  obtain ⟨R, hR⟩ : ∃ R, WP.parameter s i = R := ⟨_, rfl⟩
  rw [hR]
  unfold WP.parameter at hR
  by_cases h0 : i = s.length
  · rw [if_pos h0] at hR
    have HR := Lib.hid hR
    have e1 : ((i : Int) == (s.length : Int)) = true := by rw [beq_iff_eq]; omega
    clear h0 hR
    go_enter Tryz.func169, Tryz.ntmps169
    go_wp2
    go_ret
    exact ⟨ret_int (by rw [HR.out]), rfl⟩
  rw [if_neg h0] at hR
  have hlt : i < s.length := by omega
  have e1 : ((i : Int) == (s.length : Int)) = false := by rw [beq_eq_false_iff_ne]; omega
  have e2 : ((i : Int) < (s.length : Int)) = True := eq_true (by omega)
  clear h0
  have HI := Lib.hid (lx_IndexByte [64, 42, 35, 63, 45, 36, 33, 48] (bt s i) W)
  have HO := Lib.hid (show WP.one8 (bt s i) = decide (0 ≤ Lib.indexByte [64, 42, 35, 63, 45, 36, 33, 48] (bt s i).toNat.toUInt8) from rfl)
  generalize Lib.indexByte [64, 42, 35, 63, 45, 36, 33, 48] (bt s i).toNat.toUInt8 = x at HI HO
  by_cases hx : 0 ≤ x
  · rw [if_pos (by rw [HO.out, decide_eq_true hx])] at hR
    have HR := Lib.hid hR
    have x1 : (0 ≤ x) = True := eq_true hx
    clear hx hR HO
    go_enter Tryz.func169, Tryz.ntmps169
    go_wp2_with (go_at_call 59; refine HI.out.mono ?_; rintro e w' ⟨rfl, rfl⟩)
    go_ret
    exact ⟨ret_int (by rw [← HR.out]; omega), rfl⟩
  rw [if_neg (by rw [HO.out, decide_eq_false hx]; simp)] at hR
  have x1 : (0 ≤ x) = False := eq_false hx
  clear hx HO
  have HD := Lib.hid (wd_digit (bt s i) W)
  cases hd : LX.digit (bt s i) with
  | true =>
    rw [if_pos hd] at hR
    rw [hd] at HD
    have HR := Lib.hid hR
    clear hd hR
    go_enter Tryz.func169, Tryz.ntmps169
    go_wp2_with (first | (go_at_call 59; refine HI.out.mono ?_; rintro e w' ⟨rfl, rfl⟩) | (go_at_call 168; refine HD.out.mono ?_; rintro e w' ⟨rfl, rfl⟩))
    go_loop [1, 6] (fun v n => ∃ (m : Nat) (q : Int), v = .int .i64 m ∧ n = .int .i64 q ∧ m ≤ s.length ∧ 0 ≤ q ∧ q ≤ 2147483647 ∧ Hid (m + WP.numLen (s.drop m) q = R)) (fun v _ => s.length - (intOf v).toNat)
    case atStart => exact ⟨i, 0, rfl, rfl, hi, by omega, by omega, HR.out⟩
    case round =>
      obtain ⟨m, q, rfl, rfl, hm, hq0, hq1, HN⟩ := hrel
      by_cases hmt : m < s.length
      · obtain ⟨y, hy, hb, _⟩ := drop_cons s m hmt
        have m1 : ((m : Int) < (s.length : Int)) = True := eq_true (by omega)
        have HD2 := Lib.hid (wd_digit (bt s m) W)
        have HY := Lib.hid (show WP.numLen (s.drop m) q = if LX.digit (bt s m) = true ∧ 10 * q + (bt s m - 48) ≤ 2147483647 then 1 + WP.numLen (s.drop (m + 1)) (10 * q + (bt s m - 48)) else 0 by rw [hy, WP.numLen, hb])
        clear hy hb
        cases hdm : LX.digit (bt s m) with
        | true =>
          have hbd : 48 ≤ bt s m ∧ bt s m ≤ 57 := by unfold LX.digit at hdm; exact of_decide_eq_true hdm
          obtain ⟨b1, b2⟩ := hbd
          rw [hdm] at HD2
          obtain ⟨b, hbm⟩ : ∃ b, bt s m = b := ⟨_, rfl⟩
          rw [hbm] at HD2 HY b1 b2 hdm
          by_cases hle : 10 * q + (b - 48) ≤ 2147483647
          · have HY2 := HY.out
            rw [if_pos ⟨hdm, hle⟩] at HY2
            replace HY2 := Lib.hid HY2
            clear hdm HY
            go_wp2_with (go_at_call 168; refine HD2.out.mono ?_; rintro e w' ⟨rfl, rfl⟩)
            go_round
            case rel => exact ⟨m + 1, 10 * q + (b - 48), by go_num, rfl, by omega, by omega, hle, by show _ = _; rw [← HN.out, HY2.out]; omega⟩
            case measure => simp [intOf]; omega
          · have HY2 := HY.out
            rw [if_neg (fun e => hle e.2)] at HY2
            replace HY2 := Lib.hid HY2
            clear hdm HY
            go_wp2_with (go_at_call 168; refine HD2.out.mono ?_; rintro e w' ⟨rfl, rfl⟩)
            go_ret
            exact ⟨ret_int (by rw [← HN.out, HY2.out]; simp), rfl⟩
        | false =>
          have HY2 := HY.out
          rw [if_neg (fun e => by rw [hdm] at e; cases e.1)] at HY2
          replace HY2 := Lib.hid HY2
          rw [hdm] at HD2
          clear hdm HY
          go_wp2_with (go_at_call 168; refine HD2.out.mono ?_; rintro e w' ⟨rfl, rfl⟩)
          go_ret
          exact ⟨ret_int (by rw [← HN.out, HY2.out]; simp), rfl⟩
      · have m1 : ((m : Int) < (s.length : Int)) = False := eq_false (by omega)
        have HY2 := Lib.hid (show WP.numLen (s.drop m) q = 0 by rw [List.drop_eq_nil_of_le (by omega)]; rfl)
        go_wp2
        go_ret
        exact ⟨ret_int (by rw [← HN.out, HY2.out]; simp), rfl⟩
  | false =>
    rw [if_neg (by rw [hd]; simp)] at hR
    rw [hd] at HD
    clear hd
    have HST := Lib.hid (wd_starts (bt s i) W)
    cases hs : LX.starts (bt s i) with
    | false =>
      rw [if_neg (by rw [hs]; simp)] at hR
      rw [hs] at HST
      have HR := Lib.hid hR
      clear hs hR
      go_enter Tryz.func169, Tryz.ntmps169
      go_wp2_with (first | (go_at_call 59; refine HI.out.mono ?_; rintro e w' ⟨rfl, rfl⟩) | (go_at_call 168; refine HD.out.mono ?_; rintro e w' ⟨rfl, rfl⟩) | (go_at_call 178; refine HST.out.mono ?_; rintro e w' ⟨rfl, rfl⟩))
      go_ret
      exact ⟨ret_int (by rw [← HR.out]), rfl⟩
    | true =>
      rw [if_pos hs] at hR
      rw [hs] at HST
      have HR := Lib.hid hR
      clear hs hR
      go_enter Tryz.func169, Tryz.ntmps169
      go_wp2_with (first | (go_at_call 59; refine HI.out.mono ?_; rintro e w' ⟨rfl, rfl⟩) | (go_at_call 168; refine HD.out.mono ?_; rintro e w' ⟨rfl, rfl⟩) | (go_at_call 178; refine HST.out.mono ?_; rintro e w' ⟨rfl, rfl⟩))
      go_loop [1] (fun v => ∃ m : Nat, v = .int .i64 m ∧ m ≤ s.length ∧ Hid (LX.nameEnd s m = R)) (fun v => s.length - (intOf v).toNat)
      case atStart => exact ⟨i, rfl, hi, HR.out⟩
      case round =>
        obtain ⟨m, rfl, hm, HN⟩ := hrel
        have HS2 := Lib.hid (wd_starts (bt s m) W)
        have HD2 := Lib.hid (wd_digit (bt s m) W)
        by_cases hmt : m < s.length
        · have m1 : ((m : Int) < (s.length : Int)) = True := eq_true (by omega)
          cases hg : LX.starts (bt s m) || LX.digit (bt s m) with
          | true =>
            have HGO := Lib.hid (LX.nameEnd_go hmt hg)
            cases h1 : LX.starts (bt s m) with
            | true =>
              rw [h1] at HS2
              clear hg h1
              go_wp2_with (go_at_call 178; refine HS2.out.mono ?_; rintro e w' ⟨rfl, rfl⟩)
              go_round
              case rel => exact ⟨m + 1, by go_num, by omega, by show _ = _; rw [← HGO.out]; exact HN.out⟩
              case measure => simp [intOf]; omega
            | false =>
              rw [h1, Bool.false_or] at hg
              rw [h1] at HS2
              rw [hg] at HD2
              clear hg h1
              go_wp2_with (first | (go_at_call 178; refine HS2.out.mono ?_; rintro e w' ⟨rfl, rfl⟩) | (go_at_call 168; refine HD2.out.mono ?_; rintro e w' ⟨rfl, rfl⟩))
              go_round
              case rel => exact ⟨m + 1, by go_num, by omega, by show _ = _; rw [← HGO.out]; exact HN.out⟩
              case measure => simp [intOf]; omega
          | false =>
            have HSP := Lib.hid (LX.nameEnd_stop hmt hg)
            have hg2 := Bool.or_eq_false_iff.1 hg
            rw [hg2.1] at HS2
            rw [hg2.2] at HD2
            clear hg hg2
            go_wp2_with (first | (go_at_call 178; refine HS2.out.mono ?_; rintro e w' ⟨rfl, rfl⟩) | (go_at_call 168; refine HD2.out.mono ?_; rintro e w' ⟨rfl, rfl⟩))
            go_ret
            exact ⟨ret_int (by have h1 := HN.out; have h2 := HSP.out; omega), rfl⟩
        · have m1 : ((m : Int) < (s.length : Int)) = False := eq_false (by omega)
          have HSP := Lib.hid (LX.nameEnd_end (s := s) (i := m) (by omega))
          go_wp2
          go_ret
          exact ⟨ret_int (by have h1 := HN.out; have h2 := HSP.out; omega), rfl⟩
end
end W
end Go.Proofs.YtcbdhheelddgeaaGreatDoor
namespace Go.Proofs.YtcbdhheelddgeaaGreatDoor
open Go.RowKit K
namespace W
/-- What a step of the parser gives: a state, or an error that ends the parser. -/
def Out (W : World) (g : Nat) (c : WP.Ctx) : Except WP.Flt WP.St → Ending → World → Prop
  | .ok st', e, W' => e = .returned (.tuple #[]) ∧ ScP W' g c st' ∧ Fr g W W'
  | .error f, e, W' => e = .panicked (faultP f) ∧ Below g W W'
theorem ScP.setAt {V : World} {g : Nat} {c : WP.Ctx} {st : WP.St} (h : ScP V g c st) (m : Nat) : ScP (V.setCell ⟨g, 1, none⟩ (.int .i64 m)) g c { st with a := m } ∧ Fr g V (V.setCell ⟨g, 1, none⟩ (.int .i64 m)) := by
  obtain ⟨lc, h1, h2⟩ := h
  obtain ⟨tx, ls, hb, ht, hl⟩ := h1
  have hb' := hb.setAt (m : Int) m rfl
  have hf : Fr g V (V.setCell ⟨g, 1, none⟩ (.int .i64 m)) := Fr.mk' hb hb' ((Below.refl g V).setCell (by simp) _) (fun k _ h2 _ _ => Below.heap_setCell V _ _ k (by dsimp only; exact h2)) (fun r hr => .inl hr) (fun r hr => .inl hr)
  exact ⟨⟨lc, ⟨tx, ls, hb', row_set ht (by simp) _, row_set hl (by simp) _⟩, h2.fr hf⟩, hf⟩
section
variable {W : World} {g : Nat} {c : WP.Ctx} {st : WP.St}
/-- add at a part without parts. -/
theorem add0 (k : Nat) (t : List UInt8) (o : Nat) (b : Bool) (m : Nat) (h : ScP W g c st) (hn : st.ls.length ≤ 90000) :
    Calls Tryz.prog 163 #[.pointer (some ⟨g, 0, none⟩), .agg #[.int .i64 k, .string ⟨t.toArray⟩, .int .i64 o, .bool b, .slice none 0 0], .int .i64 m] W (Out W g c (.ok (WP.add (.mk k t o b []) m st))) :=
  add_any (ps := []) k t o b none 0 m h hn (by rw [PRep]; exact ⟨none, 0, rfl, .inl rfl⟩)
theorem lit_any (b : UInt8) (m : Nat) (h : ScP W g c st) (hl : st.tx.length ≤ 100000) (ha : st.a ≤ 100000) (hm : m ≤ 10) :
    Calls Tryz.prog 158 #[.pointer (some ⟨g, 0, none⟩), .int .u8 b.toNat, .int .i64 m] W (Out W g c (.ok (WP.lit b m st))) := literal_any b m h hl ha hm
theorem ScP.box {W : World} {g : Nat} {c : WP.Ctx} {st : WP.St} (h : ScP W g c st) : ∃ tx ls, SB W g c.s st.a c.pl c.op c.lv c.opn st.dep tx ls := by obtain ⟨lc, ⟨tx, ls, hb, -, -⟩, -⟩ := h; exact ⟨tx, ls, hb⟩
set_option maxRecDepth 100000 in
set_option maxHeartbeats 8000000 in
theorem backslash_any (h : ScP W g c st) (hi : WP.Inv c st) (ha : st.a < c.s.length) (hl : c.s.length ≤ 20000) : Calls Tryz.prog 154 #[.pointer (some ⟨g, 0, none⟩)] W (Out W g c (WP.backslash c st)) := by
  have HS := Lib.hid h
  have HLT := Lib.hid h.lt
  have hsum := hi.sum
  have HUD := Lib.hid (fun n => bdN (Below.refl W.heap.size W) n)
  have HUE := Lib.hid (Below.refl W.heap.size W)
  have hF := Lib.hid (fun (x y : Int) (V : World) => fail_any x y V)
  have HL := Lib.hid (fun (b : UInt8) (m : Nat) (V : World) (hV : Below W.heap.size W V) (hm : m ≤ 10) => lit_any (W := V) b m (HS.out.below hV) (by omega) (by omega) hm)
  have HA := Lib.hid (fun (t : List UInt8) (m : Nat) (V : World) (hV : Below W.heap.size W V) => add0 (W := V) 2 t 0 false m (HS.out.below hV) (by omega))
  obtain ⟨tx, ls, hb⟩ := h.box
  have HB := Lib.hid hb
  clear h
  have HR := Lib.hid (show WP.backslash c st = if st.a + 1 = c.s.length then (if c.pl = 3 ∧ c.op = false then .ok (WP.lit 92 1 st) else .error (st.a, 7))
    else if bt c.s (st.a + 1) = 10 then .ok { st with a := st.a + 2 }
    else if c.pl = 0 then .ok (WP.add (.mk 2 (cut c.s (st.a + 1) (st.a + 2)) 0 false []) (st.a + 2) st)
    else if WP.escapes c.pl (bt c.s (st.a + 1)) c.op = true then .ok (WP.lit (by8 (bt c.s (st.a + 1))) 2 st)
    else if c.pl = 2 ∧ c.op = false ∧ (bt c.s (st.a + 1) = 40 ∨ bt c.s (st.a + 1) = 41) then .error (st.a, 6)
    else .ok (WP.lit (by8 (bt c.s (st.a + 1))) 1 (WP.lit 92 1 st)) from rfl)
  obtain ⟨s, pl, op, lv, opn⟩ := c
  obtain ⟨a, dep, tb, lp⟩ := st
  dsimp only at HS HL HA HB HR ha hl hsum ⊢
  obtain ⟨c0, c1, c2, c3, c4, c5, c6, c7, c8⟩ := HB.out.cells
  clear hb
  have w1 : IntKind.i64.wrap ((a : Int) + 1) = (a : Int) + 1 := IntWalk.i64_in _ (by omega)
  have a0 : (0 : Int) ≤ (a : Int) := by omega
  have a4 : (0 : Int) ≤ (a : Int) + 1 := by omega
  have a2 : ((a : Int) + 1).toNat = a + 1 := by omega
  by_cases hend : a + 1 = s.length
  · have e1 : ((a : Int) + 1 == (s.length : Int)) = true := by rw [beq_iff_eq]; omega
    by_cases h3 : pl = 3 ∧ op = false
    · obtain ⟨rfl, rfl⟩ := h3
      rw [show WP.backslash _ _ = _ from HR.out, if_pos hend, if_pos ⟨rfl, rfl⟩]
      clear hend HR
      go_enter Tryz.func154, Tryz.ntmps154
      go_wp2_with fail
      go_quiet (fail)
      go_wp2_with fail
      refine (HL.out 92 1 _ (HUD.out _) (by decide)).mono ?_
      rintro e Y ⟨rfl, hs, hf⟩
      go_wp2
      first | go_end0 | refine bodyPost_ret (results_none rfl _ _ _) rfl ?_
      exact ⟨rfl, hs, (Fr.of_below (HUD.out _) HLT.out).trans hf⟩
    · rw [show WP.backslash _ _ = _ from HR.out, if_pos hend, if_neg h3]
      have h3' : ¬ pl = 3 ∨ (pl = 3 ∧ op = true) := by
        by_cases hp : pl = 3
        · exact .inr ⟨hp, by cases op; exact absurd ⟨hp, rfl⟩ h3; rfl⟩
        · exact .inl hp
      clear hend HR h3
      rcases h3' with h3 | ⟨rfl, rfl⟩
      · have p3 : ((pl : Int) != 3) = true := by rw [bne_iff_ne]; omega
        go_enter Tryz.func154, Tryz.ntmps154
        go_wp2_with fail
        go_quiet (fail)
        go_wp2_with fail
        refine (hF.out _ _ _).mono ?_
        rintro e Y ⟨rfl, rfl⟩
        exact ⟨rfl, rfl, (HUD.out _).mono (Nat.le_of_lt HLT.out)⟩
      · go_enter Tryz.func154, Tryz.ntmps154
        go_wp2_with fail
        go_quiet (fail)
        go_wp2_with fail
        refine (hF.out _ _ _).mono ?_
        rintro e Y ⟨rfl, rfl⟩
        exact ⟨rfl, rfl, (HUD.out _).mono (Nat.le_of_lt HLT.out)⟩
  have hlt : a + 1 < s.length := by omega
  have e1 : ((a : Int) + 1 == (s.length : Int)) = false := by rw [beq_eq_false_iff_ne]; omega
  have e2 : ((a : Int) + 1 < (s.length : Int)) = True := eq_true (by omega)
  obtain ⟨b, hbb⟩ : ∃ b, bt s (a + 1) = b := ⟨_, rfl⟩
  have hb0 := bt_nonneg s (a + 1)
  have hb1 := bt_le s (a + 1)
  rw [hbb] at HR hb0 hb1
  have HBY := Lib.hid (by8_toNat b hb0 hb1)
  rw [show WP.backslash _ _ = _ from HR.out, if_neg hend]
  clear HR hend
  by_cases h10 : b = 10
  · rw [if_pos h10]
    subst h10
    have f1 := HB.out.thaw 1
    go_enter Tryz.func154, Tryz.ntmps154
    go_wp2_with fail
    go_quiet (fail)
    go_wp2_with fail
    go_quiet (fail)
    go_wp2
    first | go_end0 | refine bodyPost_ret (results_none rfl _ _ _) rfl ?_
    exact ⟨rfl, ((HS.out.below (HUD.out _)).setAt (a + 2)).1, (Fr.of_below (HUD.out _) HLT.out).trans ((HS.out.below (HUD.out _)).setAt (a + 2)).2⟩
  rw [if_neg h10]
  have e10 := beq_f h10
  have a5 : ((a : Int) + 1 ≤ (a : Int) + 2) = True := eq_true (by omega)
  have a6 : ((a : Int) + 2 ≤ (s.length : Int)) = True := eq_true (by omega)
  have a7 : ((a : Int) + 2).toNat = a + 2 := by omega
  have a8 : (0 : Int) ≤ (a : Int) + 2 := by omega
  have w2 : IntKind.i64.wrap ((a : Int) + 2) = (a : Int) + 2 := IntWalk.i64_in _ (by omega)
  by_cases hp0 : pl = 0
  · rw [if_pos hp0]
    subst hp0
    go_enter Tryz.func154, Tryz.ntmps154
    go_wp2_with fail
    go_quiet (fail)
    have HUU := Lib.hid (bdN HUE.out nq)
    generalize W.drewN nq = U at HUU ⊢
    clear c0 c1 c2 c3 c4 c5 c6 c7 c8
    obtain ⟨c0, c1, c2, c3, c4, c5, c6, c7, c8⟩ := (HB.out.kept (HUU.out.block g HLT.out)).cells
    go_wp2_with fail
    go_quiet (fail)
    have HUV := Lib.hid (bdN HUU.out nq)
    generalize U.drewN nq = V at HUV ⊢
    clear c0 c1 c2 c3 c4 c5 c6 c7 c8
    obtain ⟨c0, c1, c2, c3, c4, c5, c6, c7, c8⟩ := (HB.out.kept (HUV.out.block g HLT.out)).cells
    have HA2 := Lib.hid (show Calls Tryz.prog 163 #[.pointer (some ⟨g, 0, none⟩), .agg #[.int .i64 2, .string ⟨(cut s (a + 1) (a + 2)).toArray⟩, .int .i64 0, .bool false, .slice none 0 0], .int .i64 ((a : Int) + 2)] V.drew (Out V.drew g _ _) from HA.out (cut s (a + 1) (a + 2)) (a + 2) _ HUV.out.drew)
    go_wp2_with fail
    refine wp_region_still_tail 22 (by kernel_rfl) (by kernel_rfl) ?_
    simp only [List.take_succ_cons, List.take_zero, List.drop_succ_cons, List.drop_zero]
    repeat still_step
    refine wpStill_nil ?_
    change wpList _ _ _ _ _ V.drew
    go_wp2_with fail
    refine HA2.out.mono ?_
    rintro e Y ⟨rfl, hs, hf⟩
    go_wp2
    first | go_end0 | refine bodyPost_ret (results_none rfl _ _ _) rfl ?_
    exact ⟨rfl, hs, (Fr.of_below HUV.out.drew HLT.out).trans hf⟩
  rw [if_neg hp0]
  have p0 : ((pl : Int) == 0) = false := by rw [beq_eq_false_iff_ne]; omega
  have HES := Lib.hid (fun V => escapes_any pl b op V)
  cases hes : WP.escapes pl b op with
  | true =>
    rw [if_pos rfl]
    rw [hes] at HES
    clear hes
    go_enter Tryz.func154, Tryz.ntmps154
    go_wp2_with fail
    go_quiet (fail)
    have HUU := Lib.hid (bdN HUE.out nq)
    generalize W.drewN nq = U at HUU ⊢
    clear c0 c1 c2 c3 c4 c5 c6 c7 c8
    obtain ⟨c0, c1, c2, c3, c4, c5, c6, c7, c8⟩ := (HB.out.kept (HUU.out.block g HLT.out)).cells
    go_wp2_with fail
    go_quiet (fail)
    have HUV := Lib.hid (bdN HUU.out nq)
    generalize U.drewN nq = V at HUV ⊢
    clear c0 c1 c2 c3 c4 c5 c6 c7 c8
    obtain ⟨c0, c1, c2, c3, c4, c5, c6, c7, c8⟩ := (HB.out.kept (HUV.out.block g HLT.out)).cells
    go_wp2_with fail
    go_quiet ((go_at_call 164; exact Calls.quiet_of_same ((HES.out _).mono fun _ _ ⟨x1, x2⟩ => ⟨x1, x2.symm⟩)))
    have HUX := Lib.hid (bdN HUV.out nq)
    generalize V.drewN nq = X at HUX ⊢
    have HL2 := HL.out (by8 b) 2 X HUX.out (by decide)
    rw [HBY.out] at HL2
    replace HL2 := Lib.hid HL2
    go_wp2_with fail
    refine HL2.out.mono ?_
    rintro e Y ⟨rfl, hs, hf⟩
    go_wp2
    first | go_end0 | refine bodyPost_ret (results_none rfl _ _ _) rfl ?_
    exact ⟨rfl, hs, (Fr.of_below HUX.out HLT.out).trans hf⟩
  | false =>
    rw [if_neg (by simp)]
    rw [hes] at HES
    clear hes
    by_cases hp2 : pl = 2 ∧ op = false ∧ (b = 40 ∨ b = 41)
    · rw [if_pos hp2]
      obtain ⟨rfl, rfl, hb4⟩ := hp2
      rcases hb4 with rfl | rfl
      all_goals
        go_enter Tryz.func154, Tryz.ntmps154
        go_wp2_with fail
        go_quiet (fail)
        have HUU := Lib.hid (bdN HUE.out nq)
        generalize W.drewN nq = U at HUU ⊢
        clear c0 c1 c2 c3 c4 c5 c6 c7 c8
        obtain ⟨c0, c1, c2, c3, c4, c5, c6, c7, c8⟩ := (HB.out.kept (HUU.out.block g HLT.out)).cells
        go_wp2_with fail
        go_quiet (fail)
        have HUV := Lib.hid (bdN HUU.out nq)
        generalize U.drewN nq = V at HUV ⊢
        clear c0 c1 c2 c3 c4 c5 c6 c7 c8
        obtain ⟨c0, c1, c2, c3, c4, c5, c6, c7, c8⟩ := (HB.out.kept (HUV.out.block g HLT.out)).cells
        go_wp2_with fail
        go_quiet ((go_at_call 164; exact Calls.quiet_of_same ((HES.out _).mono fun _ _ ⟨x1, x2⟩ => ⟨x1, x2.symm⟩)))
        have HUX := Lib.hid (bdN HUV.out nq)
        generalize V.drewN nq = X at HUX ⊢
        clear c0 c1 c2 c3 c4 c5 c6 c7 c8
        obtain ⟨c0, c1, c2, c3, c4, c5, c6, c7, c8⟩ := (HB.out.kept (HUX.out.block g HLT.out)).cells
        go_wp2_with fail
        refine (hF.out _ _ _).mono ?_
        rintro e Y ⟨rfl, rfl⟩
        exact ⟨rfl, rfl, HUX.out.mono (Nat.le_of_lt HLT.out)⟩
    · rw [if_neg hp2]
      have hcase : ¬ pl = 2 ∨ (pl = 2 ∧ op = true) ∨ (pl = 2 ∧ op = false ∧ ¬ b = 40 ∧ ¬ b = 41) := by
        by_cases h1 : pl = 2
        · cases op
          · exact .inr (.inr ⟨h1, rfl, fun e => hp2 ⟨h1, rfl, .inl e⟩, fun e => hp2 ⟨h1, rfl, .inr e⟩⟩)
          · exact .inr (.inl ⟨h1, rfl⟩)
        · exact .inl h1
      clear hp2
      rcases hcase with hn2 | ⟨rfl, rfl⟩ | ⟨rfl, rfl, h40, h41⟩
      all_goals
        (try have p2 : ((pl : Int) == 2) = false := by rw [beq_eq_false_iff_ne]; omega)
        (try have e40 := beq_f h40)
        (try have e41 := beq_f h41)
        go_enter Tryz.func154, Tryz.ntmps154
        go_wp2_with fail
        go_quiet (fail)
        have HUU := Lib.hid (bdN HUE.out nq)
        generalize W.drewN nq = U at HUU ⊢
        clear c0 c1 c2 c3 c4 c5 c6 c7 c8
        obtain ⟨c0, c1, c2, c3, c4, c5, c6, c7, c8⟩ := (HB.out.kept (HUU.out.block g HLT.out)).cells
        go_wp2_with fail
        go_quiet (fail)
        have HUV := Lib.hid (bdN HUU.out nq)
        generalize U.drewN nq = V at HUV ⊢
        clear c0 c1 c2 c3 c4 c5 c6 c7 c8
        obtain ⟨c0, c1, c2, c3, c4, c5, c6, c7, c8⟩ := (HB.out.kept (HUV.out.block g HLT.out)).cells
        go_wp2_with fail
        go_quiet ((go_at_call 164; exact Calls.quiet_of_same ((HES.out _).mono fun _ _ ⟨x1, x2⟩ => ⟨x1, x2.symm⟩)))
        have HUX := Lib.hid (bdN HUV.out nq)
        generalize V.drewN nq = X at HUX ⊢
        clear c0 c1 c2 c3 c4 c5 c6 c7 c8
        obtain ⟨c0, c1, c2, c3, c4, c5, c6, c7, c8⟩ := (HB.out.kept (HUX.out.block g HLT.out)).cells
        have HL1 := Lib.hid (HL.out 92 1 X HUX.out (by decide))
        go_wp2_with fail
        refine HL1.out.mono ?_
        rintro e Y ⟨rfl, hs, hf⟩
        have HFY := Lib.hid hf
        have HL2 := lit_any (W := Y) (by8 b) 1 hs (by show (tb ++ [_]).length ≤ 100000; simp; omega) (by show a + 1 ≤ 100000; omega) (by decide)
        rw [HBY.out] at HL2
        replace HL2 := Lib.hid HL2
        clear hs hf
        go_wp2_with fail
        refine HL2.out.mono ?_
        rintro e Y2 ⟨rfl, hs, hf⟩
        go_wp2
        first | go_end0 | refine bodyPost_ret (results_none rfl _ _ _) rfl ?_
        exact ⟨rfl, hs, ((Fr.of_below HUX.out HLT.out).trans HFY.out).trans hf⟩
end
end W
end Go.Proofs.YtcbdhheelddgeaaGreatDoor
