/- Words: reject, name, escapes, operator, substitution, close. -/
import Derived.Test.YtmgomklpjjkehaaGreatW08d
import Derived.Test.YtmgomklpjjkehaaGreatW07e
import Derived.Deep.RegionHeld3
namespace Go.Proofs.YtmgomklpjjkehaaGreat
open Go.RowKit K
namespace WP
theorem cls_ok {s : Str} {a e : Nat} (h : cls s a = .ok e) : LX.close s a = (e, 0) := by
  unfold cls at h
  split at h
  · rename_i h0
    injection h with h
    rw [← h, ← h0]
  · cases h
theorem cls_bad {s : Str} {a : Nat} {f : Flt} (h : cls s a = .error f) : ∃ k, LX.close s a = (k, f.2) ∧ f.1 = (k : Int) ∧ ¬ f.2 = 0 := by
  unfold cls at h
  split at h
  · cases h
  · rename_i h0
    injection h with h
    subst h
    exact ⟨_, rfl, rfl, h0⟩
end WP
namespace W
section
variable {W : World} {g : Nat} {c : WP.Ctx} {st : WP.St}
theorem reject_any (h : ScP W g c st) (i : Nat) : Calls Tryz.prog 90 #[.pointer (some ⟨g, 0, none⟩), .int .i64 i] W fun e W' => e = .panicked (faultP (WP.reject c st i)) ∧ W = W' := by
  obtain ⟨lc, ⟨tx, ls, h, -, -⟩, -⟩ := h
  obtain ⟨c0, c1, -, -, -, -, -, -, -⟩ := h.cells
  clear h
  have HF := Lib.hid (fun (x y : Int) (V : World) => fail_any x y V)
  unfold WP.reject
  by_cases hi : i = c.s.length
  · rw [if_pos hi]
    have e1 : ((i : Int) == (c.s.length : Int)) = true := by rw [beq_iff_eq]; omega
    clear hi
    go_enter Tryz.func90, Tryz.ntmps90
    go_wp2_with fail
    refine (HF.out _ _ _).mono ?_
    rintro e w' ⟨rfl, rfl⟩
    exact ⟨rfl, rfl, rfl⟩
  · rw [if_neg hi]
    have e1 : ((i : Int) == (c.s.length : Int)) = false := by rw [beq_eq_false_iff_ne]; omega
    clear hi
    go_enter Tryz.func90, Tryz.ntmps90
    go_wp2_with fail
    refine (HF.out _ _ _).mono ?_
    rintro e w' ⟨rfl, rfl⟩
    exact ⟨rfl, rfl, rfl⟩
/-- What name gives. -/
def NameOut (W : World) (b : Bool) (m : Int) (e : Ending) (W' : World) : Prop := (e = if b = true then .panicked (faultP (m, 3)) else .returned (.tuple #[])) ∧ W = W'
theorem name_any (h : ScP W g c st) (i k : Nat) (m : Int) (hi : i < c.s.length) (hik : i ≤ k) (hk : k ≤ c.s.length) (hl : c.s.length ≤ 100000) :
    Calls Tryz.prog 79 #[.pointer (some ⟨g, 0, none⟩), .int .i64 i, .int .i64 k, .int .i64 m] W (NameOut W (WP.tooLong c.s i k) m) := by
  obtain ⟨lc, ⟨tx, ls, h, -, -⟩, -⟩ := h
  obtain ⟨c0, -, -, -, -, -, -, -, -⟩ := h.cells
  clear h
  have HF := Lib.hid (fun (x y : Int) (V : World) => fail_any x y V)
  have b1 : ((i : Int) < (c.s.length : Int)) = True := eq_true (by omega)
  obtain ⟨d, rfl⟩ : ∃ d : Nat, k = i + d := ⟨k - i, by omega⟩
  have hs : ((i + d : Nat) : Int) - (i : Int) = (d : Int) := by omega
  have hs2 : ((i : Int) + (d : Int)) - (i : Int) = (d : Int) := by omega
  have HST := Lib.hid (wd_starts (bt c.s i) W)
  have HT := Lib.hid (show WP.tooLong c.s i (i + d) = (LX.starts (bt c.s i) && decide (32 < d)) by unfold WP.tooLong; rw [show i + d - i = d by omega])
  cases hst : LX.starts (bt c.s i) with
  | false =>
    rw [hst] at HST HT
    rw [show WP.tooLong c.s i (i + d) = false from HT.out]
    clear hst HT
    go_enter Tryz.func79, Tryz.ntmps79
    go_wp2_with (go_at_call 52; refine HST.out.mono ?_; rintro e w' ⟨rfl, rfl⟩)
    go_end0
    exact ⟨rfl, rfl⟩
  | true =>
    rw [hst] at HST HT
    by_cases hd : 32 < d
    · rw [show WP.tooLong c.s i (i + d) = true by rw [HT.out, decide_eq_true hd]; rfl]
      have d1 : ((32 : Int) < (d : Int)) = True := eq_true (by omega)
      have d2 : (32 < d) = True := eq_true hd
      clear hst HT
      go_enter Tryz.func79, Tryz.ntmps79
      go_wp2_with (go_at_call 52; refine HST.out.mono ?_; rintro e w' ⟨rfl, rfl⟩)
      refine (HF.out _ _ _).mono ?_
      rintro e w' ⟨rfl, rfl⟩
      exact ⟨rfl, rfl, rfl⟩
    · rw [show WP.tooLong c.s i (i + d) = false by rw [HT.out, decide_eq_false hd]; rfl]
      have d1 : ((32 : Int) < (d : Int)) = False := eq_false (by omega)
      have d2 : (32 < d) = False := eq_false hd
      clear hst HT
      go_enter Tryz.func79, Tryz.ntmps79
      go_wp2_with (go_at_call 52; refine HST.out.mono ?_; rintro e w' ⟨rfl, rfl⟩)
      go_end0
      exact ⟨rfl, rfl⟩
end
theorem escapes_any (pl : Nat) (c : Int) (op : Bool) (w : World) : Calls Tryz.prog 50 #[.int .i64 pl, .int .u8 c, .bool op] w fun e w' => e = .returned (.bool (WP.escapes pl c op)) ∧ w = w' := by
  have e0 : ((pl : Int) != 0) = decide (pl ≠ 0) := by rw [Bool.eq_iff_iff, bne_iff_ne, decide_eq_true_eq]; omega
  have e1 : ((pl : Int) == 1) = decide (pl = 1) := by rw [Bool.eq_iff_iff, beq_iff_eq, decide_eq_true_eq]; omega
  have HR := Lib.hid (show WP.escapes pl c op = if c = 36 ∨ c = 96 ∨ c = 92 then decide (pl ≠ 0) else if c = 34 then decide (pl = 1) else if c = 125 then decide (pl ≠ 0) && op else false from rfl)
  generalize decide (pl ≠ 0) = b0 at e0 HR
  generalize decide (pl = 1) = b1 at e1 HR
  by_cases h1 : c = 36
  · subst h1
    rw [if_pos (.inl rfl)] at HR
    go_enter Tryz.func50, Tryz.ntmps50
    go_wp2
    go_ret
    exact ⟨ret_bool HR.out.symm, rfl⟩
  by_cases h2 : c = 96
  · subst h2
    rw [if_pos (.inr (.inl rfl))] at HR
    go_enter Tryz.func50, Tryz.ntmps50
    go_wp2
    go_ret
    exact ⟨ret_bool HR.out.symm, rfl⟩
  by_cases h3 : c = 92
  · subst h3
    rw [if_pos (.inr (.inr rfl))] at HR
    go_enter Tryz.func50, Tryz.ntmps50
    go_wp2
    go_ret
    exact ⟨ret_bool HR.out.symm, rfl⟩
  rw [if_neg (by rintro (h | h | h); exact h1 h; exact h2 h; exact h3 h)] at HR
  by_cases h4 : c = 34
  · subst h4
    rw [if_pos rfl] at HR
    go_enter Tryz.func50, Tryz.ntmps50
    go_wp2
    go_ret
    exact ⟨ret_bool HR.out.symm, rfl⟩
  rw [if_neg h4] at HR
  by_cases h5 : c = 125
  · subst h5
    rw [if_pos rfl] at HR
    cases b0 with
    | true =>
      go_enter Tryz.func50, Tryz.ntmps50
      go_wp2
      go_ret
      exact ⟨ret_bool HR.out.symm, rfl⟩
    | false =>
      go_enter Tryz.func50, Tryz.ntmps50
      go_wp2
      go_ret
      exact ⟨ret_bool HR.out.symm, rfl⟩
  rw [if_neg h5] at HR
  go_enter Tryz.func50, Tryz.ntmps50
  go_wp2
  go_ret
  exact ⟨ret_bool HR.out.symm, rfl⟩
theorem operator_any (t : List UInt8) (colon : Bool) (w : World) : Calls Tryz.prog 89 #[.string ⟨t.toArray⟩, .bool colon] w fun e w' => e = .returned (.tuple #[.int .i64 (WP.operator t colon).1, .int .i64 (WP.operator t colon).2]) ∧ w = w' := by
  have HR := Lib.hid (show WP.operator t colon = if t = [] then (0, 0) else if bt t 0 = 45 then (1, 1) else if bt t 0 = 61 then (2, 1) else if bt t 0 = 63 then (3, 1) else if bt t 0 = 43 then (4, 1)
    else if colon = true then (0, 0) else if Lib.hasPrefix t [37, 37] = true then (7, 2) else if Lib.hasPrefix t [35, 35] = true then (9, 2) else if bt t 0 = 37 then (6, 1) else if bt t 0 = 35 then (8, 1) else (0, 0) from rfl)
  have HP1 := Lib.hid (lx_HasPrefix t [37, 37] w)
  have HP2 := Lib.hid (lx_HasPrefix t [35, 35] w)
  by_cases h0 : t = []
  · subst h0
    rw [if_pos rfl] at HR
    go_enter Tryz.func89, Tryz.ntmps89
    go_wp2
    go_ret2
    exact ⟨by rw [HR.out]; rfl, rfl⟩
  rw [if_neg h0] at HR
  have hpos : (0 < t.length) = True := eq_true (List.length_pos_iff.2 h0)
  have hne : t.isEmpty = false := by cases t with | nil => exact absurd rfl h0 | cons a b => rfl
  by_cases h1 : bt t 0 = 45
  · rw [if_pos h1] at HR
    go_enter Tryz.func89, Tryz.ntmps89
    go_wp2
    go_ret2
    exact ⟨by rw [HR.out]; rfl, rfl⟩
  rw [if_neg h1] at HR
  by_cases h2 : bt t 0 = 61
  · rw [if_pos h2] at HR
    go_enter Tryz.func89, Tryz.ntmps89
    go_wp2
    go_ret2
    exact ⟨by rw [HR.out]; rfl, rfl⟩
  rw [if_neg h2] at HR
  by_cases h3 : bt t 0 = 63
  · rw [if_pos h3] at HR
    go_enter Tryz.func89, Tryz.ntmps89
    go_wp2
    go_ret2
    exact ⟨by rw [HR.out]; rfl, rfl⟩
  rw [if_neg h3] at HR
  by_cases h4 : bt t 0 = 43
  · rw [if_pos h4] at HR
    go_enter Tryz.func89, Tryz.ntmps89
    go_wp2
    go_ret2
    exact ⟨by rw [HR.out]; rfl, rfl⟩
  rw [if_neg h4] at HR
  cases colon with
  | true =>
    rw [if_pos rfl] at HR
    go_enter Tryz.func89, Tryz.ntmps89
    go_wp2
    go_ret2
    exact ⟨by rw [HR.out]; rfl, rfl⟩
  | false =>
    rw [if_neg (by simp)] at HR
    cases hq1 : Lib.hasPrefix t [37, 37] with
    | true =>
      rw [hq1] at HR HP1
      rw [if_pos rfl] at HR
      clear hq1
      go_enter Tryz.func89, Tryz.ntmps89
      go_wp2_with fail
      refine HP1.out.mono ?_
      rintro e w' ⟨rfl, rfl⟩
      go_wp2
      go_ret2
      exact ⟨by rw [HR.out]; rfl, rfl⟩
    | false =>
      rw [hq1] at HR HP1
      rw [if_neg (by simp)] at HR
      clear hq1
      cases hq2 : Lib.hasPrefix t [35, 35] with
      | true =>
        rw [hq2] at HR HP2
        rw [if_pos rfl] at HR
        clear hq2
        go_enter Tryz.func89, Tryz.ntmps89
        go_wp2_with fail
        refine HP1.out.mono ?_
        rintro e w' ⟨rfl, rfl⟩
        go_wp2_with fail
        refine HP2.out.mono ?_
        rintro e w' ⟨rfl, rfl⟩
        go_wp2
        go_ret2
        exact ⟨by rw [HR.out]; rfl, rfl⟩
      | false =>
        rw [hq2] at HR HP2
        rw [if_neg (by simp)] at HR
        clear hq2
        by_cases h5 : bt t 0 = 37
        · rw [if_pos h5] at HR
          go_enter Tryz.func89, Tryz.ntmps89
          go_wp2_with fail
          refine HP1.out.mono ?_
          rintro e w' ⟨rfl, rfl⟩
          go_wp2_with fail
          refine HP2.out.mono ?_
          rintro e w' ⟨rfl, rfl⟩
          go_wp2
          go_ret2
          exact ⟨by rw [HR.out]; rfl, rfl⟩
        rw [if_neg h5] at HR
        by_cases h6 : bt t 0 = 35
        · rw [if_pos h6] at HR
          go_enter Tryz.func89, Tryz.ntmps89
          go_wp2_with fail
          refine HP1.out.mono ?_
          rintro e w' ⟨rfl, rfl⟩
          go_wp2_with fail
          refine HP2.out.mono ?_
          rintro e w' ⟨rfl, rfl⟩
          go_wp2
          go_ret2
          exact ⟨by rw [HR.out]; rfl, rfl⟩
        rw [if_neg h6] at HR
        go_enter Tryz.func89, Tryz.ntmps89
        go_wp2_with fail
        refine HP1.out.mono ?_
        rintro e w' ⟨rfl, rfl⟩
        go_wp2_with fail
        refine HP2.out.mono ?_
        rintro e w' ⟨rfl, rfl⟩
        go_wp2
        go_ret2
        exact ⟨by rw [HR.out]; rfl, rfl⟩
theorem substitution_any (t : List UInt8) (w : World) (hl : t.length ≤ 50000) : Calls Tryz.prog 81 #[.string ⟨t.toArray⟩] w fun e w' => e = .returned (.bool (WP.subst t)) ∧ Below w.heap.size w w' := by
  obtain ⟨k, x, hkx⟩ : ∃ k x, LX.close (36 :: 40 :: (t ++ [41])) 0 = (k, x) := ⟨_, _, rfl⟩
  have HC := Lib.hid (fun v => Close_any (36 :: 40 :: (t ++ [41])) 0 v k x (by simp; omega) hkx)
  have HS := Lib.hid (show WP.subst t = (decide (x = 0) && decide (k = t.length + 3)) by
    unfold WP.subst
    rw [hkx, Bool.eq_iff_iff, decide_eq_true_eq, Bool.and_eq_true, decide_eq_true_eq, decide_eq_true_eq, Prod.mk.injEq]
    exact And.comm)
  clear hkx
  have hx0 : (x == 0) = decide (x = 0) := rfl
  by_cases h0 : x = 0
  · subst h0
    by_cases hk : k = t.length + 3
    · rw [show WP.subst t = true by rw [HS.out, decide_eq_true rfl, decide_eq_true hk]; rfl]
      have e1 : ((k : Int) == (t.length : Int) + 1 + 1 + 1) = true := by rw [beq_iff_eq]; omega
      have e2 : ((k : Int) == (t.length : Int) + 3) = true := by rw [beq_iff_eq]; omega
      clear hk HS
      go_enter Tryz.func81, Tryz.ntmps81
      go_wp2_with fail
      refine (HC.out _).mono ?_
      rintro e w1 ⟨rfl, hb⟩
      have HB := Lib.hid hb
      clear hb
      go_wp2
      go_ret
      exact ⟨rfl, HB.out⟩
    · rw [show WP.subst t = false by rw [HS.out, decide_eq_true rfl, decide_eq_false hk]; rfl]
      have e1 : ((k : Int) == (t.length : Int) + 1 + 1 + 1) = false := by rw [beq_eq_false_iff_ne]; omega
      have e2 : ¬ (k : Int) = (t.length : Int) + 1 + 1 + 1 := by omega
      clear hk HS
      go_enter Tryz.func81, Tryz.ntmps81
      go_wp2_with fail
      refine (HC.out _).mono ?_
      rintro e w1 ⟨rfl, hb⟩
      have HB := Lib.hid hb
      clear hb
      go_wp2
      go_ret
      exact ⟨rfl, HB.out⟩
  · rw [show WP.subst t = false by rw [HS.out, decide_eq_false h0]; rfl]
    have e1 := beq_f h0
    clear HS hx0
    go_enter Tryz.func81, Tryz.ntmps81
    go_wp2_with fail
    refine (HC.out _).mono ?_
    rintro e w1 ⟨rfl, hb⟩
    have HB := Lib.hid hb
    clear hb
    go_wp2
    go_ret
    exact ⟨rfl, HB.out⟩
/-- What close gives. -/
def ClsOut (W : World) : Except WP.Flt Nat → Ending → World → Prop
  | .ok k, e, W' => e = .returned (.int .i64 k) ∧ Below W.heap.size W W'
  | .error f, e, W' => e = .panicked (faultP f) ∧ Below W.heap.size W W'
set_option maxRecDepth 100000 in
set_option maxHeartbeats 1000000 in
theorem close_any {W : World} {g : Nat} {c : WP.Ctx} {st : WP.St} (h : ScP W g c st) (hl : c.s.length ≤ 100000) : Calls Tryz.prog 76 #[.pointer (some ⟨g, 0, none⟩)] W (ClsOut W (WP.cls c.s st.a)) := by
  obtain ⟨lc, ⟨tx, ls, h, -, -⟩, -⟩ := h
  have HB0 := Lib.hid h
  obtain ⟨c0, c1, -, -, -, -, -, -, -⟩ := h.cells
  clear h
  have HF := Lib.hid (fun (x y : Int) (V : World) => fail_any x y V)
  obtain ⟨k, x, hkx⟩ : ∃ k x, LX.close c.s st.a = (k, x) := ⟨_, _, rfl⟩
  have HC := Lib.hid (fun v => Close_any c.s st.a v k x hl hkx)
  have HR := Lib.hid (show WP.cls c.s st.a = if x = 0 then .ok k else .error ((k : Int), x) by unfold WP.cls; rw [hkx])
  clear hkx
  by_cases h0 : x = 0
  · subst h0
    rw [show WP.cls c.s st.a = .ok k by rw [HR.out, if_pos rfl]]
    clear HR
    go_enter Tryz.func76, Tryz.ntmps76
    go_wp2_with fail
    go_region_held3 (fun w' => w'.cell? ⟨g, 0, none⟩ = some (.string ⟨c.s.toArray⟩) ∧ w'.cell? ⟨g, 1, none⟩ = some (.int .i64 st.a) ∧ Below W.heap.size W w')
      (first | exact ⟨by simpa using c0, by simpa using c1, (Below.refl _ _).drew⟩ | (go_split_ands; exact ⟨cell_below (btr ‹Below W.heap.size W _› ‹_›) HB0.out.cells.1, cell_below (btr ‹Below W.heap.size W _› ‹_›) HB0.out.cells.2.1, btr ‹Below W.heap.size W _› ‹_›⟩) | go_keep)
      ((go_at_call 88; go_split_ands; refine (HC.out _).mono ?_; rintro e w1 ⟨rfl, hb1⟩))
    all_goals go_split_ands
    all_goals have HB := Lib.hid ‹Below W.heap.size W _›
    all_goals go_wp2
    all_goals go_ret
    all_goals exact ⟨rfl, HB.out⟩
  · rw [show WP.cls c.s st.a = .error ((k : Int), x) by rw [HR.out, if_neg h0]]
    have e1 : (x != 0) = true := by simpa using h0
    clear HR
    go_enter Tryz.func76, Tryz.ntmps76
    go_wp2_with fail
    go_region_held3 (fun w' => w'.cell? ⟨g, 0, none⟩ = some (.string ⟨c.s.toArray⟩) ∧ w'.cell? ⟨g, 1, none⟩ = some (.int .i64 st.a) ∧ Below W.heap.size W w')
      (first | exact ⟨by simpa using c0, by simpa using c1, (Below.refl _ _).drew⟩ | (go_split_ands; exact ⟨cell_below (btr ‹Below W.heap.size W _› ‹_›) HB0.out.cells.1, cell_below (btr ‹Below W.heap.size W _› ‹_›) HB0.out.cells.2.1, btr ‹Below W.heap.size W _› ‹_›⟩) | go_keep)
      ((go_at_call 88; go_split_ands; refine (HC.out _).mono ?_; rintro e w1 ⟨rfl, hb1⟩))
    all_goals go_split_ands
    all_goals have HB := Lib.hid ‹Below W.heap.size W _›
    all_goals go_wp2_with fail
    all_goals refine (HF.out _ _ _).mono ?_
    all_goals rintro e w' ⟨rfl, rfl⟩
    all_goals exact ⟨rfl, rfl, HB.out⟩
end W
end Go.Proofs.YtmgomklpjjkehaaGreat
