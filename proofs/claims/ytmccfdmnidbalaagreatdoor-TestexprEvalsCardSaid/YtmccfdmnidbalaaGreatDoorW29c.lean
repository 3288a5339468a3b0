/- Chapter 29: operators and binary of testexpr. -/
import Derived.Test.YtmccfdmnidbalaaGreatDoorW29b
import Derived.RegionTactic
import Derived.BigRegion
import Derived.Deep.QuietTactic
import Derived.BigQuiet
namespace Go.Proofs.YtmccfdmnidbalaaGreatDoor
open Go.RowKit K
namespace W
theorem isUnary_any (op : List UInt8) (w : World) :
    Calls Tryz.prog 28 #[.string ⟨op.toArray⟩] w fun e w' => e = .returned (.bool (P.isUn op)) ∧ w = w' := by
  by_cases h0 : op = [45, 101]
  · subst h0
    go_enter Tryz.func28, Tryz.ntmps28
    go_wp2
    go_ret
    exact ⟨rfl, rfl⟩
  have e0 : (op == [45, 101]) = false := by simpa using h0
  by_cases h1 : op = [45, 102]
  · subst h1
    go_enter Tryz.func28, Tryz.ntmps28
    go_wp2
    go_ret
    exact ⟨rfl, rfl⟩
  have e1 : (op == [45, 102]) = false := by simpa using h1
  by_cases h2 : op = [45, 100]
  · subst h2
    go_enter Tryz.func28, Tryz.ntmps28
    go_wp2
    go_ret
    exact ⟨rfl, rfl⟩
  have e2 : (op == [45, 100]) = false := by simpa using h2
  by_cases h3 : op = [45, 115]
  · subst h3
    go_enter Tryz.func28, Tryz.ntmps28
    go_wp2
    go_ret
    exact ⟨rfl, rfl⟩
  have e3 : (op == [45, 115]) = false := by simpa using h3
  by_cases h4 : op = [45, 110]
  · subst h4
    go_enter Tryz.func28, Tryz.ntmps28
    go_wp2
    go_ret
    exact ⟨rfl, rfl⟩
  have e4 : (op == [45, 110]) = false := by simpa using h4
  by_cases h5 : op = [45, 122]
  · subst h5
    go_enter Tryz.func28, Tryz.ntmps28
    go_wp2
    go_ret
    exact ⟨rfl, rfl⟩
  have e5 : (op == [45, 122]) = false := by simpa using h5
  have HF := Lib.hid (show P.isUn op = false by unfold P.isUn; rw [e0, e1, e2, e3, e4, e5]; rfl)
  clear h0 h1 h2 h3 h4 h5
  go_enter Tryz.func28, Tryz.ntmps28
  go_wp2
  go_ret
  exact ⟨ret_bool HF.out.symm, rfl⟩
theorem isBinary_any (op : List UInt8) (w : World) :
    Calls Tryz.prog 30 #[.string ⟨op.toArray⟩] w fun e w' => e = .returned (.bool (P.isBin op)) ∧ w = w' := by
  by_cases h0 : op = [61]
  · subst h0
    go_enter Tryz.func30, Tryz.ntmps30
    go_wp2
    go_ret
    exact ⟨rfl, rfl⟩
  have e0 : (op == [61]) = false := by simpa using h0
  by_cases h1 : op = [33, 61]
  · subst h1
    go_enter Tryz.func30, Tryz.ntmps30
    go_wp2
    go_ret
    exact ⟨rfl, rfl⟩
  have e1 : (op == [33, 61]) = false := by simpa using h1
  by_cases h2 : op = [45, 101, 113]
  · subst h2
    go_enter Tryz.func30, Tryz.ntmps30
    go_wp2
    go_ret
    exact ⟨rfl, rfl⟩
  have e2 : (op == [45, 101, 113]) = false := by simpa using h2
  by_cases h3 : op = [45, 110, 101]
  · subst h3
    go_enter Tryz.func30, Tryz.ntmps30
    go_wp2
    go_ret
    exact ⟨rfl, rfl⟩
  have e3 : (op == [45, 110, 101]) = false := by simpa using h3
  by_cases h4 : op = [45, 108, 116]
  · subst h4
    go_enter Tryz.func30, Tryz.ntmps30
    go_wp2
    go_ret
    exact ⟨rfl, rfl⟩
  have e4 : (op == [45, 108, 116]) = false := by simpa using h4
  by_cases h5 : op = [45, 108, 101]
  · subst h5
    go_enter Tryz.func30, Tryz.ntmps30
    go_wp2
    go_ret
    exact ⟨rfl, rfl⟩
  have e5 : (op == [45, 108, 101]) = false := by simpa using h5
  by_cases h6 : op = [45, 103, 116]
  · subst h6
    go_enter Tryz.func30, Tryz.ntmps30
    go_wp2
    go_ret
    exact ⟨rfl, rfl⟩
  have e6 : (op == [45, 103, 116]) = false := by simpa using h6
  by_cases h7 : op = [45, 103, 101]
  · subst h7
    go_enter Tryz.func30, Tryz.ntmps30
    go_wp2
    go_ret
    exact ⟨rfl, rfl⟩
  have e7 : (op == [45, 103, 101]) = false := by simpa using h7
  have HF := Lib.hid (show P.isBin op = false by unfold P.isBin; rw [e0, e1, e2, e3, e4, e5, e6, e7]; rfl)
  clear h0 h1 h2 h3 h4 h5 h6 h7
  go_enter Tryz.func30, Tryz.ntmps30
  go_wp2
  go_ret
  exact ⟨ret_bool HF.out.symm, rfl⟩
/-- The parser's box: what is left, the files, the directory, the two marks. -/
def PB (w : World) (g : Nat) (r f : Value) (c : List UInt8) (u i : Bool) : Prop := w.heap[g]? = some (.cells #[r, f, .string ⟨c.toArray⟩, .bool u, .bool i] 37 (0, 0))
theorem PB.lt {w : World} {g : Nat} {r f : Value} {c : List UInt8} {u i : Bool} (h : PB w g r f c u i) : g < w.heap.size := (Array.getElem?_eq_some_iff.1 h).1
theorem PB.below {w w' : World} {g : Nat} {r f : Value} {c : List UInt8} {u i : Bool} (h : PB w g r f c u i) (hb : Below w.heap.size w w') : PB w' g r f c u i := (hb.block g h.lt).trans h
theorem PB.cells {w : World} {g : Nat} {r f : Value} {c : List UInt8} {u i : Bool} (h : PB w g r f c u i) :
    w.cell? ⟨g, 0, none⟩ = some r ∧ w.cell? ⟨g, 1, none⟩ = some f ∧ w.cell? ⟨g, 2, none⟩ = some (.string ⟨c.toArray⟩) ∧ w.cell? ⟨g, 3, none⟩ = some (.bool u) ∧ w.cell? ⟨g, 4, none⟩ = some (.bool i) :=
  ⟨Lib.cell_of_heap h 0, Lib.cell_of_heap h 1, Lib.cell_of_heap h 2, Lib.cell_of_heap h 3, Lib.cell_of_heap h 4⟩
theorem PB.thaw {w : World} {g : Nat} {r f : Value} {c : List UInt8} {u i : Bool} (h : PB w g r f c u i) : w.frozen? ⟨g, 0, none⟩ = false ∧ w.frozen? ⟨g, 3, none⟩ = false ∧ w.frozen? ⟨g, 4, none⟩ = false := by
  unfold PB at h
  refine ⟨?_, ?_, ?_⟩ <;> simp [World.frozen?, h]
theorem PB.set0 {w : World} {g : Nat} {r f : Value} {c : List UInt8} {u i : Bool} (h : PB w g r f c u i) (v : Value) : PB (w.setCell ⟨g, 0, none⟩ v) g v f c u i := by
  have := heap_setCell_same w g 0 _ _ v h
  unfold PB; rw [this]; simp
theorem PB.set3 {w : World} {g : Nat} {r f : Value} {c : List UInt8} {u i : Bool} (h : PB w g r f c u i) (v : Bool) : PB (w.setCell ⟨g, 3, none⟩ (.bool v)) g r f c v i := by
  have := heap_setCell_same w g 3 _ _ (.bool v) h
  unfold PB; rw [this]; simp
theorem PB.set4 {w : World} {g : Nat} {r f : Value} {c : List UInt8} {u i : Bool} (h : PB w g r f c u i) (v : Bool) : PB (w.setCell ⟨g, 4, none⟩ (.bool v)) g r f c u v := by
  have := heap_setCell_same w g 4 _ _ (.bool v) h
  unfold PB; rw [this]; simp
/-- A value comes back; the parser's box is left as told, nothing else below it is turned. -/
def BPost (w0 : World) (r f : Value) (c : List UInt8) (v u i : Bool) (e : Ending) (w' : World) : Prop := e = .returned (.bool v) ∧ Below w0.heap.size w0 w' ∧ PB w' w0.heap.size r f c u i
set_option maxHeartbeats 2000000 in
theorem binary_any (a op b : List UInt8) (w0 w : World) (r f : Value) (c : List UInt8) (u i : Bool) (hb0 : Below w0.heap.size w0 w) (hp : PB w w0.heap.size r f c u i) (hl1 : a.length ≤ 1000000) (hl2 : b.length ≤ 1000000) (hw : Env w) :
    Calls Tryz.prog 31 #[.pointer (some ⟨w0.heap.size, 0, none⟩), .string ⟨a.toArray⟩, .string ⟨op.toArray⟩, .string ⟨b.toArray⟩] w (BPost w0 r f c (P.binV a op b) u (i || P.binI a op b)) := by
  unfold BPost
  have HB0 := Lib.hid hb0
  have HP := Lib.hid hp
  have HI := Lib.hid (integer_any a w hl1 hw)
  have HJ := Lib.hid (fun w' (hb : Below w.heap.size w w') => integer_any b w' hl2 (hw.below hb))
  have HC := Lib.hid (fun m n w' => Compare_any m n w')
  unfold IPost P.intB at HI HJ
  clear hb0 hw
  by_cases t1 : op = [61]
  · subst t1
    have HV := Lib.hid (show P.binV a [61] b = (a == b) from rfl)
    have HX := Lib.hid (show (i || P.binI a [61] b) = i by simp [P.binI, P.text?])
    generalize P.binV a [61] b = V at HV
    clear HI HJ HC
    go_enter Tryz.func31, Tryz.ntmps31
    go_wp2
    go_ret
    exact ⟨ret_bool HV.out.symm, HB0.out, by rw [HX.out]; exact HP.out⟩
  by_cases t2 : op = [33, 61]
  · subst t2
    have HV := Lib.hid (show P.binV a [33, 61] b = (a != b) from rfl)
    have HX := Lib.hid (show (i || P.binI a [33, 61] b) = i by simp [P.binI, P.text?])
    generalize P.binV a [33, 61] b = V at HV
    clear HI HJ HC
    go_enter Tryz.func31, Tryz.ntmps31
    go_wp2
    go_ret
    exact ⟨ret_bool HV.out.symm, HB0.out, by rw [HX.out]; exact HP.out⟩
  have e1 : (op == [61]) = false := by simpa using t1
  have e2 : (op == [33, 61]) = false := by simpa using t2
  have HT := Lib.hid (show P.text? op = false by unfold P.text?; rw [e1, e2]; rfl)
  have HV := Lib.hid (show P.binV a op b = match P.intP a, P.intP b with | some m, some n => P.cmpV op m n | _, _ => false by unfold P.binV; rw [if_neg t1, if_neg t2]; cases P.intP a <;> cases P.intP b <;> rfl)
  have HX := Lib.hid (show P.binI a op b = (decide (P.intP a = none) || decide (P.intP b = none)) by unfold P.binI; rw [HT.out]; rfl)
  generalize P.binV a op b = V at HV
  generalize P.binI a op b = X at HX
  generalize P.intP a = m at *
  generalize P.intP b = n at *
  obtain ⟨c0, c1, c2, c3, c4⟩ := hp.cells
  obtain ⟨f0, f3, f4⟩ := hp.thaw
  clear t1 t2 hp
  have HFAIL : Hid (∀ w1, Below w.heap.size w w1 → Below w0.heap.size w0 (w1.setCell ⟨w0.heap.size, 4, none⟩ (.bool true)) ∧ PB (w1.setCell ⟨w0.heap.size, 4, none⟩ (.bool true)) w0.heap.size r f c u true ∧ w1.frozen? ⟨w0.heap.size, 4, none⟩ = false ∧ (∃ v, w1.cell? ⟨w0.heap.size, 4, none⟩ = some v)) := fun w1 h1 => by
    have hq := HP.out.below h1
    exact ⟨((HB0.out.trans (h1.mono HB0.out.size)).setCell (by simp) _), hq.set4 true, hq.thaw.2.2, _, hq.cells.2.2.2.2⟩
  have HKEEP : Hid (∀ w1, Below w.heap.size w w1 → Below w0.heap.size w0 w1 ∧ PB w1 w0.heap.size r f c u i) := fun w1 h1 => ⟨HB0.out.trans (h1.mono HB0.out.size), HP.out.below h1⟩
  clear c0 c1 c2 c3 c4 f0 f3 f4
  cases m with
  | none =>
    have HVF := Lib.hid (show V = false by rw [HV.out])
    have HXT := Lib.hid (show X = true by rw [HX.out]; rfl)
    go_enter Tryz.func31, Tryz.ntmps31
    go_wp2_with fail
    refine HI.out.mono ?_
    rintro e w1 ⟨rfl, hb1⟩
    have HB1 := Lib.hid hb1
    clear hb1
    go_wp2_with fail
    refine (HJ.out w1 HB1.out).mono ?_
    rintro e w2 ⟨rfl, hb2⟩
    have HB2 := Lib.hid (btr HB1.out hb2)
    obtain ⟨q1, q2, q3, q4, q5⟩ := HFAIL.out w2 HB2.out
    have Q1 := Lib.hid q1
    have Q2 := Lib.hid q2
    clear hb2 q1 q2
    go_wp2
    go_ret
    exact ⟨ret_bool HVF.out.symm, Q1.out, by rw [HXT.out, Bool.or_true]; exact Q2.out⟩
  | some m =>
    cases n with
    | none =>
      have HVF := Lib.hid (show V = false by rw [HV.out])
      have HXT := Lib.hid (show X = true by rw [HX.out]; rfl)
      go_enter Tryz.func31, Tryz.ntmps31
      go_wp2_with fail
      refine HI.out.mono ?_
      rintro e w1 ⟨rfl, hb1⟩
      have HB1 := Lib.hid hb1
      clear hb1
      go_wp2_with fail
      refine (HJ.out w1 HB1.out).mono ?_
      rintro e w2 ⟨rfl, hb2⟩
      have HB2 := Lib.hid (btr HB1.out hb2)
      obtain ⟨q1, q2, q3, q4, q5⟩ := HFAIL.out w2 HB2.out
      have Q1 := Lib.hid q1
      have Q2 := Lib.hid q2
      clear hb2 q1 q2
      go_wp2
      go_ret
      exact ⟨ret_bool HVF.out.symm, Q1.out, by rw [HXT.out, Bool.or_true]; exact Q2.out⟩
    | some n =>
      have HXF := Lib.hid (show X = false by rw [HX.out]; rfl)
      have HVV := Lib.hid (show V = P.cmpV op m n by rw [HV.out])
      have s1 := P.sgn_lt m n
      have s2 := P.sgn_gt m n
      have s3 := P.sgn_eq m n
      have HZ := Lib.hid (show (P.sgnI (m - n) < 0 ↔ m < n) ∧ (0 < P.sgnI (m - n) ↔ n < m) ∧ (P.sgnI (m - n) = 0 ↔ m = n) from ⟨s1, s2, s3⟩)
      have HC1 := Lib.hid (fun w' => HC.out m n w')
      generalize P.sgnI (m - n) = z at HZ HC1
      clear s1 s2 s3 HC HX HV
      by_cases o0 : op = [45, 108, 116]
      · subst o0
        have HF := Lib.hid (show V = decide (m < n) by rw [HVV.out]; rfl)
        go_enter Tryz.func31, Tryz.ntmps31
        go_wp2_with fail
        refine HI.out.mono ?_
        rintro e w1 ⟨rfl, hb1⟩
        have HB1 := Lib.hid hb1
        clear hb1
        go_wp2_with fail
        refine (HJ.out w1 HB1.out).mono ?_
        rintro e w2 ⟨rfl, hb2⟩
        have HB2 := Lib.hid (btr HB1.out hb2)
        clear hb2
        go_wp2_with fail
        refine (HC1.out w2).mono ?_
        rintro e w3 ⟨rfl, rfl⟩
        go_wp2
        go_ret
        exact ⟨ret_bool (by rw [HF.out, Bool.eq_iff_iff]; have := HZ.out; simp; omega), (HKEEP.out _ HB2.out).1, by rw [HXF.out, Bool.or_false]; exact (HKEEP.out _ HB2.out).2⟩
      have d0 : (op == [45, 108, 116]) = false := by simpa using o0
      by_cases o1 : op = [45, 103, 101]
      · subst o1
        have HF := Lib.hid (show V = decide (n ≤ m) by rw [HVV.out]; rfl)
        go_enter Tryz.func31, Tryz.ntmps31
        go_wp2_with fail
        refine HI.out.mono ?_
        rintro e w1 ⟨rfl, hb1⟩
        have HB1 := Lib.hid hb1
        clear hb1
        go_wp2_with fail
        refine (HJ.out w1 HB1.out).mono ?_
        rintro e w2 ⟨rfl, hb2⟩
        have HB2 := Lib.hid (btr HB1.out hb2)
        clear hb2
        go_wp2_with fail
        refine (HC1.out w2).mono ?_
        rintro e w3 ⟨rfl, rfl⟩
        go_wp2
        go_ret
        exact ⟨ret_bool (by rw [HF.out, Bool.eq_iff_iff]; have := HZ.out; simp; omega), (HKEEP.out _ HB2.out).1, by rw [HXF.out, Bool.or_false]; exact (HKEEP.out _ HB2.out).2⟩
      have d1 : (op == [45, 103, 101]) = false := by simpa using o1
      by_cases o2 : op = [45, 103, 116]
      · subst o2
        have HF := Lib.hid (show V = decide (n < m) by rw [HVV.out]; rfl)
        go_enter Tryz.func31, Tryz.ntmps31
        go_wp2_with fail
        refine HI.out.mono ?_
        rintro e w1 ⟨rfl, hb1⟩
        have HB1 := Lib.hid hb1
        clear hb1
        go_wp2_with fail
        refine (HJ.out w1 HB1.out).mono ?_
        rintro e w2 ⟨rfl, hb2⟩
        have HB2 := Lib.hid (btr HB1.out hb2)
        clear hb2
        go_wp2_with fail
        refine (HC1.out w2).mono ?_
        rintro e w3 ⟨rfl, rfl⟩
        go_wp2
        go_ret
        exact ⟨ret_bool (by rw [HF.out, Bool.eq_iff_iff]; have := HZ.out; simp; omega), (HKEEP.out _ HB2.out).1, by rw [HXF.out, Bool.or_false]; exact (HKEEP.out _ HB2.out).2⟩
      have d2 : (op == [45, 103, 116]) = false := by simpa using o2
      by_cases o3 : op = [45, 108, 101]
      · subst o3
        have HF := Lib.hid (show V = decide (m ≤ n) by rw [HVV.out]; rfl)
        go_enter Tryz.func31, Tryz.ntmps31
        go_wp2_with fail
        refine HI.out.mono ?_
        rintro e w1 ⟨rfl, hb1⟩
        have HB1 := Lib.hid hb1
        clear hb1
        go_wp2_with fail
        refine (HJ.out w1 HB1.out).mono ?_
        rintro e w2 ⟨rfl, hb2⟩
        have HB2 := Lib.hid (btr HB1.out hb2)
        clear hb2
        go_wp2_with fail
        refine (HC1.out w2).mono ?_
        rintro e w3 ⟨rfl, rfl⟩
        go_wp2
        go_ret
        exact ⟨ret_bool (by rw [HF.out, Bool.eq_iff_iff]; have := HZ.out; simp; omega), (HKEEP.out _ HB2.out).1, by rw [HXF.out, Bool.or_false]; exact (HKEEP.out _ HB2.out).2⟩
      have d3 : (op == [45, 108, 101]) = false := by simpa using o3
      by_cases o4 : op = [45, 110, 101]
      · subst o4
        have HF := Lib.hid (show V = decide (m ≠ n) by rw [HVV.out]; rfl)
        go_enter Tryz.func31, Tryz.ntmps31
        go_wp2_with fail
        refine HI.out.mono ?_
        rintro e w1 ⟨rfl, hb1⟩
        have HB1 := Lib.hid hb1
        clear hb1
        go_wp2_with fail
        refine (HJ.out w1 HB1.out).mono ?_
        rintro e w2 ⟨rfl, hb2⟩
        have HB2 := Lib.hid (btr HB1.out hb2)
        clear hb2
        go_wp2_with fail
        refine (HC1.out w2).mono ?_
        rintro e w3 ⟨rfl, rfl⟩
        go_wp2
        go_ret
        exact ⟨ret_bool (by rw [HF.out, Bool.eq_iff_iff]; have := HZ.out; simp; omega), (HKEEP.out _ HB2.out).1, by rw [HXF.out, Bool.or_false]; exact (HKEEP.out _ HB2.out).2⟩
      have d4 : (op == [45, 110, 101]) = false := by simpa using o4
      have HF := Lib.hid (show V = decide (m = n) by rw [HVV.out]; unfold P.cmpV; rw [if_neg o0, if_neg o1, if_neg o2, if_neg o3, if_neg o4])
      clear o0 o1 o2 o3 o4
      go_enter Tryz.func31, Tryz.ntmps31
      go_wp2_with fail
      refine HI.out.mono ?_
      rintro e w1 ⟨rfl, hb1⟩
      have HB1 := Lib.hid hb1
      clear hb1
      go_wp2_with fail
      refine (HJ.out w1 HB1.out).mono ?_
      rintro e w2 ⟨rfl, hb2⟩
      have HB2 := Lib.hid (btr HB1.out hb2)
      clear hb2
      go_wp2_with fail
      refine (HC1.out w2).mono ?_
      rintro e w3 ⟨rfl, rfl⟩
      go_wp2
      go_ret
      exact ⟨ret_bool (by rw [HF.out, Bool.eq_iff_iff]; have := HZ.out; simp; omega), (HKEEP.out _ HB2.out).1, by rw [HXF.out, Bool.or_false]; exact (HKEEP.out _ HB2.out).2⟩
end W
end Go.Proofs.YtmccfdmnidbalaaGreatDoor
