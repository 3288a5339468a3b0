/- Chapter 29: the reference's compare and two. -/
import Derived.Test.YtmccfdmnidbalaaGreatDoorR29b
namespace Go.Proofs.YtmccfdmnidbalaaGreatDoor
open Go.RowKit K
theorem binOp_lss_lists (t : TypeId) (a b : List UInt8) : binOp .lss t (.string ⟨a.toArray⟩) (.string ⟨b.toArray⟩) = pure (.bool (decide (a < b))) := by
  rw [binOp_string_lss, Lib.toList_data, Lib.toList_data, P.bl_lt]
namespace P
theorem ltD_cases (a b : Str) : (decide (a.length < b.length) = true ∧ ltD a b = true) ∨ (decide (a.length < b.length) = false ∧ ((a.length : Int) == (b.length : Int)) = true ∧ decide (a < b) = true ∧ ltD a b = true) ∨
    (decide (a.length < b.length) = false ∧ ((a.length : Int) == (b.length : Int)) = true ∧ decide (a < b) = false ∧ ltD a b = false) ∨ (decide (a.length < b.length) = false ∧ ((a.length : Int) == (b.length : Int)) = false ∧ ltD a b = false) := by
  unfold ltD
  have e : ((a.length : Int) == (b.length : Int)) = (a.length == b.length) := by
    rw [Bool.eq_iff_iff]; simp; omega
  rw [e]
  cases h1 : decide (a.length < b.length) with
  | true => exact .inl ⟨rfl, rfl⟩
  | false =>
    cases h2 : (a.length == b.length) with
    | false => exact .inr (.inr (.inr ⟨rfl, rfl, rfl⟩))
    | true =>
      cases h3 : decide (a < b) with
      | true => exact .inr (.inl ⟨rfl, rfl, rfl, rfl⟩)
      | false => exact .inr (.inr (.inl ⟨rfl, rfl, rfl, rfl⟩))
end P
namespace W
theorem ret2 {z z' : Int} {b b' : Bool} (h : z = z') (h' : b = b') : Ending.returned (.tuple #[.int .i64 z, .bool b]) = .returned (.tuple #[.int .i64 z', .bool b']) := by rw [h, h']
set_option maxHeartbeats 4000000 in
theorem compare_ref (a b : List UInt8) (w : World) (ha : a.length ≤ 1000000) (hb : b.length ≤ 1000000) :
    Calls Tryz.prog 34 #[.string ⟨a.toArray⟩, .string ⟨b.toArray⟩] w fun e w' => e = .returned (.tuple #[.int .i64 (P.cmpR a b), .bool (P.okR a && P.okR b)]) ∧ w = w' := by
  have HA := Lib.hid (integer_ref a w ha)
  have HB := Lib.hid (integer_ref b w hb)
  unfold RInt at HA HB
  have HC := Lib.hid (fun h1 h2 => (P.cmpD_eq (a := a) (b := b) h1 h2).symm)
  have HZ := Lib.hid (fun h => P.cmpR_none (a := a) (b := b) h)
  generalize P.cmpR a b = C at *
  generalize P.negR a = na at *
  generalize P.negR b = nb at *
  generalize P.okR a = oa at *
  generalize P.okR b = ob at *
  generalize P.digR a = da at *
  generalize P.digR b = db at *
  clear ha hb
  cases oa with
  | false =>
    have HF := Lib.hid (HZ.out rfl)
    go_enter Tryz.func34, Tryz.ntmps34
    go_wp2_with fail; refine (HA.out).mono ?_; rintro e w1 ⟨rfl, rfl⟩
    go_wp2_with fail; refine (HB.out).mono ?_; rintro e w1 ⟨rfl, rfl⟩
    go_wp2
    exact bodyPost_ret (v := .tuple #[.int .i64 0, .bool false]) (by simp [results, Tryz.results34, go_sem]) rfl ⟨ret2 HF.out.symm rfl, rfl⟩
  | true =>
  cases ob with
  | false =>
    have HF := Lib.hid (HZ.out rfl)
    go_enter Tryz.func34, Tryz.ntmps34
    go_wp2_with fail; refine (HA.out).mono ?_; rintro e w1 ⟨rfl, rfl⟩
    go_wp2_with fail; refine (HB.out).mono ?_; rintro e w1 ⟨rfl, rfl⟩
    go_wp2
    exact bodyPost_ret (v := .tuple #[.int .i64 0, .bool false]) (by simp [results, Tryz.results34, go_sem]) rfl ⟨ret2 HF.out.symm rfl, rfl⟩
  | true =>
  have HE := Lib.hid (HC.out rfl rfl)
  clear HC HZ
  have hl := fun t => binOp_lss_lists t da db
  rcases P.ltD_cases da db with ⟨h1, hlt⟩ | ⟨h1, h2, h3, hlt⟩ | ⟨h1, h2, h3, hlt⟩ | ⟨h1, h2, hlt⟩
  · cases na <;> cases nb
    all_goals
      have HLT := Lib.hid hlt
      clear hlt
      go_enter Tryz.func34, Tryz.ntmps34
      go_wp2_with fail; refine (HA.out).mono ?_; rintro e w1 ⟨rfl, rfl⟩
      go_wp2_with fail; refine (HB.out).mono ?_; rintro e w1 ⟨rfl, rfl⟩
      go_wp2
      go_ret2
      refine ⟨ret2 ?_ rfl, rfl⟩
      rw [HE.out]; unfold P.cmpD; rw [HLT.out]; rfl
  · cases na <;> cases nb
    all_goals
      have HLT := Lib.hid hlt
      clear hlt
      go_enter Tryz.func34, Tryz.ntmps34
      go_wp2_with fail; refine (HA.out).mono ?_; rintro e w1 ⟨rfl, rfl⟩
      go_wp2_with fail; refine (HB.out).mono ?_; rintro e w1 ⟨rfl, rfl⟩
      go_wp2
      go_ret2
      refine ⟨ret2 ?_ rfl, rfl⟩
      rw [HE.out]; unfold P.cmpD; rw [HLT.out]; rfl
  · cases hne : (da != db) with
    | true =>
      have hne' : (da == db) = false := by unfold bne at hne; simpa using hne
      cases na <;> cases nb
      all_goals
        have HLT := Lib.hid (And.intro hlt hne)
        clear hlt
        go_enter Tryz.func34, Tryz.ntmps34
        go_wp2_with fail; refine (HA.out).mono ?_; rintro e w1 ⟨rfl, rfl⟩
        go_wp2_with fail; refine (HB.out).mono ?_; rintro e w1 ⟨rfl, rfl⟩
        go_wp2
        go_ret2
        refine ⟨ret2 ?_ rfl, rfl⟩
        rw [HE.out]; unfold P.cmpD; rw [HLT.out.1, HLT.out.2]; rfl
    | false =>
      have hne' : (da == db) = true := by unfold bne at hne; simpa using hne
      cases na <;> cases nb
      all_goals
        have HLT := Lib.hid (And.intro hlt hne)
        clear hlt
        go_enter Tryz.func34, Tryz.ntmps34
        go_wp2_with fail; refine (HA.out).mono ?_; rintro e w1 ⟨rfl, rfl⟩
        go_wp2_with fail; refine (HB.out).mono ?_; rintro e w1 ⟨rfl, rfl⟩
        go_wp2
        go_ret2
        refine ⟨ret2 ?_ rfl, rfl⟩
        rw [HE.out]; unfold P.cmpD; rw [HLT.out.1, HLT.out.2]; rfl
  · have hne : (da != db) = true := by
      have : da ≠ db := by rintro rfl; simp at h2
      simpa using this
    have hne' : (da == db) = false := by unfold bne at hne; simpa using hne
    cases na <;> cases nb
    all_goals
      have HLT := Lib.hid (And.intro hlt hne)
      clear hlt
      go_enter Tryz.func34, Tryz.ntmps34
      go_wp2_with fail; refine (HA.out).mono ?_; rintro e w1 ⟨rfl, rfl⟩
      go_wp2_with fail; refine (HB.out).mono ?_; rintro e w1 ⟨rfl, rfl⟩
      go_wp2
      go_ret2
      refine ⟨ret2 ?_ rfl, rfl⟩
      rw [HE.out]; unfold P.cmpD; rw [HLT.out.1, HLT.out.2]; rfl
/-- The reader's box. -/
def RB (w : World) (g : Nat) (a : Value) (at_ : Nat) (f : Value) (c : List UInt8) (e : Int) (o : Bool) : Prop := w.heap[g]? = some (.cells #[a, .int .i64 at_, f, .string ⟨c.toArray⟩, .int .i64 e, .bool o] 41 (0, 0))
theorem RB.lt {w : World} {g : Nat} {a f : Value} {at_ : Nat} {c : List UInt8} {e : Int} {o : Bool} (h : RB w g a at_ f c e o) : g < w.heap.size := (Array.getElem?_eq_some_iff.1 h).1
theorem RB.below {w w' : World} {g : Nat} {a f : Value} {at_ : Nat} {c : List UInt8} {e : Int} {o : Bool} (h : RB w g a at_ f c e o) (hb : Below w.heap.size w w') : RB w' g a at_ f c e o := (hb.block g h.lt).trans h
theorem RB.cells {w : World} {g : Nat} {a f : Value} {at_ : Nat} {c : List UInt8} {e : Int} {o : Bool} (h : RB w g a at_ f c e o) :
    w.cell? ⟨g, 0, none⟩ = some a ∧ w.cell? ⟨g, 1, none⟩ = some (.int .i64 at_) ∧ w.cell? ⟨g, 2, none⟩ = some f ∧ w.cell? ⟨g, 3, none⟩ = some (.string ⟨c.toArray⟩) ∧ w.cell? ⟨g, 4, none⟩ = some (.int .i64 e) ∧ w.cell? ⟨g, 5, none⟩ = some (.bool o) :=
  ⟨Lib.cell_of_heap h 0, Lib.cell_of_heap h 1, Lib.cell_of_heap h 2, Lib.cell_of_heap h 3, Lib.cell_of_heap h 4, Lib.cell_of_heap h 5⟩
theorem RB.thaw {w : World} {g : Nat} {a f : Value} {at_ : Nat} {c : List UInt8} {e : Int} {o : Bool} (h : RB w g a at_ f c e o) : w.frozen? ⟨g, 0, none⟩ = false ∧ w.frozen? ⟨g, 1, none⟩ = false ∧ w.frozen? ⟨g, 4, none⟩ = false ∧ w.frozen? ⟨g, 5, none⟩ = false := by
  have h' : w.heap[g]? = _ := h
  refine ⟨?_, ?_, ?_, ?_⟩ <;> simp [World.frozen?, h']
theorem RB.set0 {w : World} {g : Nat} {a f : Value} {at_ : Nat} {c : List UInt8} {e : Int} {o : Bool} (h : RB w g a at_ f c e o) (x : Value) : RB (w.setCell ⟨g, 0, none⟩ x) g x at_ f c e o := by
  have := heap_setCell_same w g 0 _ _ x h
  unfold RB; rw [this]; simp
theorem RB.set1 {w : World} {g : Nat} {a f : Value} {at_ : Nat} {c : List UInt8} {e : Int} {o : Bool} (h : RB w g a at_ f c e o) (x : Nat) : RB (w.setCell ⟨g, 1, none⟩ (.int .i64 x)) g a x f c e o := by
  have := heap_setCell_same w g 1 _ _ (.int .i64 x) h
  unfold RB; rw [this]; simp
theorem RB.set4 {w : World} {g : Nat} {a f : Value} {at_ : Nat} {c : List UInt8} {e : Int} {o : Bool} (h : RB w g a at_ f c e o) (x : Int) : RB (w.setCell ⟨g, 4, none⟩ (.int .i64 x)) g a at_ f c x o := by
  have := heap_setCell_same w g 4 _ _ (.int .i64 x) h
  unfold RB; rw [this]; simp
theorem RB.set5 {w : World} {g : Nat} {a f : Value} {at_ : Nat} {c : List UInt8} {e : Int} {o : Bool} (h : RB w g a at_ f c e o) (x : Bool) : RB (w.setCell ⟨g, 5, none⟩ (.bool x)) g a at_ f c e x := by
  have := heap_setCell_same w g 5 _ _ (.bool x) h
  unfold RB; rw [this]; simp
/-- What two and one leave: a value, and the mark of an odd operand. -/
def QPost (w0 : World) (a f : Value) (at_ : Nat) (c : List UInt8) (x : Int) (v o : Bool) (e : Ending) (w' : World) : Prop := e = .returned (.bool v) ∧ Below w0.heap.size w0 w' ∧ RB w' w0.heap.size a at_ f c x o
theorem op_cases {op : List UInt8} (h : P.isBin op = true) : op = [61] ∨ op = [33, 61] ∨ op = [45, 101, 113] ∨ op = [45, 110, 101] ∨ op = [45, 108, 116] ∨ op = [45, 108, 101] ∨ op = [45, 103, 116] ∨ op = [45, 103, 101] := by
  unfold P.isBin at h
  simpa [or_assoc] using h
set_option maxHeartbeats 4000000 in
set_option maxRecDepth 100000 in
theorem two_ref (a op b : List UInt8) (w0 w : World) (ar f : Value) (at_ : Nat) (c : List UInt8) (x : Int) (o : Bool) (hop : P.isBin op = true) (ha : a.length ≤ 1000000) (hb : b.length ≤ 1000000) (hb0 : Below w0.heap.size w0 w) (hp : RB w w0.heap.size ar at_ f c x o) :
    Calls Tryz.prog 19 #[.pointer (some ⟨w0.heap.size, 0, none⟩), .string ⟨a.toArray⟩, .string ⟨op.toArray⟩, .string ⟨b.toArray⟩] w (QPost w0 ar f at_ c x (P.binW a op b) (o || P.binI a op b)) := by
  have HC := Lib.hid (compare_ref a b w ha hb)
  have HB0 := Lib.hid hb0
  have HP := Lib.hid hp
  have HI := Lib.hid (P.binI_ok a op b)
  have HW := Lib.hid (show P.binW a op b = if P.text? op then (a == b) == (op == [61]) else P.tabR op (P.cmpR a b) from rfl)
  generalize P.binW a op b = V at *
  generalize P.binI a op b = I at *
  generalize P.cmpR a b = z at *
  unfold QPost
  clear ha hb
  rcases op_cases hop with rfl | rfl | hop2
  · have HV := Lib.hid (show V = (a == b) by rw [HW.out]; cases (a == b) <;> rfl)
    have HII := Lib.hid (show I = false from HI.out)
    clear hop HC HI HW hb0 hp
    cases hab : (a == b)
    all_goals
      rw [hab] at HV
      go_enter Tryz.func19, Tryz.ntmps19
      go_wp2
      go_ret
      exact ⟨ret_bool HV.out.symm, HB0.out, by rw [HII.out, Bool.or_false]; exact HP.out⟩
  · have HV := Lib.hid (show V = !(a == b) by rw [HW.out]; cases (a == b) <;> rfl)
    have HII := Lib.hid (show I = false from HI.out)
    clear hop HC HI HW hb0 hp
    cases hab : (a == b)
    all_goals
      rw [hab] at HV
      go_enter Tryz.func19, Tryz.ntmps19
      go_wp2
      go_ret
      exact ⟨ret_bool HV.out.symm, HB0.out, by rw [HII.out, Bool.or_false]; exact HP.out⟩
  · obtain ⟨c0, c1, c2, c3, c4, c5⟩ := hp.cells
    obtain ⟨f0, f1, f4, f5⟩ := hp.thaw
    generalize hok : (P.okR a && P.okR b) = ok at *
    clear hok hp hb0 hop
    cases ok with
    | true =>
      rcases hop2 with rfl | rfl | rfl | rfl | rfl | rfl
      all_goals
        have HV := Lib.hid HW.out
        have HII := Lib.hid (show I = false from HI.out)
        clear HW HI
        go_enter Tryz.func19, Tryz.ntmps19
        go_wp2_with fail; refine (HC.out).mono ?_; rintro e w1 ⟨rfl, rfl⟩
        go_wp2
        go_ret
        exact ⟨by rw [HV.out]; simp [P.text?, P.tabR] <;> rfl, HB0.out, by rw [HII.out, Bool.or_false]; exact HP.out⟩
    | false =>
      rcases hop2 with rfl | rfl | rfl | rfl | rfl | rfl
      all_goals
        have HV := Lib.hid HW.out
        have HII := Lib.hid (show I = true from HI.out)
        clear HW HI
        go_enter Tryz.func19, Tryz.ntmps19
        go_wp2_with fail; refine (HC.out).mono ?_; rintro e w1 ⟨rfl, rfl⟩
        go_wp2
        go_ret
        exact ⟨by rw [HV.out]; simp [P.text?, P.tabR] <;> rfl, HB0.out.setCell (by simp) _, by rw [HII.out, Bool.or_true]; exact HP.out.set5 true⟩
end W
end Go.Proofs.YtmccfdmnidbalaaGreatDoor
