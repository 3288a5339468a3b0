/- Chapter 29: unary of testexpr. -/
import Derived.Test.YtmccfdmnidbalaaGreatDoorW29g
namespace Go.Proofs.YtmccfdmnidbalaaGreatDoor
open Go.RowKit K
namespace P
/-- Whether the file at a path is a directory, and its contents. -/
def lookF (fs : List Fi) (cwd x : List UInt8) : Option (Bool × List UInt8) := match cleanO cwd x with
  | none => none
  | some p => (findF fs p).map fun f => (f.2.1, f.2.2)
end P
namespace W
/-- The names in a string are answered. -/
def PathOK (s : List UInt8) : Prop := ∀ x ∈ P.split47 s, NameOK x
set_option maxHeartbeats 2000000 in
theorem unary_of (op x : List UInt8) (w0 w : World) (r f : Value) (c : List UInt8) (u i : Bool) (fs : List Fi) (hb0 : Below w0.heap.size w0 w) (hp : PB w w0.heap.size r f c u i) (hV : FV w0 f fs) (hn : fs.length ≤ 1000000) (hl1 : c.length ≤ 1000000) (hl2 : x.length ≤ 1000000) (hc : PathOK (c.drop 1)) (hx : PathOK x) (hw : Env w) :
    Calls Tryz.prog 29 #[.pointer (some ⟨w0.heap.size, 0, none⟩), .string ⟨op.toArray⟩, .string ⟨x.toArray⟩] w (BPost w0 r f c (P.unV (P.lookF fs c) op x) u i) := by
  unfold BPost
  have HB0 := Lib.hid hb0
  have HP := Lib.hid hp
  have HCL := Lib.hid (Clean_of c x w hl1 hl2 hc hx hw)
  have HKEEP : Hid (∀ w1, Below w.heap.size w w1 → Below w0.heap.size w0 w1 ∧ PB w1 w0.heap.size r f c u i) := fun w1 h1 => ⟨HB0.out.trans (h1.mono HB0.out.size), HP.out.below h1⟩
  have HFD := Lib.hid (fun p w1 (h1 : Below w0.heap.size w0 w1) => Find_any f fs p w1 (hV.below h1) hn)
  obtain ⟨c0, c1, c2, -, -⟩ := hp.cells
  clear hb0 hp hV hc hx hw
  by_cases t1 : op = [45, 110]
  · subst t1
    have HF := Lib.hid (show P.unV (P.lookF fs c) [45, 110] x = (x != []) from rfl)
    generalize P.unV (P.lookF fs c) [45, 110] x = V at HF
    cases hxe : x with
    | nil =>
      subst hxe
      go_enter Tryz.func29, Tryz.ntmps29
      go_wp2
      go_ret
      exact ⟨ret_bool (by rw [HF.out]; rfl), (HKEEP.out _ (Below.refl _ _)).1, (HKEEP.out _ (Below.refl _ _)).2⟩
    | cons a b =>
      subst hxe
      go_enter Tryz.func29, Tryz.ntmps29
      go_wp2
      go_ret
      exact ⟨ret_bool (by rw [HF.out]; rfl), (HKEEP.out _ (Below.refl _ _)).1, (HKEEP.out _ (Below.refl _ _)).2⟩
  have e1 : (op == [45, 110]) = false := by simpa using t1
  by_cases t2 : op = [45, 122]
  · subst t2
    have HF := Lib.hid (show P.unV (P.lookF fs c) [45, 122] x = (x == []) from rfl)
    generalize P.unV (P.lookF fs c) [45, 122] x = V at HF
    cases hxe : x with
    | nil =>
      subst hxe
      go_enter Tryz.func29, Tryz.ntmps29
      go_wp2
      go_ret
      exact ⟨ret_bool (by rw [HF.out]; rfl), (HKEEP.out _ (Below.refl _ _)).1, (HKEEP.out _ (Below.refl _ _)).2⟩
    | cons a b =>
      subst hxe
      go_enter Tryz.func29, Tryz.ntmps29
      go_wp2
      go_ret
      exact ⟨ret_bool (by rw [HF.out]; rfl), (HKEEP.out _ (Below.refl _ _)).1, (HKEEP.out _ (Below.refl _ _)).2⟩
  have e2 : (op == [45, 122]) = false := by simpa using t2
  have HV := Lib.hid (show P.unV (P.lookF fs c) op x = match P.lookF fs c x with | none => false | some (d, cc) => if op = [45, 115] then cc != [] && !d else if op = [45, 102] then !d else if op = [45, 100] then d else true by unfold P.unV; rw [if_neg t1, if_neg t2]; cases P.lookF fs c x <;> rfl)
  generalize P.unV (P.lookF fs c) op x = V at HV
  unfold P.lookF at HV
  unfold CPost at HCL
  generalize P.cleanO c x = O at HCL HV
  clear t1 t2
  cases O with
  | none =>
    have HF := Lib.hid (show V = false from HV.out)
    go_enter Tryz.func29, Tryz.ntmps29
    go_wp2_with fail
    refine HCL.out.mono ?_
    rintro e w1 ⟨z, rfl, hz, hb1⟩
    have HB1 := Lib.hid hb1
    have z0 : (z != 0) = true := by simp; intro h; simp [h] at hz
    clear hb1 hz
    go_wp2
    go_ret
    exact ⟨ret_bool HF.out.symm, (HKEEP.out _ HB1.out).1, (HKEEP.out _ HB1.out).2⟩
  | some q =>
    have HFQ := Lib.hid (fun w1 h1 => HFD.out q w1 h1)
    have HVQ := Lib.hid (show V = match (P.findF fs q).map (fun f => (f.2.1, f.2.2)) with | none => false | some (d, cc) => if op = [45, 115] then cc != [] && !d else if op = [45, 102] then !d else if op = [45, 100] then d else true from HV.out)
    generalize P.findF fs q = G at HFQ HVQ
    clear HV HFD
    cases G with
    | none =>
      have HF := Lib.hid (show V = false from HVQ.out)
      go_enter Tryz.func29, Tryz.ntmps29
      go_wp2_with fail
      refine HCL.out.mono ?_
      rintro e w1 ⟨z, rfl, hz, hb1⟩
      have HB1 := Lib.hid hb1
      have z0 : z = 0 := hz.2 rfl
      subst z0
      obtain ⟨k1, k2⟩ := HKEEP.out w1 hb1
      obtain ⟨d0, d1, d2, -, -⟩ := k2.cells
      have K1 := Lib.hid k1
      clear hb1 hz k1 k2
      go_wp2_with fail
      refine (HFQ.out w1 K1.out).mono ?_
      rintro e w2 ⟨rfl, hb2⟩
      have HB2 := Lib.hid (btr HB1.out hb2)
      have HBA := Lib.hid (HKEEP.out (w2.alloc (.cells #[.string ⟨#[]⟩, .bool false, .string ⟨#[]⟩] 35)) (btr HB2.out (balloc _ _)))
      clear hb2
      simp only [P.tup, fz, Option.getD_none]
      go_wp2
      go_ret
      exact ⟨ret_bool HF.out.symm, HBA.out.1, HBA.out.2⟩
    | some ff =>
      obtain ⟨pp, d, cc⟩ := ff
      have HVF := Lib.hid (show V = if op = [45, 115] then cc != [] && !d else if op = [45, 102] then !d else if op = [45, 100] then d else true from HVQ.out)
      clear HVQ
      have HGO : Hid (∀ w2, Below w.heap.size w w2 → Below w0.heap.size w0 (w2.alloc (.cells #[.string ⟨pp.toArray⟩, .bool d, .string ⟨cc.toArray⟩] 35)) ∧ PB (w2.alloc (.cells #[.string ⟨pp.toArray⟩, .bool d, .string ⟨cc.toArray⟩] 35)) w0.heap.size r f c u i) := fun w2 h2 => HKEEP.out _ (btr h2 (balloc _ _))
      by_cases o1 : op = [45, 115]
      · subst o1
        rcases List.eq_nil_or_concat cc with hcc | hcc
        · subst hcc
          have HF := Lib.hid (show V = false from HVF.out)
          go_enter Tryz.func29, Tryz.ntmps29
          go_wp2_with fail
          refine HCL.out.mono ?_
          rintro e w1 ⟨z, rfl, hz, hb1⟩
          have HB1 := Lib.hid hb1
          have z0 : z = 0 := hz.2 rfl
          subst z0
          obtain ⟨k1, k2⟩ := HKEEP.out w1 hb1
          obtain ⟨d0, d1, d2, -, -⟩ := k2.cells
          have K1 := Lib.hid k1
          clear hb1 hz k1 k2
          go_wp2_with fail
          refine (HFQ.out w1 K1.out).mono ?_
          rintro e w2 ⟨rfl, hb2⟩
          have HB2 := Lib.hid (btr HB1.out hb2)
          have HBA := Lib.hid (HGO.out w2 HB2.out)
          clear hb2
          simp only [P.tup, Option.getD_some]
          go_wp2
          go_ret
          exact ⟨ret_bool HF.out.symm, HBA.out.1, HBA.out.2⟩
        · have hc1 : cc ≠ [] := by rintro rfl; simp at hcc
          have hc2 : cc.isEmpty = false := by cases cc; simp at hc1; rfl
          have hc3 : (cc != []) = true := by simpa using hc1
          have HF := Lib.hid (show V = !d by rw [HVF.out, if_pos rfl, hc3]; rfl)
          clear hcc hc1 hc3
          go_enter Tryz.func29, Tryz.ntmps29
          go_wp2_with fail
          refine HCL.out.mono ?_
          rintro e w1 ⟨z, rfl, hz, hb1⟩
          have HB1 := Lib.hid hb1
          have z0 : z = 0 := hz.2 rfl
          subst z0
          obtain ⟨k1, k2⟩ := HKEEP.out w1 hb1
          obtain ⟨d0, d1, d2, -, -⟩ := k2.cells
          have K1 := Lib.hid k1
          clear hb1 hz k1 k2
          go_wp2_with fail
          refine (HFQ.out w1 K1.out).mono ?_
          rintro e w2 ⟨rfl, hb2⟩
          have HB2 := Lib.hid (btr HB1.out hb2)
          have HBA := Lib.hid (HGO.out w2 HB2.out)
          clear hb2
          simp only [P.tup, Option.getD_some]
          go_wp2
          go_ret
          exact ⟨ret_bool HF.out.symm, HBA.out.1, HBA.out.2⟩
      have n1 : (op == [45, 115]) = false := by simpa using o1
      by_cases o2 : op = [45, 102]
      · subst o2
        have HF := Lib.hid (show V = !d from HVF.out)
        clear o1
        go_enter Tryz.func29, Tryz.ntmps29
        go_wp2_with fail
        refine HCL.out.mono ?_
        rintro e w1 ⟨z, rfl, hz, hb1⟩
        have HB1 := Lib.hid hb1
        have z0 : z = 0 := hz.2 rfl
        subst z0
        obtain ⟨k1, k2⟩ := HKEEP.out w1 hb1
        obtain ⟨d0, d1, d2, -, -⟩ := k2.cells
        have K1 := Lib.hid k1
        clear hb1 hz k1 k2
        go_wp2_with fail
        refine (HFQ.out w1 K1.out).mono ?_
        rintro e w2 ⟨rfl, hb2⟩
        have HB2 := Lib.hid (btr HB1.out hb2)
        have HBA := Lib.hid (HGO.out w2 HB2.out)
        clear hb2
        simp only [P.tup, Option.getD_some]
        go_wp2
        go_ret
        exact ⟨ret_bool HF.out.symm, HBA.out.1, HBA.out.2⟩
      have n2 : (op == [45, 102]) = false := by simpa using o2
      by_cases o3 : op = [45, 100]
      · subst o3
        have HF := Lib.hid (show V = d from HVF.out)
        clear o1 o2
        go_enter Tryz.func29, Tryz.ntmps29
        go_wp2_with fail
        refine HCL.out.mono ?_
        rintro e w1 ⟨z, rfl, hz, hb1⟩
        have HB1 := Lib.hid hb1
        have z0 : z = 0 := hz.2 rfl
        subst z0
        obtain ⟨k1, k2⟩ := HKEEP.out w1 hb1
        obtain ⟨d0, d1, d2, -, -⟩ := k2.cells
        have K1 := Lib.hid k1
        clear hb1 hz k1 k2
        go_wp2_with fail
        refine (HFQ.out w1 K1.out).mono ?_
        rintro e w2 ⟨rfl, hb2⟩
        have HB2 := Lib.hid (btr HB1.out hb2)
        have HBA := Lib.hid (HGO.out w2 HB2.out)
        clear hb2
        simp only [P.tup, Option.getD_some]
        go_wp2
        go_ret
        exact ⟨ret_bool HF.out.symm, HBA.out.1, HBA.out.2⟩
      have n3 : (op == [45, 100]) = false := by simpa using o3
      have HF := Lib.hid (show V = true by rw [HVF.out, if_neg o1, if_neg o2, if_neg o3])
      clear o1 o2 o3
      go_enter Tryz.func29, Tryz.ntmps29
      go_wp2_with fail
      refine HCL.out.mono ?_
      rintro e w1 ⟨z, rfl, hz, hb1⟩
      have HB1 := Lib.hid hb1
      have z0 : z = 0 := hz.2 rfl
      subst z0
      obtain ⟨k1, k2⟩ := HKEEP.out w1 hb1
      obtain ⟨d0, d1, d2, -, -⟩ := k2.cells
      have K1 := Lib.hid k1
      clear hb1 hz k1 k2
      go_wp2_with fail
      refine (HFQ.out w1 K1.out).mono ?_
      rintro e w2 ⟨rfl, hb2⟩
      have HB2 := Lib.hid (btr HB1.out hb2)
      have HBA := Lib.hid (HGO.out w2 HB2.out)
      clear hb2
      simp only [P.tup, Option.getD_some]
      go_wp2
      go_ret
      exact ⟨ret_bool HF.out.symm, HBA.out.1, HBA.out.2⟩
end W
end Go.Proofs.YtmccfdmnidbalaaGreatDoor
