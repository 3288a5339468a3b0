/- Chapter 29: the reference's one. -/
import Derived.Test.YtmccfdmnidbalaaGreatDoorR29d
namespace Go.Proofs.YtmccfdmnidbalaaGreatDoor
open Go.RowKit K
namespace W
theorem un_cases {op : List UInt8} (h : P.isUn op = true) : op = [45, 101] ∨ op = [45, 102] ∨ op = [45, 100] ∨ op = [45, 115] ∨ op = [45, 110] ∨ op = [45, 122] := by
  unfold P.isUn at h
  simpa [or_assoc] using h
set_option maxHeartbeats 4000000 in
set_option maxRecDepth 100000 in
theorem one_ref (op x : List UInt8) (w0 w : World) (ar f : Value) (at_ : Nat) (c : List UInt8) (z0 : Int) (o : Bool) (fs : List Fi) (hop : P.isUn op = true) (hl1 : c.length ≤ 200) (hl2 : x.length ≤ 200) (hV : FV w0 f fs) (hn : fs.length ≤ 1000000) (hb0 : Below w0.heap.size w0 w) (hp : RB w w0.heap.size ar at_ f c z0 o) :
    Calls Tryz.prog 21 #[.pointer (some ⟨w0.heap.size, 0, none⟩), .string ⟨op.toArray⟩, .string ⟨x.toArray⟩] w (QPost w0 ar f at_ c z0 (P.unV (P.lookF fs c) op x) o) := by
  unfold QPost
  have HB0 := Lib.hid hb0
  have HP := Lib.hid hp
  have HCL := Lib.hid (Clean_ref c x w hl1 hl2)
  have HKEEP : Hid (∀ w1, Below w.heap.size w w1 → Below w0.heap.size w0 w1 ∧ RB w1 w0.heap.size ar at_ f c z0 o) := fun w1 h1 => ⟨HB0.out.trans (h1.mono HB0.out.size), HP.out.below h1⟩
  have HFD := Lib.hid (fun p w1 (h1 : Below w0.heap.size w0 w1) => Find_ref f fs p w1 (hV.below h1) hn)
  obtain ⟨c0, c1, c2, c3, -, -⟩ := hp.cells
  have HSAME := Lib.hid (P.clean_same c x)
  rw [HSAME.out] at HCL
  clear hb0 hp hV hl1 hl2 HSAME
  by_cases t : op = [45, 110] ∨ op = [45, 122]
  · have HF := Lib.hid (show P.unV (P.lookF fs c) op x = ((x == []) == (op == [45, 122])) by rcases t with rfl | rfl <;> cases x <;> rfl)
    generalize P.unV (P.lookF fs c) op x = V at HF
    rcases t with rfl | rfl
    all_goals
      cases x
      all_goals
        go_enter Tryz.func21, Tryz.ntmps21
        go_wp2
        go_ret
        exact ⟨ret_bool (by rw [HF.out]; rfl), (HKEEP.out _ (Below.refl _ _)).1, (HKEEP.out _ (Below.refl _ _)).2⟩
  have t1 : ¬ op = [45, 110] := fun h => t (.inl h)
  have t2 : ¬ op = [45, 122] := fun h => t (.inr h)
  have hop2 : op = [45, 101] ∨ op = [45, 102] ∨ op = [45, 100] ∨ op = [45, 115] := by
    rcases un_cases hop with h | h | h | h | h | h
    · exact .inl h
    · exact .inr (.inl h)
    · exact .inr (.inr (.inl h))
    · exact .inr (.inr (.inr h))
    · exact absurd h t1
    · exact absurd h t2
  have HV := Lib.hid (show P.unV (P.lookF fs c) op x = match P.lookF fs c x with | none => false | some (d, cc) => if op = [45, 115] then cc != [] && !d else if op = [45, 102] then !d else if op = [45, 100] then d else true by unfold P.unV; rw [if_neg t1, if_neg t2]; cases P.lookF fs c x <;> rfl)
  generalize P.unV (P.lookF fs c) op x = V at HV
  unfold P.lookF at HV
  unfold CPost at HCL
  generalize P.cleanO c x = O at HCL HV
  have e1 : (op == [45, 110]) = false := by simpa using t1
  have e2 : (op == [45, 122]) = false := by simpa using t2
  clear t t1 t2 hop
  cases O with
  | none =>
    have HF := Lib.hid (show V = false from HV.out)
    have HFQ := Lib.hid (fun w1 h1 => HFD.out [] w1 h1)
    generalize P.findF fs [] = G at HFQ
    generalize P.tup G = g3 at HFQ
    generalize G.isSome = gb at HFQ
    obtain ⟨gp, gd, gc⟩ := g3
    clear hop2
    go_enter Tryz.func21, Tryz.ntmps21
    go_wp2_with fail
    refine HCL.out.mono ?_
    rintro e w1 ⟨z, rfl, hz, hb1⟩
    have HB1 := Lib.hid hb1
    have zz : (z != 0) = true := by simp; intro h; simp [h] at hz
    obtain ⟨k1, k2⟩ := HKEEP.out w1 hb1
    obtain ⟨d0, d1, d2, d3, -, -⟩ := k2.cells
    have K1 := Lib.hid k1
    clear hb1 hz k1 k2
    simp only [Option.getD_none]
    go_wp2_with fail
    refine (HFQ.out w1 K1.out).mono ?_
    rintro e w2 ⟨rfl, hb2⟩
    have HB2 := Lib.hid (btr HB1.out hb2)
    have HBA := Lib.hid (HKEEP.out (w2.alloc (.cells #[.string ⟨gp.toArray⟩, .bool gd, .string ⟨gc.toArray⟩] 35)) (btr HB2.out (balloc _ _)))
    clear hb2
    go_wp2
    go_ret
    exact ⟨ret_bool HF.out.symm, HBA.out.1, HBA.out.2⟩
  | some q =>
  have HFQ := Lib.hid (fun w1 h1 => HFD.out q w1 h1)
  have HVQ := Lib.hid (show V = match (P.findF fs q).map (fun f => (f.2.1, f.2.2)) with | none => false | some (d, cc) => if op = [45, 115] then cc != [] && !d else if op = [45, 102] then !d else if op = [45, 100] then d else true from HV.out)
  generalize P.findF fs q = G at HFQ HVQ
  clear HV HFD
  cases G with
  | none =>
    have HF := Lib.hid (show V = false from HVQ.out)
    clear hop2
    go_enter Tryz.func21, Tryz.ntmps21
    go_wp2_with fail
    refine HCL.out.mono ?_
    rintro e w1 ⟨z, rfl, hz, hb1⟩
    have HB1 := Lib.hid hb1
    have zz : z = 0 := hz.2 rfl
    subst zz
    obtain ⟨k1, k2⟩ := HKEEP.out w1 hb1
    obtain ⟨d0, d1, d2, d3, -, -⟩ := k2.cells
    have K1 := Lib.hid k1
    clear hb1 hz k1 k2
    simp only [Option.getD_some]
    go_wp2_with fail
    refine (HFQ.out w1 K1.out).mono ?_
    rintro e w2 ⟨rfl, hb2⟩
    have HB2 := Lib.hid (btr HB1.out hb2)
    clear hb2
    simp only [P.tup, fz, Option.getD_none]
    have HBA := Lib.hid (HKEEP.out (w2.alloc (.cells #[.string ⟨#[]⟩, .bool false, .string ⟨#[]⟩] 35)) (btr HB2.out (balloc _ _)))
    go_wp2
    go_ret
    exact ⟨ret_bool HF.out.symm, HBA.out.1, HBA.out.2⟩
  | some ff =>
    obtain ⟨pp, d, cc⟩ := ff
    have HVF := Lib.hid (show V = if op = [45, 115] then cc != [] && !d else if op = [45, 102] then !d else if op = [45, 100] then d else true from HVQ.out)
    clear HVQ
    have HGO : Hid (∀ w2, Below w.heap.size w w2 → Below w0.heap.size w0 (w2.alloc (.cells #[.string ⟨pp.toArray⟩, .bool d, .string ⟨cc.toArray⟩] 35)) ∧ RB (w2.alloc (.cells #[.string ⟨pp.toArray⟩, .bool d, .string ⟨cc.toArray⟩] 35)) w0.heap.size ar at_ f c z0 o) := fun w2 h2 => HKEEP.out _ (btr h2 (balloc _ _))
    have hcc : (cc = [] ∧ cc.isEmpty = true) ∨ (cc ≠ [] ∧ cc.isEmpty = false) := by cases cc <;> simp
    rcases hop2 with rfl | rfl | rfl | rfl
    · have HF := Lib.hid (show V = true from HVF.out)
      clear HVF hcc
      go_enter Tryz.func21, Tryz.ntmps21
      go_wp2_with fail
      refine HCL.out.mono ?_
      rintro e w1 ⟨z, rfl, hz, hb1⟩
      have HB1 := Lib.hid hb1
      have zz : z = 0 := hz.2 rfl
      subst zz
      obtain ⟨k1, k2⟩ := HKEEP.out w1 hb1
      obtain ⟨d0, d1, d2, d3, -, -⟩ := k2.cells
      have K1 := Lib.hid k1
      clear hb1 hz k1 k2
      simp only [Option.getD_some]
      go_wp2_with fail
      refine (HFQ.out w1 K1.out).mono ?_
      rintro e w2 ⟨rfl, hb2⟩
      have HB2 := Lib.hid (btr HB1.out hb2)
      clear hb2
      have HBA := Lib.hid (HGO.out w2 HB2.out)
      simp only [P.tup, Option.getD_some]
      go_wp2
      go_ret
      exact ⟨ret_bool HF.out.symm, HBA.out.1, HBA.out.2⟩
    · have HF := Lib.hid (show V = !d from HVF.out)
      clear HVF hcc
      go_enter Tryz.func21, Tryz.ntmps21
      go_wp2_with fail
      refine HCL.out.mono ?_
      rintro e w1 ⟨z, rfl, hz, hb1⟩
      have HB1 := Lib.hid hb1
      have zz : z = 0 := hz.2 rfl
      subst zz
      obtain ⟨k1, k2⟩ := HKEEP.out w1 hb1
      obtain ⟨d0, d1, d2, d3, -, -⟩ := k2.cells
      have K1 := Lib.hid k1
      clear hb1 hz k1 k2
      simp only [Option.getD_some]
      go_wp2_with fail
      refine (HFQ.out w1 K1.out).mono ?_
      rintro e w2 ⟨rfl, hb2⟩
      have HB2 := Lib.hid (btr HB1.out hb2)
      clear hb2
      have HBA := Lib.hid (HGO.out w2 HB2.out)
      simp only [P.tup, Option.getD_some]
      go_wp2
      go_ret
      exact ⟨ret_bool HF.out.symm, HBA.out.1, HBA.out.2⟩
    · have HF := Lib.hid (show V = d from HVF.out)
      clear HVF hcc
      go_enter Tryz.func21, Tryz.ntmps21
      go_wp2_with fail
      refine HCL.out.mono ?_
      rintro e w1 ⟨z, rfl, hz, hb1⟩
      have HB1 := Lib.hid hb1
      have zz : z = 0 := hz.2 rfl
      subst zz
      obtain ⟨k1, k2⟩ := HKEEP.out w1 hb1
      obtain ⟨d0, d1, d2, d3, -, -⟩ := k2.cells
      have K1 := Lib.hid k1
      clear hb1 hz k1 k2
      simp only [Option.getD_some]
      go_wp2_with fail
      refine (HFQ.out w1 K1.out).mono ?_
      rintro e w2 ⟨rfl, hb2⟩
      have HB2 := Lib.hid (btr HB1.out hb2)
      clear hb2
      have HBA := Lib.hid (HGO.out w2 HB2.out)
      simp only [P.tup, Option.getD_some]
      go_wp2
      go_ret
      exact ⟨ret_bool HF.out.symm, HBA.out.1, HBA.out.2⟩
    · cases d with
      | true =>
        have HF := Lib.hid (show V = false by rw [HVF.out]; simp)
        clear HVF hcc
        go_enter Tryz.func21, Tryz.ntmps21
        go_wp2_with fail
        refine HCL.out.mono ?_
        rintro e w1 ⟨z, rfl, hz, hb1⟩
        have HB1 := Lib.hid hb1
        have zz : z = 0 := hz.2 rfl
        subst zz
        obtain ⟨k1, k2⟩ := HKEEP.out w1 hb1
        obtain ⟨d0, d1, d2, d3, -, -⟩ := k2.cells
        have K1 := Lib.hid k1
        clear hb1 hz k1 k2
        simp only [Option.getD_some]
        go_wp2_with fail
        refine (HFQ.out w1 K1.out).mono ?_
        rintro e w2 ⟨rfl, hb2⟩
        have HB2 := Lib.hid (btr HB1.out hb2)
        clear hb2
        have HBA := Lib.hid (HGO.out w2 HB2.out)
        simp only [P.tup, Option.getD_some]
        go_wp2
        go_ret
        exact ⟨ret_bool HF.out.symm, HBA.out.1, HBA.out.2⟩
      | false =>
        rcases hcc with ⟨rfl, hc2⟩ | ⟨hc1, hc2⟩
        · have HF := Lib.hid (show V = false from HVF.out)
          clear HVF
          go_enter Tryz.func21, Tryz.ntmps21
          go_wp2_with fail
          refine HCL.out.mono ?_
          rintro e w1 ⟨z, rfl, hz, hb1⟩
          have HB1 := Lib.hid hb1
          have zz : z = 0 := hz.2 rfl
          subst zz
          obtain ⟨k1, k2⟩ := HKEEP.out w1 hb1
          obtain ⟨d0, d1, d2, d3, -, -⟩ := k2.cells
          have K1 := Lib.hid k1
          clear hb1 hz k1 k2
          simp only [Option.getD_some]
          go_wp2_with fail
          refine (HFQ.out w1 K1.out).mono ?_
          rintro e w2 ⟨rfl, hb2⟩
          have HB2 := Lib.hid (btr HB1.out hb2)
          clear hb2
          have HBA := Lib.hid (HGO.out w2 HB2.out)
          simp only [P.tup, Option.getD_some]
          go_wp2
          go_ret
          exact ⟨ret_bool HF.out.symm, HBA.out.1, HBA.out.2⟩
        · have HF := Lib.hid (show V = true by rw [HVF.out]; simpa using hc1)
          clear HVF hc1
          go_enter Tryz.func21, Tryz.ntmps21
          go_wp2_with fail
          refine HCL.out.mono ?_
          rintro e w1 ⟨z, rfl, hz, hb1⟩
          have HB1 := Lib.hid hb1
          have zz : z = 0 := hz.2 rfl
          subst zz
          obtain ⟨k1, k2⟩ := HKEEP.out w1 hb1
          obtain ⟨d0, d1, d2, d3, -, -⟩ := k2.cells
          have K1 := Lib.hid k1
          clear hb1 hz k1 k2
          simp only [Option.getD_some]
          go_wp2_with fail
          refine (HFQ.out w1 K1.out).mono ?_
          rintro e w2 ⟨rfl, hb2⟩
          have HB2 := Lib.hid (btr HB1.out hb2)
          clear hb2
          have HBA := Lib.hid (HGO.out w2 HB2.out)
          simp only [P.tup, Option.getD_some]
          go_wp2
          go_ret
          exact ⟨ret_bool HF.out.symm, HBA.out.1, HBA.out.2⟩
end W
end Go.Proofs.YtmccfdmnidbalaaGreatDoor
