/- Chapter 9: Set. -/
import Derived.Test.YtelhobphphkidaaGreatDoorW09d
import Derived.Test.YtelhobphphkidaaGreatDoorW09l
import Derived.Deep.DeepCutAuto
namespace Go.Proofs.YtelhobphphkidaaGreatDoor
open Go.RowKit K
namespace K
theorem tcells_set : ∀ (L : List Tr) (i : Nat) (a : Tr), tcells (L.set i a) = ((tcells L).set (i * 2) (.string ⟨a.1.toArray⟩)).set (i * 2 + 1) (.string ⟨a.2.toArray⟩)
  | [], _, _ => by simp [tcells]
  | t :: r, 0, a => by simp [tcells]
  | t :: r, i + 1, a => by
    rw [List.set_cons_succ, tcells, tcells_set r i a, tcells, show (i + 1) * 2 = i * 2 + 1 + 1 by omega]
    rfl
end K
namespace AL
theorem ins_set {l : List Al} (h : Sorted l) (n v : Str) : ins l n v = (if (get l n).isSome = true then l else putAt l (low l n).length ([], [])).set (low l n).length (n, v) := by
  obtain ⟨A, B, s⟩ := split n h
  rw [s.ins, s.low_eq]
  have e := s.eq
  cases hg : get l n with
  | none =>
    rw [hg, List.nil_append] at e
    rw [e]
    simp [putAt]
  | some u =>
    rw [hg] at e
    rw [e]
    simp
end AL
namespace K
theorem TV.as {w : World} {v : Value} {l : List AL.Al} (h : TV w v l) : W.AS w v l := by
  obtain ⟨A, c, h1, h2, h3, h4, h5⟩ := h
  refine ⟨A, c, h1, h2, by unfold maxLen; exact h3, fun k a ha => ?_⟩
  obtain ⟨hk, hka⟩ := List.getElem?_eq_some_iff.1 ha
  obtain ⟨b, off, e1, e2, e3, e4⟩ := h5.get hk
  have : l.getD k ([], []) = a := by rw [List.getD_eq_getElem?_getD, ha]; rfl
  rw [this] at e3 e4
  exact ⟨b, off, e1, e2, e3, e4⟩
theorem TV.val {w : World} {v : Value} {l : List AL.Al} (h : TV w v l) : ∃ A c, v = .slice A l.length c := by
  obtain ⟨A, c, h1, -⟩ := h
  exact ⟨A, c, h1⟩
end K
namespace W
/-- A list of aliases and an error come back. -/
def LPost (w : World) (r : List AL.Al × Int) (e : Ending) (w' : World) : Prop := ∃ v, e = .returned (.tuple #[v, .int .i64 r.2]) ∧ Below w.heap.size w w' ∧ TV w' v r.1
theorem row_some {w : World} {B : Nat} {e : TypeId} {k : Nat} {v : Value} {n : Nat} {xs : List Value} (h : w.ownsRow B e k v n xs) (hn : 0 < n) : ∃ q c, v = .slice (some ⟨q, 0, none⟩) n c ∧ ∀ j u, xs[j]? = some u → w.cell? ⟨q, j, none⟩ = some u := by
  rcases h.2 with e | ⟨q, cap, cur, hv, h2⟩
  · omega
  · refine ⟨q, cap, hv, fun j u hj => ?_⟩
    have := h.cells (g := q) (by rw [hv]; rfl) j u hj
    rw [show (⟨q, j, none⟩ : Addr) = (⟨q, 0, none⟩ : Addr).add j by cases j <;> simp [Addr.add]]
    exact this
set_option maxRecDepth 100000 in
set_option maxHeartbeats 8000000 in
theorem Set_any (l : List AL.Al) (n u : List UInt8) (v : Value) (w : World) (hV : TV w v l) (hz : ∀ a ∈ l, a.1.length ≤ 10000 ∧ a.2.length ≤ 10000) (hn : n.length ≤ 10000) (hu : u.length ≤ 10000) :
    Calls Tryz.prog 14 #[v, .string ⟨n.toArray⟩, .string ⟨u.toArray⟩] w (LPost w (AL.set l n u)) := by
  obtain ⟨R, hR⟩ : ∃ R, AL.set l n u = R := ⟨_, rfl⟩
  rw [hR]
  unfold AL.set at hR
  obtain ⟨A, c, rfl⟩ := hV.val
  have HV := Lib.hid hV
  have HVA := Lib.hid (Valid_any l _ w hV.as hz)
  have HN := Lib.hid (fun V => named_any n V (by omega))
  obtain ⟨m, hm⟩ : ∃ m, m = l.length := ⟨_, rfl⟩
  have HM := Lib.hid hm
  have hmn : (0 : Int) ≤ (m : Int) := by omega
  rw [← hm] at HVA ⊢
  clear hz hV hm
  obtain ⟨vz, hvz⟩ : ∃ vz, AL.valid l = vz := ⟨_, rfl⟩
  rw [hvz] at HVA hR
  by_cases h0 : vz = 0
  case neg =>
    rw [if_neg h0] at hR
    have e0 : (vz == 0) = false := by rw [beq_eq_false_iff_ne]; exact h0
    have e1 : (vz != 0) = true := by simp [bne, e0]
    have HRE := Lib.hid hR
    clear hR hvz h0
    go_enter Tryz.func14, Tryz.ntmps14
    go_wp2_with fail
    refine HVA.out.mono ?_
    rintro e w1 ⟨rfl, hb⟩
    have HB := Lib.hid hb
    clear hb
    go_wp2
    go_ret2
    rw [← HRE.out]
    exact ⟨_, rfl, HB.out, HM.out ▸ HV.out.below HB.out⟩
  rw [if_pos h0] at hR
  subst h0
  obtain ⟨g1, g2, g3⟩ := (AL.valid_zero l).1 hvz
  have HPL := Lib.hid (fun V (hA : AS V (.slice A m c) l) => place_any l n (.slice A m c) V hA g3 g1)
  have HS3 := Lib.hid g3
  have m64 : (m : Int) ≤ 64 := by have := HM.out; omega
  obtain ⟨bn, hbn⟩ : ∃ bn, AL.named n = bn := ⟨_, rfl⟩
  rw [hbn] at HN hR
  clear g1 g2 g3 hvz hbn
  cases bn with
  | false =>
    have HRE := Lib.hid (show (l, (10 : Int)) = R from by rw [← hR, if_pos rfl])
    clear hR
    go_enter Tryz.func14, Tryz.ntmps14
    go_wp2_with fail
    refine HVA.out.mono ?_
    rintro e w1 ⟨rfl, hb⟩
    have HB := Lib.hid hb
    clear hb
    go_wp2_with fail
    refine (HN.out _).mono ?_
    rintro e w2 ⟨rfl, hb⟩
    have HB2 := Lib.hid (btr HB.out hb)
    clear hb
    go_wp2
    go_ret2
    rw [← HRE.out]
    exact ⟨_, rfl, HB2.out, HM.out ▸ HV.out.below HB2.out⟩
  | true =>
    rw [if_neg (by decide)] at hR
    by_cases h4 : 4096 < u.length
    · have t4 : ((4096 : Int) < (u.length : Int)) = True := eq_true (by omega)
      have HRE := Lib.hid (show (l, (3 : Int)) = R from by rw [← hR, if_pos h4])
      clear hR h4
      go_enter Tryz.func14, Tryz.ntmps14
      go_wp2_with fail
      refine HVA.out.mono ?_
      rintro e w1 ⟨rfl, hb⟩
      have HB := Lib.hid hb
      clear hb
      go_wp2_with fail
      refine (HN.out _).mono ?_
      rintro e w2 ⟨rfl, hb⟩
      have HB2 := Lib.hid (btr HB.out hb)
      clear hb
      go_wp2
      go_ret2
      rw [← HRE.out]
      exact ⟨_, rfl, HB2.out, HM.out ▸ HV.out.below HB2.out⟩
    rw [if_neg h4] at hR
    have t4 : ((4096 : Int) < (u.length : Int)) = False := eq_false (by omega)
    have HR := Lib.hid hR
    have HI := Lib.hid (AL.ins_set HS3.out n u)
    obtain ⟨q1, q2, q3, q4⟩ := AL.at_pos HS3.out n
    obtain ⟨p, hp⟩ : ∃ p, p = (AL.low l n).length := ⟨_, rfl⟩
    rw [← hp] at HPL HI q1 q4
    have HP := Lib.hid (show p ≤ l.length from q1)
    have p0 : (0 : Int) ≤ (p : Int) := by omega
    clear hR h4 q2 q3 hp
    cases hg : AL.get l n with
    | none =>
      rw [hg] at HPL HI
      have HGN := Lib.hid hg
      clear hg q1 q4
      by_cases h64 : m = 64
      · have t6 : ((m : Int) == 64) = true := by rw [beq_iff_eq]; omega
        have HRE := Lib.hid (show (l, (4 : Int)) = R from by rw [← HR.out, if_pos ⟨HGN.out, by rw [← HM.out]; exact h64⟩])
        clear h64
        go_enter Tryz.func14, Tryz.ntmps14
        go_wp2_with fail
        refine HVA.out.mono ?_
        rintro e w1 ⟨rfl, hb⟩
        have HB := Lib.hid hb
        clear hb
        go_wp2_with fail
        refine (HN.out _).mono ?_
        rintro e w2 ⟨rfl, hb⟩
        have HB2 := Lib.hid (btr HB.out hb)
        clear hb
        have HPP := Lib.hid (HPL.out w2 (HM.out ▸ (HV.out.below HB2.out).as))
        go_wp2_with fail
        refine HPP.out.mono ?_
        rintro e w3 ⟨rfl, hb⟩
        have HB3 := Lib.hid (btr HB2.out hb)
        clear hb
        go_wp2
        go_ret2
        rw [← HRE.out]
        exact ⟨_, rfl, HB3.out, HM.out ▸ HV.out.below HB3.out⟩
      have t6 : ((m : Int) == 64) = false := by rw [beq_eq_false_iff_ne]; omega
      have HRE := Lib.hid (show ((putAt l p ([], [])).set p (n, u), (0 : Int)) = R from by rw [← HR.out, if_neg (fun e => h64 (by rw [HM.out]; exact e.2)), HI.out]; rfl)
      clear h64
      go_enter Tryz.func14, Tryz.ntmps14
      go_wp2_with fail
      refine HVA.out.mono ?_
      rintro e w1 ⟨rfl, hb⟩
      have HB := Lib.hid hb
      clear hb
      go_wp2_with fail
      refine (HN.out _).mono ?_
      rintro e w2 ⟨rfl, hb⟩
      have HB2 := Lib.hid (btr HB.out hb)
      clear hb
      have HPP := Lib.hid (HPL.out w2 (HM.out ▸ (HV.out.below HB2.out).as))
      go_wp2_with fail
      refine HPP.out.mono ?_
      rintro e w3 ⟨rfl, hb⟩
      have HB3 := Lib.hid (btr HB2.out hb)
      clear hb
      have HCL := Lib.hid (Clone_any (.slice A m c) l w3 (HM.out ▸ HV.out.below HB3.out) (by have := HM.out; omega))
      go_wp2_with fail
      refine HCL.out.mono ?_
      rintro e w4 ⟨v4, rfl, hown, hb⟩
      have HB4 := Lib.hid (btr HB3.out hb)
      obtain ⟨A4, c4, rfl⟩ := (TV.own hown).val
      have hob := hown.lt
      have hrow2 : (w4.alloc (.cells #[.string ⟨#[]⟩, .string ⟨#[]⟩] 47)).ownsRow w3.heap.size 47 2 (.slice A4 l.length c4) l.length (tcells l) := hown.alloc _
      have HINS := Lib.hid (Insert_any w3.heap.size (.slice A4 l.length c4) l p w4.heap.size [] [] (w4.alloc (.cells #[.string ⟨#[]⟩, .string ⟨#[]⟩] 47)) hrow2 HP.out (by have := HM.out; omega) (by have := hb.size; simp; omega) (al_new _ _) (fun e => by have := (hob _ e).2; omega))
      rw [← HM.out] at HINS
      have HBW := Lib.hid hb
      rw [← HM.out]
      clear hown hb hob hrow2
      go_wp2_with fail
      refine HINS.out.mono ?_
      rintro e w5 ⟨v5, rfl, hown5, hb5⟩
      have hlt : p < m + 1 := by have := HP.out; have := HM.out; omega
      obtain ⟨q, c5, rfl, hcell⟩ := row_some hown5 (by omega)
      obtain ⟨s1, -⟩ := hown5.stored (p * 2) (.string ⟨n.toArray⟩)
      obtain ⟨s2, -⟩ := s1.stored (p * 2 + 1) (.string ⟨u.toArray⟩)
      have hqb := (hown5.lt q rfl).1
      have f0 := hown5.frozenAt (p * 2)
      have f1 := hown5.frozenAt (p * 2 + 1)
      have hxl := hown5.1
      have x0 := hcell (p * 2) _ (List.getElem?_eq_getElem (by omega))
      have x1 := hcell (p * 2 + 1) _ (List.getElem?_eq_getElem (by omega))
      generalize (tcells (putAt l p ([], [])))[p * 2] = y0 at x0
      generalize (tcells (putAt l p ([], [])))[p * 2 + 1] = y1 at x1
      rw [← tcells_set _ p (n, u)] at s2
      have HFIN := Lib.hid s2
      have HB5 := Lib.hid (show Below w.heap.size w ((w5.setCell ⟨q, p * 2, none⟩ (.string ⟨n.toArray⟩)).setCell ⟨q, p * 2 + 1, none⟩ (.string ⟨u.toArray⟩)) from by
        have h3 := HB3.out.size
        have h5 : Below w.heap.size w w5 := (HB3.out.trans ((((HBW.out.trans ((balloc w4 _).mono HBW.out.size)).trans hb5)).mono h3))
        exact (h5.setCell (by dsimp only; omega) _).setCell (by dsimp only; omega) _)
      clear hown5 hb5 hcell s1 s2 hqb hxl
      go_wp2
      go_ret2
      rw [← HRE.out]
      exact ⟨_, rfl, HB5.out, TV.own HFIN.out⟩
    | some o =>
      rw [hg] at HPL HI
      have HGN := Lib.hid hg
      have HLT := Lib.hid (show p < m from by
        rcases Nat.lt_or_ge p m with h | h
        · exact h
        · have := q4 (by have := HM.out; omega)
          rw [hg] at this
          cases this)
      clear hg q1 q4
      have HRE := Lib.hid (show (l.set p (n, u), (0 : Int)) = R from by rw [← HR.out, if_neg (fun e => by rw [HGN.out] at e; cases e.1), HI.out]; rfl)
      go_enter Tryz.func14, Tryz.ntmps14
      go_wp2_with fail
      refine HVA.out.mono ?_
      rintro e w1 ⟨rfl, hb⟩
      have HB := Lib.hid hb
      clear hb
      go_wp2_with fail
      refine (HN.out _).mono ?_
      rintro e w2 ⟨rfl, hb⟩
      have HB2 := Lib.hid (btr HB.out hb)
      clear hb
      have HPP := Lib.hid (HPL.out w2 (HM.out ▸ (HV.out.below HB2.out).as))
      go_wp2_with fail
      refine HPP.out.mono ?_
      rintro e w3 ⟨rfl, hb⟩
      have HB3 := Lib.hid (btr HB2.out hb)
      clear hb
      have HCL := Lib.hid (Clone_any (.slice A m c) l w3 (HM.out ▸ HV.out.below HB3.out) (by have := HM.out; omega))
      go_wp2_with fail
      refine HCL.out.mono ?_
      rintro e w4 ⟨v4, rfl, hown, hb⟩
      have HB4 := Lib.hid (btr HB3.out hb)
      have hown5 := hown
      rw [← HM.out] at hown5
      have hlt := HLT.out
      obtain ⟨q, c5, rfl, hcell⟩ := row_some hown5 (by omega)
      obtain ⟨s1, -⟩ := hown5.stored (p * 2) (.string ⟨n.toArray⟩)
      obtain ⟨s2, -⟩ := s1.stored (p * 2 + 1) (.string ⟨u.toArray⟩)
      have hqb := (hown5.lt q rfl).1
      have f0 := hown5.frozenAt (p * 2)
      have f1 := hown5.frozenAt (p * 2 + 1)
      have hxl := hown5.1
      have x0 := hcell (p * 2) _ (List.getElem?_eq_getElem (by omega))
      have x1 := hcell (p * 2 + 1) _ (List.getElem?_eq_getElem (by omega))
      generalize (tcells l)[p * 2] = y0 at x0
      generalize (tcells l)[p * 2 + 1] = y1 at x1
      rw [← tcells_set _ p (n, u)] at s2
      have HFIN := Lib.hid s2
      have HB5 := Lib.hid (show Below w.heap.size w ((w4.setCell ⟨q, p * 2, none⟩ (.string ⟨n.toArray⟩)).setCell ⟨q, p * 2 + 1, none⟩ (.string ⟨u.toArray⟩)) from by
        have h3 := HB3.out.size
        exact (HB4.out.setCell (by dsimp only; omega) _).setCell (by dsimp only; omega) _)
      clear hown hb hown5 hcell s1 s2 hqb hxl
      go_wp2
      go_ret2
      rw [← HRE.out]
      exact ⟨_, rfl, HB5.out, TV.own HFIN.out⟩
end W
end Go.Proofs.YtelhobphphkidaaGreatDoor
