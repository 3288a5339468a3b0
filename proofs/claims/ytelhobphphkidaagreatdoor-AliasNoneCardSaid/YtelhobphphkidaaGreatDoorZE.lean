/- Several texts in one: W09e W09f W09g W09h. -/
import Derived.Test.YtelhobphphkidaaGreatDoorZD
import Derived.Test.YtelhobphphkidaaGreatDoorZC
import Derived.Deep.DeepCutAuto
import Derived.Laws.StructEq
import Derived.Lib.SliceRun
import Derived.Lib.SlBuf
namespace Go.Proofs.YtelhobphphkidaaGreatDoor
open Go.RowKit K
namespace K
theorem tcells_set : ∀ (L : List Tr) (i : Nat) (a : Tr), tcells (L.set i a) = ((tcells L).set (i * 2) (.string ⟨a.1.toArray⟩)).set (i * 2 + 1) (.string ⟨a.2.toArray⟩)
  | [], _, _ => by simp [tcells]
  | t :: r, 0, a => by simp [tcells]
  | t :: r, i + 1, a => by
    rw [List.set_cons_succ, tcells, tcells_set r i a, tcells, show (i + 1) * 2 = i * 2 + 1 + 1 by omega]
    rfl
end K
namespace AL
theorem ins_set {l : List Al} (h : Sorted l) (n v : Str) : ins l n v = (if (get l n).isSome = true then l else putAt l (low l n).length ([], [])).set (low l n).length (n, v) := by
  obtain ⟨A, B, s⟩ := split n h
  rw [s.ins, s.low_eq]
  have e := s.eq
  cases hg : get l n with
  | none =>
    rw [hg, List.nil_append] at e
    rw [e]
    simp [putAt]
  | some u =>
    rw [hg] at e
    rw [e]
    simp
end AL
namespace K
theorem TV.as {w : World} {v : Value} {l : List AL.Al} (h : TV w v l) : W.AS w v l := by
  obtain ⟨A, c, h1, h2, h3, h4, h5⟩ := h
  refine ⟨A, c, h1, h2, by unfold maxLen; exact h3, fun k a ha => ?_⟩
  obtain ⟨hk, hka⟩ := List.getElem?_eq_some_iff.1 ha
  obtain ⟨b, off, e1, e2, e3, e4⟩ := h5.get hk
  have : l.getD k ([], []) = a := by rw [List.getD_eq_getElem?_getD, ha]; rfl
  rw [this] at e3 e4
  exact ⟨b, off, e1, e2, e3, e4⟩
theorem TV.val {w : World} {v : Value} {l : List AL.Al} (h : TV w v l) : ∃ A c, v = .slice A l.length c := by
  obtain ⟨A, c, h1, -⟩ := h
  exact ⟨A, c, h1⟩
end K
namespace W
/-- A list of aliases and an error come back. -/
def LPost (w : World) (r : List AL.Al × Int) (e : Ending) (w' : World) : Prop := ∃ v, e = .returned (.tuple #[v, .int .i64 r.2]) ∧ Below w.heap.size w w' ∧ TV w' v r.1
theorem row_some {w : World} {B : Nat} {e : TypeId} {k : Nat} {v : Value} {n : Nat} {xs : List Value} (h : w.ownsRow B e k v n xs) (hn : 0 < n) : ∃ q c, v = .slice (some ⟨q, 0, none⟩) n c ∧ ∀ j u, xs[j]? = some u → w.cell? ⟨q, j, none⟩ = some u := by
  rcases h.2 with e | ⟨q, cap, cur, hv, h2⟩
  · omega
  · refine ⟨q, cap, hv, fun j u hj => ?_⟩
    have := h.cells (g := q) (by rw [hv]; rfl) j u hj
    rw [show (⟨q, j, none⟩ : Addr) = (⟨q, 0, none⟩ : Addr).add j by cases j <;> simp [Addr.add]]
    exact this
set_option maxRecDepth 100000 in
set_option maxHeartbeats 8000000 in
theorem Set_any (l : List AL.Al) (n u : List UInt8) (v : Value) (w : World) (hV : TV w v l) (hz : ∀ a ∈ l, a.1.length ≤ 10000 ∧ a.2.length ≤ 10000) (hn : n.length ≤ 10000) (hu : u.length ≤ 10000) :
    Calls Tryz.prog 14 #[v, .string ⟨n.toArray⟩, .string ⟨u.toArray⟩] w (LPost w (AL.set l n u)) := by
  obtain ⟨R, hR⟩ : ∃ R, AL.set l n u = R := ⟨_, rfl⟩
  rw [hR]
  unfold AL.set at hR
  obtain ⟨A, c, rfl⟩ := hV.val
  have HV := Lib.hid hV
  have HVA := Lib.hid (Valid_any l _ w hV.as hz)
  have HN := Lib.hid (fun V => named_any n V (by omega))
  obtain ⟨m, hm⟩ : ∃ m, m = l.length := ⟨_, rfl⟩
  have HM := Lib.hid hm
  have hmn : (0 : Int) ≤ (m : Int) := by omega
  rw [← hm] at HVA ⊢
  clear hz hV hm
  obtain ⟨vz, hvz⟩ : ∃ vz, AL.valid l = vz := ⟨_, rfl⟩
  rw [hvz] at HVA hR
  by_cases h0 : vz = 0
  case neg =>
    rw [if_neg h0] at hR
    have e0 : (vz == 0) = false := by rw [beq_eq_false_iff_ne]; exact h0
    have e1 : (vz != 0) = true := by simp [bne, e0]
    have HRE := Lib.hid hR
    clear hR hvz h0
    go_enter Tryz.func14, Tryz.ntmps14
    go_wp2_with fail
    refine HVA.out.mono ?_
    rintro e w1 ⟨rfl, hb⟩
    have HB := Lib.hid hb
    clear hb
    go_wp2
    go_ret2
    rw [← HRE.out]
    exact ⟨_, rfl, HB.out, HM.out ▸ HV.out.below HB.out⟩
  rw [if_pos h0] at hR
  subst h0
  obtain ⟨g1, g2, g3⟩ := (AL.valid_zero l).1 hvz
  have HPL := Lib.hid (fun V (hA : AS V (.slice A m c) l) => place_any l n (.slice A m c) V hA g3 g1)
  have HS3 := Lib.hid g3
  have m64 : (m : Int) ≤ 64 := by have := HM.out; omega
  obtain ⟨bn, hbn⟩ : ∃ bn, AL.named n = bn := ⟨_, rfl⟩
  rw [hbn] at HN hR
  clear g1 g2 g3 hvz hbn
  cases bn with
  | false =>
    have HRE := Lib.hid (show (l, (10 : Int)) = R from by rw [← hR, if_pos rfl])
    clear hR
    go_enter Tryz.func14, Tryz.ntmps14
    go_wp2_with fail
    refine HVA.out.mono ?_
    rintro e w1 ⟨rfl, hb⟩
    have HB := Lib.hid hb
    clear hb
    go_wp2_with fail
    refine (HN.out _).mono ?_
    rintro e w2 ⟨rfl, hb⟩
    have HB2 := Lib.hid (btr HB.out hb)
    clear hb
    go_wp2
    go_ret2
    rw [← HRE.out]
    exact ⟨_, rfl, HB2.out, HM.out ▸ HV.out.below HB2.out⟩
  | true =>
    rw [if_neg (by decide)] at hR
    by_cases h4 : 4096 < u.length
    · have t4 : ((4096 : Int) < (u.length : Int)) = True := eq_true (by omega)
      have HRE := Lib.hid (show (l, (3 : Int)) = R from by rw [← hR, if_pos h4])
      clear hR h4
      go_enter Tryz.func14, Tryz.ntmps14
      go_wp2_with fail
      refine HVA.out.mono ?_
      rintro e w1 ⟨rfl, hb⟩
      have HB := Lib.hid hb
      clear hb
      go_wp2_with fail
      refine (HN.out _).mono ?_
      rintro e w2 ⟨rfl, hb⟩
      have HB2 := Lib.hid (btr HB.out hb)
      clear hb
      go_wp2
      go_ret2
      rw [← HRE.out]
      exact ⟨_, rfl, HB2.out, HM.out ▸ HV.out.below HB2.out⟩
    rw [if_neg h4] at hR
    have t4 : ((4096 : Int) < (u.length : Int)) = False := eq_false (by omega)
    have HR := Lib.hid hR
    have HI := Lib.hid (AL.ins_set HS3.out n u)
    obtain ⟨q1, q2, q3, q4⟩ := AL.at_pos HS3.out n
    obtain ⟨p, hp⟩ : ∃ p, p = (AL.low l n).length := ⟨_, rfl⟩
    rw [← hp] at HPL HI q1 q4
    have HP := Lib.hid (show p ≤ l.length from q1)
    have p0 : (0 : Int) ≤ (p : Int) := by omega
    clear hR h4 q2 q3 hp
    cases hg : AL.get l n with
    | none =>
      rw [hg] at HPL HI
      have HGN := Lib.hid hg
      clear hg q1 q4
      by_cases h64 : m = 64
      · have t6 : ((m : Int) == 64) = true := by rw [beq_iff_eq]; omega
        have HRE := Lib.hid (show (l, (4 : Int)) = R from by rw [← HR.out, if_pos ⟨HGN.out, by rw [← HM.out]; exact h64⟩])
        clear h64
        go_enter Tryz.func14, Tryz.ntmps14
        go_wp2_with fail
        refine HVA.out.mono ?_
        rintro e w1 ⟨rfl, hb⟩
        have HB := Lib.hid hb
        clear hb
        go_wp2_with fail
        refine (HN.out _).mono ?_
        rintro e w2 ⟨rfl, hb⟩
        have HB2 := Lib.hid (btr HB.out hb)
        clear hb
        have HPP := Lib.hid (HPL.out w2 (HM.out ▸ (HV.out.below HB2.out).as))
        go_wp2_with fail
        refine HPP.out.mono ?_
        rintro e w3 ⟨rfl, hb⟩
        have HB3 := Lib.hid (btr HB2.out hb)
        clear hb
        go_wp2
        go_ret2
        rw [← HRE.out]
        exact ⟨_, rfl, HB3.out, HM.out ▸ HV.out.below HB3.out⟩
      have t6 : ((m : Int) == 64) = false := by rw [beq_eq_false_iff_ne]; omega
      have HRE := Lib.hid (show ((putAt l p ([], [])).set p (n, u), (0 : Int)) = R from by rw [← HR.out, if_neg (fun e => h64 (by rw [HM.out]; exact e.2)), HI.out]; rfl)
      clear h64
      go_enter Tryz.func14, Tryz.ntmps14
      go_wp2_with fail
      refine HVA.out.mono ?_
      rintro e w1 ⟨rfl, hb⟩
      have HB := Lib.hid hb
      clear hb
      go_wp2_with fail
      refine (HN.out _).mono ?_
      rintro e w2 ⟨rfl, hb⟩
      have HB2 := Lib.hid (btr HB.out hb)
      clear hb
      have HPP := Lib.hid (HPL.out w2 (HM.out ▸ (HV.out.below HB2.out).as))
      go_wp2_with fail
      refine HPP.out.mono ?_
      rintro e w3 ⟨rfl, hb⟩
      have HB3 := Lib.hid (btr HB2.out hb)
      clear hb
      have HCL := Lib.hid (Clone_any (.slice A m c) l w3 (HM.out ▸ HV.out.below HB3.out) (by have := HM.out; omega))
      go_wp2_with fail
      refine HCL.out.mono ?_
      rintro e w4 ⟨v4, rfl, hown, hb⟩
      have HB4 := Lib.hid (btr HB3.out hb)
      obtain ⟨A4, c4, rfl⟩ := (TV.own hown).val
      have hob := hown.lt
      have hrow2 : (w4.alloc (.cells #[.string ⟨#[]⟩, .string ⟨#[]⟩] 47)).ownsRow w3.heap.size 47 2 (.slice A4 l.length c4) l.length (tcells l) := hown.alloc _
      have HINS := Lib.hid (Insert_any w3.heap.size (.slice A4 l.length c4) l p w4.heap.size [] [] (w4.alloc (.cells #[.string ⟨#[]⟩, .string ⟨#[]⟩] 47)) hrow2 HP.out (by have := HM.out; omega) (by have := hb.size; simp; omega) (al_new _ _) (fun e => by have := (hob _ e).2; omega))
      rw [← HM.out] at HINS
      have HBW := Lib.hid hb
      rw [← HM.out]
      clear hown hb hob hrow2
      go_wp2_with fail
      refine HINS.out.mono ?_
      rintro e w5 ⟨v5, rfl, hown5, hb5⟩
      have hlt : p < m + 1 := by have := HP.out; have := HM.out; omega
      obtain ⟨q, c5, rfl, hcell⟩ := row_some hown5 (by omega)
      obtain ⟨s1, -⟩ := hown5.stored (p * 2) (.string ⟨n.toArray⟩)
      obtain ⟨s2, -⟩ := s1.stored (p * 2 + 1) (.string ⟨u.toArray⟩)
      have hqb := (hown5.lt q rfl).1
      have f0 := hown5.frozenAt (p * 2)
      have f1 := hown5.frozenAt (p * 2 + 1)
      have hxl := hown5.1
      have x0 := hcell (p * 2) _ (List.getElem?_eq_getElem (by omega))
      have x1 := hcell (p * 2 + 1) _ (List.getElem?_eq_getElem (by omega))
      generalize (tcells (putAt l p ([], [])))[p * 2] = y0 at x0
      generalize (tcells (putAt l p ([], [])))[p * 2 + 1] = y1 at x1
      rw [← tcells_set _ p (n, u)] at s2
      have HFIN := Lib.hid s2
      have HB5 := Lib.hid (show Below w.heap.size w ((w5.setCell ⟨q, p * 2, none⟩ (.string ⟨n.toArray⟩)).setCell ⟨q, p * 2 + 1, none⟩ (.string ⟨u.toArray⟩)) from by
        have h3 := HB3.out.size
        have h5 : Below w.heap.size w w5 := (HB3.out.trans ((((HBW.out.trans ((balloc w4 _).mono HBW.out.size)).trans hb5)).mono h3))
        exact (h5.setCell (by dsimp only; omega) _).setCell (by dsimp only; omega) _)
      clear hown5 hb5 hcell s1 s2 hqb hxl
      go_wp2
      go_ret2
      rw [← HRE.out]
      exact ⟨_, rfl, HB5.out, TV.own HFIN.out⟩
    | some o =>
      rw [hg] at HPL HI
      have HGN := Lib.hid hg
      have HLT := Lib.hid (show p < m from by
        rcases Nat.lt_or_ge p m with h | h
        · exact h
        · have := q4 (by have := HM.out; omega)
          rw [hg] at this
          cases this)
      clear hg q1 q4
      have HRE := Lib.hid (show (l.set p (n, u), (0 : Int)) = R from by rw [← HR.out, if_neg (fun e => by rw [HGN.out] at e; cases e.1), HI.out]; rfl)
      go_enter Tryz.func14, Tryz.ntmps14
      go_wp2_with fail
      refine HVA.out.mono ?_
      rintro e w1 ⟨rfl, hb⟩
      have HB := Lib.hid hb
      clear hb
      go_wp2_with fail
      refine (HN.out _).mono ?_
      rintro e w2 ⟨rfl, hb⟩
      have HB2 := Lib.hid (btr HB.out hb)
      clear hb
      have HPP := Lib.hid (HPL.out w2 (HM.out ▸ (HV.out.below HB2.out).as))
      go_wp2_with fail
      refine HPP.out.mono ?_
      rintro e w3 ⟨rfl, hb⟩
      have HB3 := Lib.hid (btr HB2.out hb)
      clear hb
      have HCL := Lib.hid (Clone_any (.slice A m c) l w3 (HM.out ▸ HV.out.below HB3.out) (by have := HM.out; omega))
      go_wp2_with fail
      refine HCL.out.mono ?_
      rintro e w4 ⟨v4, rfl, hown, hb⟩
      have HB4 := Lib.hid (btr HB3.out hb)
      have hown5 := hown
      rw [← HM.out] at hown5
      have hlt := HLT.out
      obtain ⟨q, c5, rfl, hcell⟩ := row_some hown5 (by omega)
      obtain ⟨s1, -⟩ := hown5.stored (p * 2) (.string ⟨n.toArray⟩)
      obtain ⟨s2, -⟩ := s1.stored (p * 2 + 1) (.string ⟨u.toArray⟩)
      have hqb := (hown5.lt q rfl).1
      have f0 := hown5.frozenAt (p * 2)
      have f1 := hown5.frozenAt (p * 2 + 1)
      have hxl := hown5.1
      have x0 := hcell (p * 2) _ (List.getElem?_eq_getElem (by omega))
      have x1 := hcell (p * 2 + 1) _ (List.getElem?_eq_getElem (by omega))
      generalize (tcells l)[p * 2] = y0 at x0
      generalize (tcells l)[p * 2 + 1] = y1 at x1
      rw [← tcells_set _ p (n, u)] at s2
      have HFIN := Lib.hid s2
      have HB5 := Lib.hid (show Below w.heap.size w ((w4.setCell ⟨q, p * 2, none⟩ (.string ⟨n.toArray⟩)).setCell ⟨q, p * 2 + 1, none⟩ (.string ⟨u.toArray⟩)) from by
        have h3 := HB3.out.size
        exact (HB4.out.setCell (by dsimp only; omega) _).setCell (by dsimp only; omega) _)
      clear hown hb hown5 hcell s1 s2 hqb hxl
      go_wp2
      go_ret2
      rw [← HRE.out]
      exact ⟨_, rfl, HB5.out, TV.own HFIN.out⟩
end W
end Go.Proofs.YtelhobphphkidaaGreatDoor
namespace Go.Proofs.YtelhobphphkidaaGreatDoor
open Go.RowKit K
namespace W
set_option maxRecDepth 100000 in
set_option maxHeartbeats 1000000 in
theorem without_ref (v : Value) (ts : List Tr) (n : List UInt8) (w : World) (hV : TV w v ts) (hn : ts.length ≤ 1000000) :
    Calls Tryz.prog 30 #[v, .string ⟨n.toArray⟩] w (TPost w (AL.without ts n)) := by
  obtain ⟨i0, hi, hz0, hz1, hz2⟩ := info_parts infoAl
  obtain ⟨A, c, rfl, hc1, hc2, -, hT⟩ := hV
  obtain ⟨R, hR⟩ : ∃ R, AL.without ts n = R := ⟨_, rfl⟩
  rw [hR]
  have HR := Lib.hid (show AL.without ts n = R from hR)
  have HT := Lib.hid hT
  clear hR hT
  go_enter Tryz.func30, Tryz.ntmps30
  go_wp2
  go_loopw [5, 6] (fun o i wr => ∃ (k : Nat) (acc : List Tr), k ≤ ts.length ∧ i = .int .i64 k ∧ acc.length ≤ k ∧ wr.ownsRow w.heap.size 47 2 o acc.length (tcells acc) ∧ Below w.heap.size w wr ∧ Hid (acc ++ AL.without (ts.drop k) n = R)) (fun _ i _ => ts.length - (intOf i).toNat)
  case atStart => exact ⟨0, [], by omega, rfl, by simp, World.ownsRow_nil _ _ _ _, Below.refl _ _, by show _ = _; simpa using HR.out⟩
  case round =>
    obtain ⟨k, acc, hk, rfl, hac, hown, hbw, HN⟩ := hrel
    by_cases hlt : k < ts.length
    · obtain ⟨b, off, rfl, hb, hc0, hc1'⟩ := (HT.out.below hbw).get hlt
      have HD := Lib.hid (drop_getT hlt)
      obtain ⟨⟨z, s⟩, ht⟩ : ∃ t, ts.getD k ([], []) = t := ⟨_, rfl⟩
      rw [ht] at HD hc0 hc1'
      simp only at hc0 hc1'
      clear ht
      have hsz := hbw.size
      have HB := Lib.hid hbw
      have HO := Lib.hid hown
      by_cases hq : z = n
      · have e1 : (z != n) = false := by simp [hq]
        have e2 : (z == n) = true := by simp [hq]
        have HF := Lib.hid (show acc ++ AL.without (ts.drop (k + 1)) n = R by rw [← HN.out, HD.out]; unfold AL.without; rw [List.filter_cons_of_neg (by simp [hq])])
        clear hq hown hbw
        go_wp2
        go_roundw
        case rel => exact ⟨k + 1, acc, by omega, by go_num, by omega, HO.out, HB.out, HF.out⟩
        case measure => simp [intOf]; omega
      · have e1 : (z != n) = true := by simp [hq]
        have e2 : (z == n) = false := by simp [hq]
        have HF := Lib.hid (show (acc ++ [(z, s)]) ++ AL.without (ts.drop (k + 1)) n = R by rw [← HN.out, HD.out]; unfold AL.without; rw [List.filter_cons_of_pos (by simp [hq])]; simp)
        have HSN := Lib.hid (tcells_snoc acc (z, s))
        clear hq hbw
        go_wp2_with (at_builtin; refine wpList_append_own _ rfl _ _ 22 rfl w.heap.size 47 i0 (.agg #[.string ⟨#[]⟩, .string ⟨#[]⟩]) 2 32 Tryz.underlying22 hi hz0 hz1 hz2 rfl (by decide) _ _ _ rfl (hown.alloc _) ⟨wr.heap.size, 0, none⟩ 1 1 [.string ⟨z.toArray⟩, .string ⟨s.toArray⟩] rfl rfl (pair_news1 wr _ _ _) (pair_one _ _) (by unfold maxLen; omega) (by omega) (by simp; omega) ?_)
        intro v2 w2 hown2 hgrow2 _
        have hb2 : Below w.heap.size w w2 := (HB.out.alloc HB.out.size _).grown hgrow2 (by have := HB.out.size; simp; omega) (fun k hk => (HO.out.lt k hk).1)
        rw [HSN.out] at hown2
        clear hown hgrow2
        go_wp2
        go_roundw
        case rel => exact ⟨k + 1, acc ++ [(z, s)], by omega, by go_num, by simp; omega, by simpa using hown2, hb2, HF.out⟩
        case measure => simp [intOf]; omega
    · have HF := Lib.hid (show acc = R by have := HN.out; rw [List.drop_eq_nil_of_le (by omega)] at this; simpa [AL.without] using this)
      have HB := Lib.hid hbw
      have HO := Lib.hid hown
      clear hown hbw
      go_wp2
      go_ret
      exact ⟨_, rfl, by rw [← HF.out]; exact HO.out, HB.out⟩
set_option maxRecDepth 100000 in
set_option maxHeartbeats 4000000 in
theorem Unset_ref (l : List AL.Al) (n : List UInt8) (v : Value) (w : World) (hV : TV w v l) (hz : ∀ a ∈ l, a.1.length ≤ 10000 ∧ a.2.length ≤ 10000) (hl : l.length ≤ 1000) :
    Calls Tryz.prog 18 #[v, .string ⟨n.toArray⟩] w (LPost w (AL.unsetR l n)) := by
  obtain ⟨R, hR⟩ : ∃ R, AL.unsetR l n = R := ⟨_, rfl⟩
  rw [hR]
  unfold AL.unsetR at hR
  obtain ⟨A, c, rfl⟩ := hV.val
  have HV := Lib.hid hV
  have HVA := Lib.hid (Valid_ref l _ w hV.as hz)
  have HGT := Lib.hid (fun V (hA : AS V (.slice A l.length c) l) => Get_ref l n (.slice A l.length c) V hA (by omega))
  have HWO := Lib.hid (fun V (hA : TV V (.slice A l.length c) l) => without_ref (.slice A l.length c) l n V hA (by omega))
  clear hz hV hl
  obtain ⟨vz, hvz⟩ : ∃ vz, AL.valid l = vz := ⟨_, rfl⟩
  rw [hvz] at HVA hR
  by_cases h0 : vz = 0
  case neg =>
    rw [if_neg h0] at hR
    have e0 : (vz == 0) = false := by rw [beq_eq_false_iff_ne]; exact h0
    have e1 : (vz != 0) = true := by simp [bne, e0]
    have HRE := Lib.hid hR
    clear hR hvz h0
    go_enter Tryz.func18, Tryz.ntmps18
    go_wp2_with fail
    refine HVA.out.mono ?_
    rintro e w1 ⟨rfl, hb⟩
    have HB := Lib.hid hb
    clear hb
    go_wp2
    go_ret2
    rw [← HRE.out]
    exact ⟨_, rfl, HB.out, HV.out.below HB.out⟩
  rw [if_pos h0] at hR
  subst h0
  have HR := Lib.hid hR
  clear hR hvz
  cases hg : AL.get l n with
  | none =>
    rw [hg] at HGT
    have HRE := Lib.hid (show (l, (8 : Int)) = R from by rw [← HR.out, if_pos hg])
    clear hg
    go_enter Tryz.func18, Tryz.ntmps18
    go_wp2_with fail
    refine HVA.out.mono ?_
    rintro e w1 ⟨rfl, hb⟩
    have HB := Lib.hid hb
    clear hb
    have HG1 := Lib.hid (HGT.out w1 (HV.out.below HB.out).as)
    go_wp2_with fail
    refine HG1.out.mono ?_
    rintro e w2 ⟨rfl, rfl⟩
    go_wp2
    go_ret2
    rw [← HRE.out]
    exact ⟨_, rfl, HB.out, HV.out.below HB.out⟩
  | some o =>
    rw [hg] at HGT
    have HRE := Lib.hid (show (AL.without l n, (0 : Int)) = R from by rw [← HR.out, if_neg (by rw [hg]; simp)])
    clear hg
    go_enter Tryz.func18, Tryz.ntmps18
    go_wp2_with fail
    refine HVA.out.mono ?_
    rintro e w1 ⟨rfl, hb⟩
    have HB := Lib.hid hb
    clear hb
    have HG1 := Lib.hid (HGT.out w1 (HV.out.below HB.out).as)
    go_wp2_with fail
    refine HG1.out.mono ?_
    rintro e w2 ⟨rfl, rfl⟩
    have HW1 := Lib.hid (HWO.out _ (HV.out.below HB.out))
    go_wp2_with fail
    refine HW1.out.mono ?_
    rintro e w3 ⟨v3, rfl, hown, hb⟩
    have HB3 := Lib.hid (btr HB.out hb)
    have HT3 := Lib.hid (TV.own hown)
    clear hown hb
    go_wp2
    go_ret2
    rw [← HRE.out]
    exact ⟨_, rfl, HB3.out, HT3.out⟩
set_option maxRecDepth 100000 in
set_option maxHeartbeats 4000000 in
/-- Same at equal lists. -/
theorem Same_any (l : List AL.Al) (v u : Value) (w : World) (hn : l.length ≤ 1000000) (h : AS w v l) (h' : AS w u l) :
    Calls Tryz.prog 16 #[v, u] w fun e w' => e = .returned (.bool true) ∧ Below w.heap.size w w' := by
  obtain ⟨A, ca, rfl⟩ := h.slice
  obtain ⟨B, cb, rfl⟩ := h'.slice
  obtain ⟨n, hnn⟩ : ∃ n, n = l.length := ⟨_, rfl⟩
  have HNN := Lib.hid hnn
  have HA := Lib.hid h
  have HB := Lib.hid h'
  rw [← hnn] at hn ⊢
  have n0 : (0 : Int) ≤ (n : Int) := by omega
  have e1 : ((n : Int) != (n : Int)) = false := by simp
  clear h h' hnn
  go_enter Tryz.func16, Tryz.ntmps16
  go_wp2
  go_loopg [5] n (fun g i wr => ∃ k : Nat, k ≤ n ∧ g = n - k ∧ i = .int .i64 k ∧ Hid (Below w.heap.size w wr))
  case atStart => exact ⟨0, Nat.zero_le _, rfl, rfl, Lib.hid (Below.refl _ _)⟩
  case round =>
    obtain ⟨k, hk, rfl, rfl, HBW⟩ := hrel
    by_cases hlt : k < n
    · have hlt2 : (k : Int) < (n : Int) := by omega
      obtain ⟨⟨nm, vl⟩, qa, oa, ha, rfl, hq1, a0, a1⟩ := (HA.out.go HBW.out).get (k := k) (by have := HNN.out; omega)
      obtain ⟨⟨nm', vl'⟩, qb, ob, hb, rfl, hq2, b0, b1⟩ := (HB.out.go HBW.out).get (k := k) (by have := HNN.out; omega)
      rw [ha] at hb
      injection hb with hb
      injection hb with e2 e3
      subst e2 e3
      dsimp only at a0 a1 b0 b1
      have s1 : Tryz.prog.stoodInHeld 47 = false := by kernel_rfl
      clear ha
      go_wp2_with fail
      go_quiet (fail)
      go_wp2
      go_roundg (n - (k + 1))
      case measure => omega
      case rel => exact ⟨k + 1, hlt, rfl, by go_num, Lib.hid (bdN HBW.out _)⟩
    · have hlt2 : ¬ (k : Int) < (n : Int) := by omega
      go_wp2
      go_ret
      exact ⟨rfl, HBW.out⟩
end W
end Go.Proofs.YtelhobphphkidaaGreatDoor
namespace Go.Proofs.YtelhobphphkidaaGreatDoor
open Go.RowKit K
namespace AL
theorem low_take {l : List Al} (h : Sorted l) (n : Str) : low l n = l.take (low l n).length := by
  obtain ⟨A, B, s⟩ := split n h
  rw [s.low_eq]
  conv => rhs; rw [s.eq]
  simp
theorem without_sorted {l : List Al} (h : Sorted l) (n : Str) : Sorted (without l n) := List.Pairwise.filter _ h
theorem without_len (l : List Al) (n : Str) : (without l n).length ≤ l.length := List.length_filter_le _ _
end AL
namespace W
theorem append_eq {P : Program} {w w' : World} {ops : Array Oper} {rest : List Oper} {o : Oper} {a : Act} {Q : Exit → Act → World → Prop} (hgd : o.guard = none) (s x : Operand) (t : TypeId)
    (ho : o.op = .call { callee := .builtin .append, args := #[s, x], argTypes := #[t, t] }) (v u v' : Value) (hs : a.eval s = v) (hx : a.eval x = u)
    (hr : (Builtin.append_ #[t, t] o.type #[v, u]).run P w = .ok v' w') (h : wpList P ops Q rest (a.put o.dst v') w') : wpList P ops Q (o :: rest) a w := by
  refine wpList_plain hgd fun K hK => ?_
  unfold Oper.wp execOp
  simp only [ho, resolve, invoke, builtin, Sem.run_bind, Sem.run_pure, Result.andThen_ok, List.map_toArray, List.map_cons, List.map_nil, hs, hx, hr]
  exact hK _ _ h
/-- append of one alias that lies in a block of its own. -/
theorem app_one {w : World} {B k : Nat} {o : Value} {L : List Tr} (z s : List UInt8) (h : w.ownsRow B 47 2 o k (tcells L)) (hk : k ≤ 1000) (hB : B ≤ w.heap.size) :
    ∃ A c w', (Builtin.append_ #[22, 22] 22 #[o, .slice (some ⟨w.heap.size, 0, none⟩) 1 1]).run Tryz.prog (w.alloc (.cells #[.string ⟨z.toArray⟩, .string ⟨s.toArray⟩] 47)) = .ok (.slice A (k + 1) c) w' ∧ w'.ownsRow B 47 2 (.slice A (k + 1) c) (k + 1) (tcells (L ++ [(z, s)])) ∧ Below B w w' := by
  obtain ⟨i0, hi, hz0, hz1, hz2⟩ := info_parts infoAl
  obtain ⟨v', w', r1, r2, r3, -, -⟩ := run_append_own_at (P := Tryz.prog) (w.alloc (.cells #[.string ⟨z.toArray⟩, .string ⟨s.toArray⟩] 47)) B 22 22 47 i0 _ 2 32 Tryz.underlying22 hi hz0 hz1 hz2 rfl (by decide) o k _ (h.alloc _) ⟨w.heap.size, 0, none⟩ 1 1 [.string ⟨z.toArray⟩, .string ⟨s.toArray⟩] rfl (pair_news1 w _ _ _) (pair_one _ _) (by unfold maxLen; omega) (by omega) (by simp; omega)
  have hk2 : ∃ A c, v' = .slice A (k + 1) c := by
    rcases r2.2 with ⟨-, e⟩ | ⟨q, cap, cur, hv, -⟩
    · omega
    · exact ⟨_, _, hv⟩
  obtain ⟨A, c, rfl⟩ := hk2
  exact ⟨A, c, w', r1, by rw [← tcells_snoc]; exact r2, ((balloc w _).mono hB).grown r3 (by simp; omega) (fun r hr => (h.lt r hr).1)⟩
/-- append of aliases that lie somewhere. -/
theorem app_row {w : World} {B k m c : Nat} {o : Value} {L M : List Tr} (ad : Addr) (h : w.ownsRow B 47 2 o k (tcells L)) (hM : m = M.length) (hc : ∀ j u, (tcells M)[j]? = some u → w.cell? (ad.add j) = some u) (hk : k + m ≤ 1000) (h0 : 0 < k) (hB : B ≤ w.heap.size) :
    ∃ A c' w', (Builtin.append_ #[22, 22] 22 #[o, .slice (some ad) m c]).run Tryz.prog w = .ok (.slice A (k + m) c') w' ∧ w'.ownsRow B 47 2 (.slice A (k + m) c') (k + m) (tcells (L ++ M)) ∧ Below B w w' := by
  obtain ⟨i0, hi, hz0, hz1, hz2⟩ := info_parts infoAl
  obtain ⟨v', w', r1, r2, r3, -, -⟩ := run_append_own_at (P := Tryz.prog) w B 22 22 47 i0 _ 2 32 Tryz.underlying22 hi hz0 hz1 hz2 rfl (by decide) o k _ h ad m c (tcells M) (by rw [tcells_length, hM]) hc (tcells_one M) (by unfold maxLen; omega) (by omega) hB
  have hk2 : ∃ A c, v' = .slice A (k + m) c := by
    rcases r2.2 with ⟨-, e⟩ | ⟨q, cap, cur, hv, -⟩
    · omega
    · exact ⟨_, _, hv⟩
  obtain ⟨A, c', rfl⟩ := hk2
  exact ⟨A, c', w', r1, by rw [tcells_append]; exact r2, (Below.refl _ _).grown r3 hB (fun r hr => (h.lt r hr).1)⟩
theorem row_below {w w' : World} {B : Nat} {e : TypeId} {k : Nat} {v : Value} {n : Nat} {xs : List Value} (h : w.ownsRow B e k v n xs) (hb : Below w.heap.size w w') : w'.ownsRow B e k v n xs := by
  refine ⟨h.1, ?_⟩
  rcases h.2 with h2 | ⟨g, cap, cur, hv, hbg, hgb, rest⟩
  · exact .inl h2
  · exact .inr ⟨g, cap, cur, hv, hbg, (hb.block g (Array.getElem?_eq_some_iff.1 hgb).1).trans hgb, rest⟩
set_option maxRecDepth 100000 in
set_option maxHeartbeats 8000000 in
theorem Set_ref (l : List AL.Al) (n u : List UInt8) (v : Value) (w : World) (hV : TV w v l) (hz : ∀ a ∈ l, a.1.length ≤ 10000 ∧ a.2.length ≤ 10000) (hn : n.length ≤ 10000) (hu : u.length ≤ 10000) :
    Calls Tryz.prog 15 #[v, .string ⟨n.toArray⟩, .string ⟨u.toArray⟩] w (LPost w (AL.setR l n u)) := by
  obtain ⟨R, hR⟩ : ∃ R, AL.setR l n u = R := ⟨_, rfl⟩
  rw [hR]
  unfold AL.setR at hR
  obtain ⟨A, c, rfl⟩ := hV.val
  have HV := Lib.hid hV
  have HVA := Lib.hid (Valid_ref l _ w hV.as hz)
  have HN := Lib.hid (fun V => name_ref n V (by omega))
  obtain ⟨m, hm⟩ : ∃ m, m = l.length := ⟨_, rfl⟩
  have HM := Lib.hid hm
  have hmn : (0 : Int) ≤ (m : Int) := by omega
  rw [← hm] at HVA ⊢
  clear hz hV hm
  obtain ⟨vz, hvz⟩ : ∃ vz, AL.valid l = vz := ⟨_, rfl⟩
  rw [hvz] at HVA hR
  by_cases h0 : vz = 0
  case neg =>
    rw [if_neg h0] at hR
    have e0 : (vz == 0) = false := by rw [beq_eq_false_iff_ne]; exact h0
    have e1 : (vz != 0) = true := by simp [bne, e0]
    have HRE := Lib.hid hR
    clear hR hvz h0
    go_enter Tryz.func15, Tryz.ntmps15
    go_wp2_with fail
    refine HVA.out.mono ?_
    rintro e w1 ⟨rfl, hb⟩
    have HB := Lib.hid hb
    clear hb
    go_wp2
    go_ret2
    rw [← HRE.out]
    exact ⟨_, rfl, HB.out, HM.out ▸ HV.out.below HB.out⟩
  rw [if_pos h0] at hR
  subst h0
  obtain ⟨g1, g2, g3⟩ := (AL.valid_zero l).1 hvz
  have HWO := Lib.hid (fun V (hA : TV V (.slice A m c) l) => without_ref (.slice A m c) l n V hA (by omega))
  have HS3 := Lib.hid g3
  have m64 : (m : Int) ≤ 64 := by have := HM.out; omega
  obtain ⟨bn, hbn⟩ : ∃ bn, AL.named n = bn := ⟨_, rfl⟩
  rw [hbn] at HN hR
  clear g1 g2 g3 hvz hbn
  cases bn with
  | false =>
    have HRE := Lib.hid (show (l, (10 : Int)) = R from by rw [← hR, if_pos rfl])
    clear hR
    go_enter Tryz.func15, Tryz.ntmps15
    go_wp2_with fail
    refine HVA.out.mono ?_
    rintro e w1 ⟨rfl, hb⟩
    have HB := Lib.hid hb
    clear hb
    go_wp2_with fail
    refine (HN.out _).mono ?_
    rintro e w2 ⟨rfl, rfl⟩
    have HB2 := HB
    go_wp2
    go_ret2
    rw [← HRE.out]
    exact ⟨_, rfl, HB2.out, HM.out ▸ HV.out.below HB2.out⟩
  | true =>
    rw [if_neg (by decide)] at hR
    by_cases h4 : 4096 < u.length
    · have t4 : ((4096 : Int) < (u.length : Int)) = True := eq_true (by omega)
      have HRE := Lib.hid (show (l, (3 : Int)) = R from by rw [← hR, if_pos h4])
      clear hR h4
      go_enter Tryz.func15, Tryz.ntmps15
      go_wp2_with fail
      refine HVA.out.mono ?_
      rintro e w1 ⟨rfl, hb⟩
      have HB := Lib.hid hb
      clear hb
      go_wp2_with fail
      refine (HN.out _).mono ?_
      rintro e w2 ⟨rfl, rfl⟩
      have HB2 := HB
      go_wp2
      go_ret2
      rw [← HRE.out]
      exact ⟨_, rfl, HB2.out, HM.out ▸ HV.out.below HB2.out⟩
    rw [if_neg h4] at hR
    have t4 : ((4096 : Int) < (u.length : Int)) = False := eq_false (by omega)
    have HR := Lib.hid hR
    obtain ⟨W, hW⟩ : ∃ W, W = AL.without l n := ⟨_, rfl⟩
    have hWs : AL.Sorted W := by rw [hW]; exact AL.without_sorted HS3.out n
    have hWl : W.length ≤ 64 := by rw [hW]; have := AL.without_len l n; have := HM.out; omega
    rw [← hW] at HR HWO
    obtain ⟨k9, hk9⟩ : ∃ k9, k9 = W.length := ⟨_, rfl⟩
    have HK9 := Lib.hid hk9
    rw [← hk9] at HR hWl
    have k90 : (0 : Int) ≤ (k9 : Int) := by omega
    have k964 : (k9 : Int) ≤ 64 := by omega
    have HLT := Lib.hid (AL.low_take hWs n)
    obtain ⟨q1, q2, -, -⟩ := AL.at_pos hWs n
    obtain ⟨p, hp⟩ : ∃ p, p = (AL.low W n).length := ⟨_, rfl⟩
    rw [← hp] at HLT q1 q2 HR
    rw [HLT.out] at HR
    rw [← hk9] at q1
    have HQ1 := Lib.hid q1
    have HQ2 := Lib.hid q2
    have p0 : (0 : Int) ≤ (p : Int) := by omega
    clear hR h4 q1 q2 hp hW hk9 hWs hWl
    by_cases h64 : 64 ≤ k9
    · have t6 : ((64 : Int) ≤ (k9 : Int)) = True := eq_true (by omega)
      have HRE := Lib.hid (show (l, (4 : Int)) = R from by rw [← HR.out, if_pos h64])
      clear h64
      go_enter Tryz.func15, Tryz.ntmps15
      go_wp2_with fail
      refine HVA.out.mono ?_
      rintro e w1 ⟨rfl, hb⟩
      have HB := Lib.hid hb
      clear hb
      go_wp2_with fail
      refine (HN.out _).mono ?_
      rintro e w2 ⟨rfl, rfl⟩
      have HW1 := Lib.hid (HWO.out _ (HM.out ▸ HV.out.below HB.out))
      go_wp2_with fail
      refine HW1.out.mono ?_
      rintro e w4 ⟨v9, rfl, hown, hb⟩
      have HB4 := Lib.hid (btr HB.out hb)
      rw [← HK9.out] at hown
      have hv9 : ∃ A9 c9, v9 = .slice A9 k9 c9 := by
        rcases hown.2 with ⟨e, e0⟩ | ⟨q, c9, cur, hv, -⟩
        · exact ⟨none, 0, by rw [e, e0]⟩
        · exact ⟨_, _, hv⟩
      obtain ⟨A9, c9, rfl⟩ := hv9
      have HROW := Lib.hid hown
      have HTV := Lib.hid (TV.own hown)
      clear hown hb
      go_wp2
      go_ret2
      rw [← HRE.out]
      exact ⟨_, rfl, HB4.out, HM.out ▸ HV.out.below HB4.out⟩
    have t6 : ((64 : Int) ≤ (k9 : Int)) = False := eq_false (by omega)
    have HRE := Lib.hid (show (W.take p ++ (n, u) :: W.drop p, (0 : Int)) = R from by rw [← HR.out, if_neg h64])
    have HK64 := Lib.hid (show k9 < 64 by omega)
    clear h64
    go_enter Tryz.func15, Tryz.ntmps15
    go_wp2_with fail
    refine HVA.out.mono ?_
    rintro e w1 ⟨rfl, hb⟩
    have HB := Lib.hid hb
    clear hb
    go_wp2_with fail
    refine (HN.out _).mono ?_
    rintro e w2 ⟨rfl, rfl⟩
    have HW1 := Lib.hid (HWO.out _ (HM.out ▸ HV.out.below HB.out))
    go_wp2_with fail
    refine HW1.out.mono ?_
    rintro e w4 ⟨v9, rfl, hown, hb⟩
    have HB4 := Lib.hid (btr HB.out hb)
    rw [← HK9.out] at hown
    have hv9 : ∃ A9 c9, v9 = .slice A9 k9 c9 := by
      rcases hown.2 with ⟨e, e0⟩ | ⟨q, c9, cur, hv, -⟩
      · exact ⟨none, 0, by rw [e, e0]⟩
      · exact ⟨_, _, hv⟩
    obtain ⟨A9, c9, rfl⟩ := hv9
    have HROW := Lib.hid hown
    have HTV := Lib.hid (TV.own hown)
    clear hown hb
    have HA9 := Lib.hid (HTV.out.as)
    go_wp2
    go_loopg [10, 11] p (fun g o i wr => ∃ k : Nat, k ≤ p ∧ g = p - k ∧ i = .int .i64 k ∧ Hid (wr.ownsRow w4.heap.size 47 2 o k (tcells (W.take k))) ∧ Hid (Below w4.heap.size w4 wr))
    case atStart => exact ⟨0, Nat.zero_le _, rfl, rfl, Lib.hid ⟨rfl, .inl ⟨rfl, rfl⟩⟩, Lib.hid (Below.refl _ _)⟩
    case round =>
      obtain ⟨k, hk, rfl, rfl, HO, HBW⟩ := hrel
      by_cases hlt : k < p
      · have hk9' : k < k9 := by have := HQ1.out; omega
        have hk92 : (k : Int) < (k9 : Int) := by omega
        obtain ⟨⟨nm, vl⟩, b, off, ha, rfl, hb, c0, c1⟩ := (HA9.out.go HBW.out).get (k := k) (by have := HK9.out; omega)
        dsimp only at c0 c1
        have hbo := fun t => (binOp_lss_al t nm n).trans (by rw [decide_eq_true ((HQ2.out k _ ha).2 hlt)])
        obtain ⟨A', c', w', r1, r2, r3⟩ := app_one nm vl HO.out (by omega) (by have := HBW.out.size; omega)
        rw [← AL.take_one ha] at r2
        have HRUN := Lib.hid r1
        have HO2 := Lib.hid r2
        have HB2' := Lib.hid (HBW.out.trans r3)
        have HLTK := Lib.hid hlt
        clear ha r1 r2 r3
        go_wp2_with (at_builtin; refine append_eq rfl _ _ 22 rfl _ _ _ rfl rfl HRUN.out ?_)
        go_roundg (p - (k + 1))
        case measure => have := HLTK.out; omega
        case rel => exact ⟨k + 1, HLTK.out, rfl, by go_num, HO2, HB2'⟩
      · obtain rfl : k = p := by omega
        obtain ⟨A', c', w', r1, r2, r3⟩ := app_one n u HO.out (by have := HQ1.out; omega) (by have := HBW.out.size; omega)
        have HRUN := Lib.hid r1
        have HO2 := Lib.hid r2
        have HB2' := Lib.hid (HBW.out.trans r3)
        have hk1000 := HQ1.out
        have hrow9 := row_below HROW.out HB2'.out
        clear r1 r2 r3
        rcases hrow9.2 with ⟨hv, h0⟩ | ⟨q, cap, cur, hv, -, hqg, hcap, hcm, -⟩
        · injection hv with e1 e2 e3
          subst e1 e3
          obtain rfl : k = 0 := by omega
          obtain rfl : k9 = 0 := by omega
          have hWn : W = [] := List.eq_nil_of_length_eq_zero HK9.out.symm
          have HF := Lib.hid (show ([(n, u)] : List Tr) = R.1 by rw [← HRE.out, hWn]; rfl)
          have HF2 := Lib.hid (show (0 : Int) = R.2 by rw [← HRE.out])
          have hrun2 := run_append_owned_none (P := Tryz.prog) (w := w') w4.heap.size 22 22 47 _ 2 Tryz.underlying22 (info_parts infoAl).choose_spec.1 (.slice A' (0 + 1) c') (0 + 1) _ HO2.out
          have HRUN2 := Lib.hid hrun2
          have HO3 := Lib.hid (show TV w' (.slice A' (0 + 1) c') [(n, u)] from TV.own (by have := HO2.out; rw [hWn] at this; exact this))
          clear hrun2 hrow9 hWn
          go_wp2_with (first | (at_builtin; refine append_eq rfl _ _ 22 rfl _ _ _ rfl rfl HRUN.out ?_) | (at_builtin; refine append_eq rfl _ _ 22 rfl _ _ _ rfl rfl HRUN2.out ?_))
          go_ret2
          exact ⟨_, by rw [← HF2.out]; rfl, (HB4.out.trans (HB2'.out.mono HB4.out.size)), by rw [← HF.out]; exact HO3.out⟩
        · injection hv with e1 e2 e3
          subst e1 e3
          have hcell : ∀ j x, (tcells W)[j]? = some x → w'.cell? ⟨q, j, none⟩ = some x := fun j x hj => by
            have := hrow9.cells (g := q) rfl j x hj
            rw [show (⟨q, j, none⟩ : Addr) = (⟨q, 0, none⟩ : Addr).add j by cases j <;> simp [Addr.add]]
            exact this
          by_cases hpk : k < k9
          · have hck2 : ¬ c9 = k := by omega
            have hkc : (k : Int) ≤ (c9 : Int) := by omega
            have hk9c : (k9 : Int) ≤ (c9 : Int) := by omega
            obtain ⟨A2, c2, w2', r1, r2, r3⟩ := app_row (c := c9 - k) (M := W.drop k) (m := k9 - k) ⟨q, k * 2, none⟩ HO2.out (by rw [List.length_drop]; have := HK9.out; omega) (fun j x hj => by rw [tcells_drop, List.getElem?_drop] at hj; have := hcell _ _ hj; rw [show (⟨q, k * 2, none⟩ : Addr).add j = ⟨q, k * 2 + j, none⟩ by unfold Addr.add; split <;> simp_all]; exact this) (by omega) (by omega) (by have := HB2'.out.size; omega)
            have HRUN2 := Lib.hid r1
            have HO3 := Lib.hid (TV.own r2)
            have HB3' := Lib.hid (HB4.out.trans ((HB2'.out.trans r3).mono HB4.out.size))
            have HF := Lib.hid (show ((W.take k ++ [(n, u)]) ++ W.drop k : List Tr) = R.1 by rw [← HRE.out]; simp)
            have HF2 := Lib.hid (show (0 : Int) = R.2 by rw [← HRE.out])
            obtain ⟨⟨nm, vl⟩, b, off, ha, hqq, hb, c0, c1⟩ := (HA9.out.go HBW.out).get (k := k) (by have := HK9.out; omega)
            injection hqq with hqq
            injection hqq with e4 e5
            subst e4 e5
            dsimp only at c0 c1
            simp only [Nat.zero_add] at c0 c1
            have hbo := fun t => (binOp_lss_al t nm n).trans (by rw [decide_eq_false (fun e => absurd ((HQ2.out k _ ha).1 e) (Nat.lt_irrefl _))])
            have hpk2 : (k : Int) < (k9 : Int) := by omega
            clear ha
            clear r1 r2 r3 hcell hrow9 hqg hcap hcm
            go_wp2_with (first | (at_builtin; refine append_eq rfl _ _ 22 rfl _ _ _ rfl rfl HRUN.out ?_) | (at_builtin; refine append_eq rfl _ _ 22 rfl _ _ _ rfl rfl HRUN2.out ?_))
            go_ret2
            exact ⟨_, by rw [← HF2.out]; rfl, HB3'.out, by rw [← HF.out]; exact HO3.out⟩
          · have hkk : k = k9 := by omega
            subst hkk
            by_cases hck : c9 = k
            · subst hck
              have hkc : (c9 : Int) ≤ (c9 : Int) := by omega
              have hk9c : (c9 : Int) ≤ (c9 : Int) := by omega
              obtain ⟨A2, c2, w2', r1, r2, r3⟩ := app_row (c := 0) (M := W.drop c9) (m := 0) ⟨q, 0, none⟩ HO2.out (by rw [List.length_drop]; have := HK9.out; omega) (fun j x hj => by rw [List.drop_eq_nil_of_le (by have := HK9.out; omega)] at hj; simp [tcells] at hj) (by omega) (by omega) (by have := HB2'.out.size; omega)
              have HRUN2 := Lib.hid r1
              have HO3 := Lib.hid (TV.own r2)
              have HB3' := Lib.hid (HB4.out.trans ((HB2'.out.trans r3).mono HB4.out.size))
              have HF := Lib.hid (show ((W.take c9 ++ [(n, u)]) ++ W.drop c9 : List Tr) = R.1 by rw [← HRE.out]; simp)
              have HF2 := Lib.hid (show (0 : Int) = R.2 by rw [← HRE.out])
              have hpk2 : ¬ (c9 : Int) < (c9 : Int) := by omega
              clear r1 r2 r3 hcell hrow9 hqg hcap hcm
              go_wp2_with (first | (at_builtin; refine append_eq rfl _ _ 22 rfl _ _ _ rfl rfl HRUN.out ?_) | (at_builtin; refine append_eq rfl _ _ 22 rfl _ _ _ rfl rfl HRUN2.out ?_))
              go_ret2
              exact ⟨_, by rw [← HF2.out]; rfl, HB3'.out, by rw [← HF.out]; exact HO3.out⟩
            · have hck2 : ¬ c9 = k := by omega
              have hkc2 : (k : Int) ≤ (c9 : Int) := by omega
              have hkc2 : (k : Int) ≤ (c9 : Int) := by omega
              obtain ⟨A2, c2, w2', r1, r2, r3⟩ := app_row (c := c9 - k) (M := W.drop k) (m := 0) ⟨q, k * 2, none⟩ HO2.out (by rw [List.length_drop]; have := HK9.out; omega) (fun j x hj => by rw [List.drop_eq_nil_of_le (by have := HK9.out; omega)] at hj; simp [tcells] at hj) (by omega) (by omega) (by have := HB2'.out.size; omega)
              have HRUN2 := Lib.hid r1
              have HO3 := Lib.hid (TV.own r2)
              have HB3' := Lib.hid (HB4.out.trans ((HB2'.out.trans r3).mono HB4.out.size))
              have HF := Lib.hid (show ((W.take k ++ [(n, u)]) ++ W.drop k : List Tr) = R.1 by rw [← HRE.out]; simp)
              have HF2 := Lib.hid (show (0 : Int) = R.2 by rw [← HRE.out])
              have hpk2 : ¬ (k : Int) < (k : Int) := by omega
              clear r1 r2 r3 hcell hrow9 hqg hcap hcm
              go_wp2_with (first | (at_builtin; refine append_eq rfl _ _ 22 rfl _ _ _ rfl rfl HRUN.out ?_) | (at_builtin; refine append_eq rfl _ _ 22 rfl _ _ _ rfl rfl HRUN2.out ?_))
              go_ret2
              exact ⟨_, by rw [← HF2.out]; rfl, HB3'.out, by rw [← HF.out]; exact HO3.out⟩
end W
end Go.Proofs.YtelhobphphkidaaGreatDoor
namespace Go.Proofs.YtelhobphphkidaaGreatDoor
open Go.RowKit K
namespace W
def over : List Value → Nat → List Value → List Value
  | xs, _, [] => xs
  | xs, o, v :: r => over (xs.set o v) (o + 1) r
theorem over_eq : ∀ (vs xs : List Value) (o : Nat), o + vs.length ≤ xs.length → over xs o vs = xs.take o ++ vs ++ xs.drop (o + vs.length)
  | [], xs, o, h => by simp [over]
  | v :: r, xs, o, h => by
    simp only [List.length_cons] at h
    rw [over, over_eq r (xs.set o v) (o + 1) (by rw [List.length_set]; omega), List.length_cons]
    have hlt : o < xs.length := by omega
    have h1 : (xs.set o v).take (o + 1) = xs.take o ++ [v] := by
      rw [List.take_add_one, List.take_set, List.getElem?_set_self (by omega)]
      rw [List.set_eq_of_length_le (by simp; omega)]
      rfl
    have h2 : (xs.set o v).drop (o + 1 + r.length) = xs.drop (o + (r.length + 1)) := by
      rw [List.drop_set, if_pos (by omega), show o + 1 + r.length = o + (r.length + 1) by omega]
    rw [h1, h2]
    simp
theorem own_setCells {base : Nat} {e : TypeId} {size g n cap : Nat} : ∀ (vs : List Value) (o : Nat) (w : World) (xs : List Value), w.ownsRow base e size (.slice (some ⟨g, 0, none⟩) n cap) n xs → (w.setCells g o vs).ownsRow base e size (.slice (some ⟨g, 0, none⟩) n cap) n (over xs o vs)
  | [], _, _, _, h => h
  | v :: r, o, w, xs, h => by
    rw [World.setCells, over]
    exact own_setCells r (o + 1) _ _ (h.stored o v).1
theorem own_shrink {w : World} {base : Nat} {e : TypeId} {size g n m cap : Nat} {xs : List Value} (h : w.ownsRow base e size (.slice (some ⟨g, 0, none⟩) n cap) n xs) (hm : m ≤ n) : w.ownsRow base e size (.slice (some ⟨g, 0, none⟩) m cap) m (xs.take (m * size)) := by
  have hl := h.1
  have hms : m * size ≤ n * size := Nat.mul_le_mul_right _ hm
  rcases h.2 with ⟨h', _⟩ | ⟨g', cap', cur, h', hb, hg, hnc, hcm, hcs, htake⟩
  · simp at h'
  · injection h' with e1 e2 e3
    injection e1 with e1
    injection e1 with e1
    subst e1 e3
    exact ⟨by rw [List.length_take]; omega, .inr ⟨g, cap, cur, rfl, hb, hg, by omega, hcm, hcs, by rw [← htake, List.take_take]; congr 1; omega⟩⟩
theorem clear_al (w : World) (ty : TypeId) (g o c : Nat) (h0 : (w.cell? ⟨g, o, none⟩).isSome = true) (h1 : (w.cell? ⟨g, o + 1, none⟩).isSome = true) (f0 : w.frozen? ⟨g, o, none⟩ = false) (f1 : w.frozen? ⟨g, o + 1, none⟩ = false) :
    (Builtin.clear_ #[22] ty #[.slice (some ⟨g, o, none⟩) 1 c]).run Tryz.prog w = .ok (.tuple #[]) (w.setCells g o [.string ⟨#[]⟩, .string ⟨#[]⟩]) := by
  have hz : (zeroValue 47).run Tryz.prog w = .ok (.agg #[.string ⟨#[]⟩, .string ⟨#[]⟩]) w := by kernel_rfl
  have hst := run_storeCells_cells (P := Tryz.prog) g o [.string ⟨#[]⟩, .string ⟨#[]⟩] 0 w (fun j hj => by
      match j, hj with
      | 0, _ => exact h0
      | 1, _ => exact h1
      | n + 2, h => simp at h; omega) (fun j hj => by
      match j, hj with
      | 0, _ => exact f0
      | 1, _ => exact f1
      | n + 2, h => simp at h; omega) (by intro v hv; simp at hv; rcases hv with rfl | rfl <;> rfl)
  simp only [Nat.add_zero] at hst
  have hzc : (Builtin.zeroCells (Value.agg #[.string ⟨#[]⟩, .string ⟨#[]⟩]).cells 1).toList = [.string ⟨#[]⟩, .string ⟨#[]⟩] := by kernel_rfl
  simp [Builtin.clear_, run_underlying Tryz.underlying22, hz, hzc, hst]
set_option maxRecDepth 100000 in
set_option maxHeartbeats 4000000 in
theorem Delete_any (base : Nat) (v : Value) (ts : List Tr) (i : Nat) (w : World) (hown : w.ownsRow base 47 2 v ts.length (tcells ts)) (hi : i < ts.length) (hn : ts.length ≤ 1000) :
    Calls Tryz.prog 31 #[v, .int .i64 i, .int .i64 ((i : Int) + 1)] w fun e w' => ∃ v', e = .returned v' ∧ w'.ownsRow base 47 2 v' (ts.length - 1) (tcells (ts.take i ++ ts.drop (i + 1))) ∧ Below base w w' := by
  obtain ⟨i0, hi0, hz0, hzs, hzb⟩ := info_parts infoAl
  obtain ⟨g, cap, rfl, hcell⟩ := row_some hown (by omega)
  have hgb := (hown.lt g rfl).1
  obtain ⟨n, hnn⟩ : ∃ n, n = ts.length := ⟨_, rfl⟩
  have hcap : n ≤ cap := by
    rcases hown.2 with ⟨h', _⟩ | ⟨g', cap', cur, h', hb, hg, hnc, hcm, hcs, htake⟩
    · simp at h'
    · injection h' with e1 e2 e3
      omega
  rw [← hnn] at hown hi hn ⊢
  have htl : (tcells ts).length = n * 2 := by rw [tcells_length, hnn]
  obtain ⟨news, hnews⟩ : ∃ news, news = (tcells ts).drop ((i + 1) * 2) := ⟨_, rfl⟩
  have hnl : news.length = (n - (i + 1)) * 2 := by rw [hnews, List.length_drop, htl]; omega
  obtain ⟨A, hA, hsrc⟩ : ∃ A : Addr, (if cap = i + 1 then some (⟨g, 0, none⟩ : Addr) else some ⟨g, (i + 1) * 2, none⟩) = some A ∧ Hid (∀ t u, news[t]? = some u → w.drew.cell? (A.add t) = some u) := by
    by_cases h : cap = i + 1
    · refine ⟨⟨g, 0, none⟩, by simp [h], fun t u hu => ?_⟩
      have h0 : news.length = 0 := by rw [hnl]; omega
      rw [List.length_eq_zero_iff.1 h0] at hu
      simp at hu
    · refine ⟨⟨g, (i + 1) * 2, none⟩, by simp [h], fun t u hu => ?_⟩
      rw [hnews, List.getElem?_drop] at hu
      rw [show (⟨g, (i + 1) * 2, none⟩ : Addr).add t = ⟨g, (i + 1) * 2 + t, none⟩ by unfold Addr.add; split <;> simp_all]
      exact hcell _ _ hu
  have s1 : Hid (news.length = (n - (i + 1)) * 2) := hnl
  have s2 : Hid (∀ u ∈ news, u.oneCell' = true) := fun u hu => by rw [hnews] at hu; exact tcells_one ts u (List.mem_of_mem_drop hu)
  have hex : ∀ t, t < n * 2 → (w.cell? ⟨g, t, none⟩).isSome = true := fun t ht => by rw [hcell t _ (List.getElem?_eq_getElem (by omega))]; rfl
  have s3 : Hid (∀ t, t < news.length → (w.drew.cell? ⟨g, 0 + i * 2 + t, none⟩).isSome = true ∧ w.drew.frozen? ⟨g, 0 + i * 2 + t, none⟩ = false) := by
    intro t ht
    rw [hnl] at ht
    exact ⟨hex _ (by omega), hown.frozenAt _⟩
  obtain ⟨W1, hW1⟩ : ∃ W1, W1 = w.drew.setCells g (0 + i * 2) news := ⟨_, rfl⟩
  have hown1 : W1.ownsRow base 47 2 (.slice (some ⟨g, 0, none⟩) n cap) n (over (tcells ts) (0 + i * 2) news) := by rw [hW1]; exact own_setCells news _ _ _ hown.drew
  have hl1 : (over (tcells ts) (0 + i * 2) news).length = n * 2 := hown1.1
  have hex1 : ∀ t, t < n * 2 → (W1.cell? ⟨g, t, none⟩).isSome = true := fun t ht => by rw [hown1.cellAt t ht, List.getElem?_eq_getElem (by omega)]; rfl
  have hcl : ∀ ty, (Builtin.clear_ #[22] ty #[.slice (some ⟨g, (i + (n - (i + 1))) * 2, none⟩) (n - (i + (n - (i + 1)))) (cap - (i + (n - (i + 1))))]).run Tryz.prog W1 = .ok (.tuple #[]) (W1.setCells g ((n - 1) * 2) [.string ⟨#[]⟩, .string ⟨#[]⟩]) :=
    fun ty => by rw [show i + (n - (i + 1)) = n - 1 by omega, show n - (n - 1) = 1 by omega]; exact clear_al W1 ty g ((n - 1) * 2) _ (hex1 _ (by omega)) (hex1 _ (by omega)) (hown1.frozenAt _) (hown1.frozenAt _)
  have hown2 := own_setCells [.string ⟨#[]⟩, .string ⟨#[]⟩] ((n - 1) * 2) _ _ hown1
  have hown3 := own_shrink hown2 (show n - 1 ≤ n by omega)
  have hfin : (over (over (tcells ts) (0 + i * 2) news) ((n - 1) * 2) [.string ⟨#[]⟩, .string ⟨#[]⟩]).take ((n - 1) * 2) = tcells (ts.take i ++ ts.drop (i + 1)) := by
    rw [over_eq _ _ _ (by rw [hl1]; simp; omega), List.append_assoc, List.take_append_of_le_length (by rw [List.length_take, hl1]; omega), List.take_take, Nat.min_self, over_eq _ _ _ (by rw [hnl, htl]; omega), tcells_append, tcells_take, tcells_drop, ← hnews, Nat.zero_add]
    rw [List.take_append_of_le_length (by rw [List.length_append, List.length_take, htl, hnl]; omega), List.take_of_length_le (by rw [List.length_append, List.length_take, htl, hnl]; omega)]
  rw [hfin] at hown3
  have HO3 := Lib.hid hown3
  have HB3 := Lib.hid (show Below base w (W1.setCells g ((n - 1) * 2) [.string ⟨#[]⟩, .string ⟨#[]⟩]) from by
    refine Lib.below_setCells g hgb _ _ ?_
    rw [hW1]
    exact Lib.below_setCells g hgb _ _ (Below.refl _ _).drew)
  have hW : Hid (W1 = w.drew.setCells g (0 + i * 2) news) := hW1
  have hic : i ≤ cap := by omega
  have hjc : i + 1 ≤ cap := by omega
  have hjn : i + 1 ≤ n := by omega
  have hne : ((i : Int) == (i : Int) + 1) = false := by rw [beq_eq_false_iff_ne]; omega
  have k4 : (0 : Int) ≤ (i : Int) + 1 := by omega
  have k5 : (i : Int) + 1 ≤ (n : Int) := by omega
  have k8 : ((i : Int) + 1).toNat = i + 1 := by omega
  have k9 : ¬ cap = i := by omega
  have k10 : ¬ cap = i + (n - (i + 1)) := by omega
  have k11 : i + (n - (i + 1)) ≤ n := by omega
  clear hW1 hown1 hown2 hown3 hfin hex hex1 hl1 hnl htl hnews hcell hown hgb hnn
  go_enter Tryz.func31, Tryz.ntmps31
  go_wp2_with fail
  go_region_law (refine step_append_room rfl _ _ 22 rfl 47 i0 2 Tryz.underlying22 hi0 hzs g 0 i cap (by simp [Act.eval, Act.put]) A (n - (i + 1)) (cap - (i + 1)) news (by simp [Act.eval, Act.put]) s1.out hsrc.out s2.out (by omega) s3.out ?_; rw [← hW.out])
  have HE := Lib.hid (show i + (n - (i + 1)) = n - 1 by omega)
  go_wp2
  go_ret
  exact ⟨_, rfl, by rw [HE.out]; exact HO3.out, HB3.out⟩
set_option maxRecDepth 100000 in
set_option maxHeartbeats 4000000 in
theorem Unset_any (l : List AL.Al) (n : List UInt8) (v : Value) (w : World) (hV : TV w v l) (hz : ∀ a ∈ l, a.1.length ≤ 10000 ∧ a.2.length ≤ 10000) :
    Calls Tryz.prog 17 #[v, .string ⟨n.toArray⟩] w (LPost w (AL.unset l n)) := by
  obtain ⟨R, hR⟩ : ∃ R, AL.unset l n = R := ⟨_, rfl⟩
  rw [hR]
  unfold AL.unset at hR
  obtain ⟨A, c, rfl⟩ := hV.val
  have HV := Lib.hid hV
  have HVA := Lib.hid (Valid_any l _ w hV.as hz)
  clear hz hV
  obtain ⟨vz, hvz⟩ : ∃ vz, AL.valid l = vz := ⟨_, rfl⟩
  rw [hvz] at HVA hR
  by_cases h0 : vz = 0
  case neg =>
    rw [if_neg h0] at hR
    have e0 : (vz == 0) = false := by rw [beq_eq_false_iff_ne]; exact h0
    have e1 : (vz != 0) = true := by simp [bne, e0]
    have HRE := Lib.hid hR
    clear hR hvz h0
    go_enter Tryz.func17, Tryz.ntmps17
    go_wp2_with fail
    refine HVA.out.mono ?_
    rintro e w1 ⟨rfl, hb⟩
    have HB := Lib.hid hb
    clear hb
    go_wp2
    go_ret2
    rw [← HRE.out]
    exact ⟨_, rfl, HB.out, HV.out.below HB.out⟩
  rw [if_pos h0] at hR
  subst h0
  obtain ⟨g1, g2, g3⟩ := (AL.valid_zero l).1 hvz
  have HPL := Lib.hid (fun V (hA : AS V (.slice A l.length c) l) => place_any l n (.slice A l.length c) V hA g3 g1)
  have HG1 := Lib.hid g1
  have HR := Lib.hid hR
  obtain ⟨q1, q2, q3, q4⟩ := AL.at_pos g3 n
  have HLT := Lib.hid (AL.low_take g3 n)
  obtain ⟨p, hp⟩ : ∃ p, p = (AL.low l n).length := ⟨_, rfl⟩
  have HPD := Lib.hid (show AL.del l n = AL.low l n ++ l.drop (p + 1) by unfold AL.del; rw [hp])
  rw [← hp] at HPL q1 q4 HLT
  have p0 : (0 : Int) ≤ (p : Int) := by omega
  have HQ1 := Lib.hid q1
  have HQ4 := Lib.hid q4
  clear hR hvz g1 g2 g3 q1 q2 q3 q4 hp
  cases hg : AL.get l n with
  | none =>
    rw [hg] at HPL
    have HRE := Lib.hid (show (l, (8 : Int)) = R from by rw [← HR.out, if_pos hg])
    clear hg
    go_enter Tryz.func17, Tryz.ntmps17
    go_wp2_with fail
    refine HVA.out.mono ?_
    rintro e w1 ⟨rfl, hb⟩
    have HB := Lib.hid hb
    clear hb
    have HP1 := Lib.hid (HPL.out w1 (HV.out.below HB.out).as)
    go_wp2_with fail
    refine HP1.out.mono ?_
    rintro e w2 ⟨rfl, hb⟩
    have HB2 := Lib.hid (btr HB.out hb)
    clear hb
    go_wp2
    go_ret2
    rw [← HRE.out]
    exact ⟨_, rfl, HB2.out, HV.out.below HB2.out⟩
  | some o =>
    have HLT2 := Lib.hid (show p < l.length from by
      rcases Nat.lt_or_ge p l.length with h | h
      · exact h
      · have := HQ4.out (by have := HQ1.out; omega)
        rw [hg] at this
        cases this)
    rw [hg] at HPL
    have HRE := Lib.hid (show (l.take p ++ l.drop (p + 1), (0 : Int)) = R from by rw [← HR.out, if_neg (by rw [hg]; simp), HPD.out, HLT.out])
    have hp64 : (p : Int) ≤ 64 := by have := HLT2.out; have := HG1.out; omega
    clear hg
    go_enter Tryz.func17, Tryz.ntmps17
    go_wp2_with fail
    refine HVA.out.mono ?_
    rintro e w1 ⟨rfl, hb⟩
    have HB := Lib.hid hb
    clear hb
    have HP1 := Lib.hid (HPL.out w1 (HV.out.below HB.out).as)
    go_wp2_with fail
    refine HP1.out.mono ?_
    rintro e w2 ⟨rfl, hb⟩
    have HB2 := Lib.hid (btr HB.out hb)
    clear hb
    have HCL := Lib.hid (Clone_any (.slice A l.length c) l w2 (HV.out.below HB2.out) (by have := HG1.out; omega))
    go_wp2_with fail
    refine HCL.out.mono ?_
    rintro e w4 ⟨v4, rfl, hown, hb⟩
    have HB4 := Lib.hid (btr HB2.out hb)
    have HDEL := Lib.hid (Delete_any w2.heap.size v4 l p w4 hown HLT2.out (by have := HG1.out; omega))
    have HBW := Lib.hid hb
    clear hown hb
    go_wp2_with fail
    refine HDEL.out.mono ?_
    rintro e w5 ⟨v5, rfl, hown5, hb5⟩
    have HB5 := Lib.hid (HB2.out.trans ((HBW.out.trans hb5).mono HB2.out.size))
    have HT5 := Lib.hid (TV.own hown5)
    clear hown5 hb5
    go_wp2
    go_ret2
    rw [← HRE.out]
    exact ⟨_, rfl, HB5.out, HT5.out⟩
end W
end Go.Proofs.YtelhobphphkidaaGreatDoor
