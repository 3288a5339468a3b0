/- Several texts in one: W09e W09h. -/
import Derived.Test.YtcbdhheelddgeaaGreatDoorZD
import Derived.Test.YtcbdhheelddgeaaGreatDoorZC
import Derived.Deep.DeepCutAuto
import Derived.Laws.StructEq
import Derived.Lib.SliceRun
import Derived.Lib.SlBuf
namespace Go.Proofs.YtcbdhheelddgeaaGreatDoor
open Go.RowKit K
namespace K
theorem tcells_set : ∀ (L : List Tr) (i : Nat) (a : Tr), tcells (L.set i a) = ((tcells L).set (i * 2) (.string ⟨a.1.toArray⟩)).set (i * 2 + 1) (.string ⟨a.2.toArray⟩)
 | [], _, _ => by simp [tcells]
 | t :: r, 0, a => by simp [tcells]
 | t :: r, i + 1, a => by
  rw [List.set_cons_succ, tcells, tcells_set r i a, tcells, show (i + 1) * 2 = i * 2 + 1 + 1 by omega]
  rfl
end K
namespace AL
theorem ins_set {l : List Al} (h : Sorted l) (n v : Str) : ins l n v = (if (get l n).isSome = true then l else putAt l (low l n).length ([], [])).set (low l n).length (n, v) := by
 obtain ⟨A, B, s⟩ := split n h
 rw [s.ins, s.low_eq]
 have e := s.eq
 cases hg : get l n with
 | none =>
  rw [hg, List.nil_append] at e
  rw [e]
  simp [putAt]
 | some u =>
  rw [hg] at e
  rw [e]
  simp
end AL
namespace K
theorem TV.as {w : World} {v : Value} {l : List AL.Al} (h : TV w v l) : W.AS w v l := by
 obtain ⟨A, c, h1, h2, h3, h4, h5⟩ := h
 refine ⟨A, c, h1, h2, by unfold maxLen; exact h3, fun k a ha => ?_⟩
 obtain ⟨hk, hka⟩ := List.getElem?_eq_some_iff.1 ha
 obtain ⟨b, off, e1, e2, e3, e4⟩ := h5.get hk
 have : l.getD k ([], []) = a := by rw [List.getD_eq_getElem?_getD, ha]; rfl
 rw [this] at e3 e4
 exact ⟨b, off, e1, e2, e3, e4⟩
theorem TV.val {w : World} {v : Value} {l : List AL.Al} (h : TV w v l) : ∃ A c, v = .slice A l.length c := by
 obtain ⟨A, c, h1, -⟩ := h
 exact ⟨A, c, h1⟩
end K
namespace W
/-- A list of aliases and an error come back. -/
def LPost (w : World) (r : List AL.Al × Int) (e : Ending) (w' : World) : Prop := ∃ v, e = .returned (.tuple #[v, .int .i64 r.2]) ∧ Below w.heap.size w w' ∧ TV w' v r.1
theorem row_some {w : World} {B : Nat} {e : TypeId} {k : Nat} {v : Value} {n : Nat} {xs : List Value} (h : w.ownsRow B e k v n xs) (hn : 0 < n) : ∃ q c, v = .slice (some ⟨q, 0, none⟩) n c ∧ ∀ j u, xs[j]? = some u → w.cell? ⟨q, j, none⟩ = some u := by
 rcases h.2 with e | ⟨q, cap, cur, hv, h2⟩
 ·omega
 ·refine ⟨q, cap, hv, fun j u hj => ?_⟩
  have := h.cells (g := q) (by rw [hv]; rfl) j u hj
  rw [show (⟨q, j, none⟩ : Addr) = (⟨q, 0, none⟩ : Addr).add j by cases j <;> simp [Addr.add]]
  exact this
set_option maxRecDepth 100000 in
set_option maxHeartbeats 8000000 in
theorem Set_any (l : List AL.Al) (n u : List UInt8) (v : Value) (w : World) (hV : TV w v l) (hz : ∀ a ∈ l, a.1.length ≤ 10000 ∧ a.2.length ≤ 10000) (hn : n.length ≤ 10000) (hu : u.length ≤ 10000) :
  Calls Tryz.prog 8 #[v, .string ⟨n.toArray⟩, .string ⟨u.toArray⟩] w (LPost w (AL.set l n u)) := by
 obtain ⟨R, hR⟩ : ∃ R, AL.set l n u = R := ⟨_, rfl⟩
 rw [hR]
 unfold AL.set at hR
 obtain ⟨A, c, rfl⟩ := hV.val
 have HV := Lib.hid hV
 have HVA := Lib.hid (Valid_any l _ w hV.as hz)
 have HN := Lib.hid (fun V => named_any n V (by omega))
 obtain ⟨m, hm⟩ : ∃ m, m = l.length := ⟨_, rfl⟩
 have HM := Lib.hid hm
 have hmn : (0 : Int) ≤ (m : Int) := by omega
 rw [← hm] at HVA ⊢
 clear hz hV hm
 obtain ⟨vz, hvz⟩ : ∃ vz, AL.valid l = vz := ⟨_, rfl⟩
 rw [hvz] at HVA hR
 by_cases h0 : vz = 0
 case neg =>
  rw [if_neg h0] at hR
  have e0 : (vz == 0) = false := by rw [beq_eq_false_iff_ne]; exact h0
  have e1 : (vz != 0) = true := by simp [bne, e0]
  have HRE := Lib.hid hR
  clear hR hvz h0
  go_enter Tryz.func8, Tryz.ntmps8
  go_wp2_with fail
  refine HVA.out.mono ?_
  rintro e w1 ⟨rfl, hb⟩
  have HB := Lib.hid hb
  clear hb
  go_wp2
  go_ret2
  rw [← HRE.out]
  exact ⟨_, rfl, HB.out, HM.out ▸ HV.out.below HB.out⟩
 rw [if_pos h0] at hR
 subst h0
 obtain ⟨g1, g2, g3⟩ := (AL.valid_zero l).1 hvz
 have HPL := Lib.hid (fun V (hA : AS V (.slice A m c) l) => place_any l n (.slice A m c) V hA g3 g1)
 have HS3 := Lib.hid g3
 have m64 : (m : Int) ≤ 64 := by have := HM.out; omega
 obtain ⟨bn, hbn⟩ : ∃ bn, AL.named n = bn := ⟨_, rfl⟩
 rw [hbn] at HN hR
 clear g1 g2 g3 hvz hbn
 cases bn with
 | false =>
  have HRE := Lib.hid (show (l, (10 : Int)) = R from by rw [← hR, if_pos rfl])
  clear hR
  go_enter Tryz.func8, Tryz.ntmps8
  go_wp2_with fail
  refine HVA.out.mono ?_
  rintro e w1 ⟨rfl, hb⟩
  have HB := Lib.hid hb
  clear hb
  go_wp2_with fail
  refine (HN.out _).mono ?_
  rintro e w2 ⟨rfl, hb⟩
  have HB2 := Lib.hid (btr HB.out hb)
  clear hb
  go_wp2
  go_ret2
  rw [← HRE.out]
  exact ⟨_, rfl, HB2.out, HM.out ▸ HV.out.below HB2.out⟩
 | true =>
  rw [if_neg (by decide)] at hR
  by_cases h4 : 4096 < u.length
  ·have t4 : ((4096 : Int) < (u.length : Int)) = True := eq_true (by omega)
   have HRE := Lib.hid (show (l, (3 : Int)) = R from by rw [← hR, if_pos h4])
   clear hR h4
   go_enter Tryz.func8, Tryz.ntmps8
   go_wp2_with fail
   refine HVA.out.mono ?_
   rintro e w1 ⟨rfl, hb⟩
   have HB := Lib.hid hb
   clear hb
   go_wp2_with fail
   refine (HN.out _).mono ?_
   rintro e w2 ⟨rfl, hb⟩
   have HB2 := Lib.hid (btr HB.out hb)
   clear hb
   go_wp2
   go_ret2
   rw [← HRE.out]
   exact ⟨_, rfl, HB2.out, HM.out ▸ HV.out.below HB2.out⟩
  rw [if_neg h4] at hR
  have t4 : ((4096 : Int) < (u.length : Int)) = False := eq_false (by omega)
  have HR := Lib.hid hR
  have HI := Lib.hid (AL.ins_set HS3.out n u)
  obtain ⟨q1, q2, q3, q4⟩ := AL.at_pos HS3.out n
  obtain ⟨p, hp⟩ : ∃ p, p = (AL.low l n).length := ⟨_, rfl⟩
  rw [← hp] at HPL HI q1 q4
  have HP := Lib.hid (show p ≤ l.length from q1)
  have p0 : (0 : Int) ≤ (p : Int) := by omega
  clear hR h4 q2 q3 hp
  cases hg : AL.get l n with
  | none =>
   rw [hg] at HPL HI
   have HGN := Lib.hid hg
   clear hg q1 q4
   by_cases h64 : m = 64
   ·have t6 : ((m : Int) == 64) = true := by rw [beq_iff_eq]; omega
    have HRE := Lib.hid (show (l, (4 : Int)) = R from by rw [← HR.out, if_pos ⟨HGN.out, by rw [← HM.out]; exact h64⟩])
    clear h64
    go_enter Tryz.func8, Tryz.ntmps8
    go_wp2_with fail
    refine HVA.out.mono ?_
    rintro e w1 ⟨rfl, hb⟩
    have HB := Lib.hid hb
    clear hb
    go_wp2_with fail
    refine (HN.out _).mono ?_
    rintro e w2 ⟨rfl, hb⟩
    have HB2 := Lib.hid (btr HB.out hb)
    clear hb
    have HPP := Lib.hid (HPL.out w2 (HM.out ▸ (HV.out.below HB2.out).as))
    go_wp2_with fail
    refine HPP.out.mono ?_
    rintro e w3 ⟨rfl, hb⟩
    have HB3 := Lib.hid (btr HB2.out hb)
    clear hb
    go_wp2
    go_ret2
    rw [← HRE.out]
    exact ⟨_, rfl, HB3.out, HM.out ▸ HV.out.below HB3.out⟩
   have t6 : ((m : Int) == 64) = false := by rw [beq_eq_false_iff_ne]; omega
   have HRE := Lib.hid (show ((putAt l p ([], [])).set p (n, u), (0 : Int)) = R from by rw [← HR.out, if_neg (fun e => h64 (by rw [HM.out]; exact e.2)), HI.out]; rfl)
   clear h64
   go_enter Tryz.func8, Tryz.ntmps8
   go_wp2_with fail
   refine HVA.out.mono ?_
   rintro e w1 ⟨rfl, hb⟩
   have HB := Lib.hid hb
   clear hb
   go_wp2_with fail
   refine (HN.out _).mono ?_
   rintro e w2 ⟨rfl, hb⟩
   have HB2 := Lib.hid (btr HB.out hb)
   clear hb
   have HPP := Lib.hid (HPL.out w2 (HM.out ▸ (HV.out.below HB2.out).as))
   go_wp2_with fail
   refine HPP.out.mono ?_
   rintro e w3 ⟨rfl, hb⟩
   have HB3 := Lib.hid (btr HB2.out hb)
   clear hb
   have HCL := Lib.hid (Clone_any (.slice A m c) l w3 (HM.out ▸ HV.out.below HB3.out) (by have := HM.out; omega))
   go_wp2_with fail
   refine HCL.out.mono ?_
   rintro e w4 ⟨v4, rfl, hown, hb⟩
   have HB4 := Lib.hid (btr HB3.out hb)
   obtain ⟨A4, c4, rfl⟩ := (TV.own hown).val
   have hob := hown.lt
   have hrow2 : (w4.alloc (.cells #[.string ⟨#[]⟩, .string ⟨#[]⟩] 32)).ownsRow w3.heap.size 32 2 (.slice A4 l.length c4) l.length (tcells l) := hown.alloc _
   have HINS := Lib.hid (Insert_any w3.heap.size (.slice A4 l.length c4) l p w4.heap.size [] [] (w4.alloc (.cells #[.string ⟨#[]⟩, .string ⟨#[]⟩] 32)) hrow2 HP.out (by have := HM.out; omega) (by have := hb.size; simp; omega) (al_new _ _) (fun e => by have := (hob _ e).2; omega))
   rw [← HM.out] at HINS
   have HBW := Lib.hid hb
   rw [← HM.out]
   clear hown hb hob hrow2
   go_wp2_with fail
   refine HINS.out.mono ?_
   rintro e w5 ⟨v5, rfl, hown5, hb5⟩
   have hlt : p < m + 1 := by have := HP.out; have := HM.out; omega
   obtain ⟨q, c5, rfl, hcell⟩ := row_some hown5 (by omega)
   obtain ⟨s1, -⟩ := hown5.stored (p * 2) (.string ⟨n.toArray⟩)
   obtain ⟨s2, -⟩ := s1.stored (p * 2 + 1) (.string ⟨u.toArray⟩)
   have hqb := (hown5.lt q rfl).1
   have f0 := hown5.frozenAt (p * 2)
   have f1 := hown5.frozenAt (p * 2 + 1)
   have hxl := hown5.1
   have x0 := hcell (p * 2) _ (List.getElem?_eq_getElem (by omega))
   have x1 := hcell (p * 2 + 1) _ (List.getElem?_eq_getElem (by omega))
   generalize (tcells (putAt l p ([], [])))[p * 2] = y0 at x0
   generalize (tcells (putAt l p ([], [])))[p * 2 + 1] = y1 at x1
   rw [← tcells_set _ p (n, u)] at s2
   have HFIN := Lib.hid s2
   have HB5 := Lib.hid (show Below w.heap.size w ((w5.setCell ⟨q, p * 2, none⟩ (.string ⟨n.toArray⟩)).setCell ⟨q, p * 2 + 1, none⟩ (.string ⟨u.toArray⟩)) from by
    have h3 := HB3.out.size
    have h5 : Below w.heap.size w w5 := (HB3.out.trans ((((HBW.out.trans ((balloc w4 _).mono HBW.out.size)).trans hb5)).mono h3))
    exact (h5.setCell (by dsimp only; omega) _).setCell (by dsimp only; omega) _)
   clear hown5 hb5 hcell s1 s2 hqb hxl
   go_wp2
   go_ret2
   rw [← HRE.out]
   exact ⟨_, rfl, HB5.out, TV.own HFIN.out⟩
  | some o =>
   rw [hg] at HPL HI
   have HGN := Lib.hid hg
   have HLT := Lib.hid (show p < m from by
    rcases Nat.lt_or_ge p m with h | h
    ·exact h
    ·have := q4 (by have := HM.out; omega)
     rw [hg] at this
     cases this)
   clear hg q1 q4
   have HRE := Lib.hid (show (l.set p (n, u), (0 : Int)) = R from by rw [← HR.out, if_neg (fun e => by rw [HGN.out] at e; cases e.1), HI.out]; rfl)
   go_enter Tryz.func8, Tryz.ntmps8
   go_wp2_with fail
   refine HVA.out.mono ?_
   rintro e w1 ⟨rfl, hb⟩
   have HB := Lib.hid hb
   clear hb
   go_wp2_with fail
   refine (HN.out _).mono ?_
   rintro e w2 ⟨rfl, hb⟩
   have HB2 := Lib.hid (btr HB.out hb)
   clear hb
   have HPP := Lib.hid (HPL.out w2 (HM.out ▸ (HV.out.below HB2.out).as))
   go_wp2_with fail
   refine HPP.out.mono ?_
   rintro e w3 ⟨rfl, hb⟩
   have HB3 := Lib.hid (btr HB2.out hb)
   clear hb
   have HCL := Lib.hid (Clone_any (.slice A m c) l w3 (HM.out ▸ HV.out.below HB3.out) (by have := HM.out; omega))
   go_wp2_with fail
   refine HCL.out.mono ?_
   rintro e w4 ⟨v4, rfl, hown, hb⟩
   have HB4 := Lib.hid (btr HB3.out hb)
   have hown5 := hown
   rw [← HM.out] at hown5
   have hlt := HLT.out
   obtain ⟨q, c5, rfl, hcell⟩ := row_some hown5 (by omega)
   obtain ⟨s1, -⟩ := hown5.stored (p * 2) (.string ⟨n.toArray⟩)
   obtain ⟨s2, -⟩ := s1.stored (p * 2 + 1) (.string ⟨u.toArray⟩)
   have hqb := (hown5.lt q rfl).1
   have f0 := hown5.frozenAt (p * 2)
   have f1 := hown5.frozenAt (p * 2 + 1)
   have hxl := hown5.1
   have x0 := hcell (p * 2) _ (List.getElem?_eq_getElem (by omega))
   have x1 := hcell (p * 2 + 1) _ (List.getElem?_eq_getElem (by omega))
   generalize (tcells l)[p * 2] = y0 at x0
   generalize (tcells l)[p * 2 + 1] = y1 at x1
   rw [← tcells_set _ p (n, u)] at s2
   have HFIN := Lib.hid s2
   have HB5 := Lib.hid (show Below w.heap.size w ((w4.setCell ⟨q, p * 2, none⟩ (.string ⟨n.toArray⟩)).setCell ⟨q, p * 2 + 1, none⟩ (.string ⟨u.toArray⟩)) from by
    have h3 := HB3.out.size
    exact (HB4.out.setCell (by dsimp only; omega) _).setCell (by dsimp only; omega) _)
   clear hown hb hown5 hcell s1 s2 hqb hxl
   go_wp2
   go_ret2
   rw [← HRE.out]
   exact ⟨_, rfl, HB5.out, TV.own HFIN.out⟩
end W
namespace AL
theorem low_take {l : List Al} (h : Sorted l) (n : Str) : low l n = l.take (low l n).length := by
 obtain ⟨A, B, s⟩ := split n h
 rw [s.low_eq]
 conv => rhs; rw [s.eq]
 simp
end AL
end Go.Proofs.YtcbdhheelddgeaaGreatDoor
namespace Go.Proofs.YtcbdhheelddgeaaGreatDoor
open Go.RowKit K
namespace W
def over : List Value → Nat → List Value → List Value
 | xs, _, [] => xs
 | xs, o, v :: r => over (xs.set o v) (o + 1) r
theorem over_eq : ∀ (vs xs : List Value) (o : Nat), o + vs.length ≤ xs.length → over xs o vs = xs.take o ++ vs ++ xs.drop (o + vs.length)
 | [], xs, o, h => by simp [over]
 | v :: r, xs, o, h => by
  simp only [List.length_cons] at h
  rw [over, over_eq r (xs.set o v) (o + 1) (by rw [List.length_set]; omega), List.length_cons]
  have hlt : o < xs.length := by omega
  have h1 : (xs.set o v).take (o + 1) = xs.take o ++ [v] := by
   rw [List.take_add_one, List.take_set, List.getElem?_set_self (by omega)]
   rw [List.set_eq_of_length_le (by simp; omega)]
   rfl
  have h2 : (xs.set o v).drop (o + 1 + r.length) = xs.drop (o + (r.length + 1)) := by
   rw [List.drop_set, if_pos (by omega), show o + 1 + r.length = o + (r.length + 1) by omega]
  rw [h1, h2]
  simp
theorem own_setCells {base : Nat} {e : TypeId} {size g n cap : Nat} : ∀ (vs : List Value) (o : Nat) (w : World) (xs : List Value), w.ownsRow base e size (.slice (some ⟨g, 0, none⟩) n cap) n xs → (w.setCells g o vs).ownsRow base e size (.slice (some ⟨g, 0, none⟩) n cap) n (over xs o vs)
 | [], _, _, _, h => h
 | v :: r, o, w, xs, h => by
  rw [World.setCells, over]
  exact own_setCells r (o + 1) _ _ (h.stored o v).1
theorem own_shrink {w : World} {base : Nat} {e : TypeId} {size g n m cap : Nat} {xs : List Value} (h : w.ownsRow base e size (.slice (some ⟨g, 0, none⟩) n cap) n xs) (hm : m ≤ n) : w.ownsRow base e size (.slice (some ⟨g, 0, none⟩) m cap) m (xs.take (m * size)) := by
 have hl := h.1
 have hms : m * size ≤ n * size := Nat.mul_le_mul_right _ hm
 rcases h.2 with ⟨h', _⟩ | ⟨g', cap', cur, h', hb, hg, hnc, hcm, hcs, htake⟩
 ·simp at h'
 ·injection h' with e1 e2 e3
  injection e1 with e1
  injection e1 with e1
  subst e1 e3
  exact ⟨by rw [List.length_take]; omega, .inr ⟨g, cap, cur, rfl, hb, hg, by omega, hcm, hcs, by rw [← htake, List.take_take]; congr 1; omega⟩⟩
theorem clear_al (w : World) (ty : TypeId) (g o c : Nat) (h0 : (w.cell? ⟨g, o, none⟩).isSome = true) (h1 : (w.cell? ⟨g, o + 1, none⟩).isSome = true) (f0 : w.frozen? ⟨g, o, none⟩ = false) (f1 : w.frozen? ⟨g, o + 1, none⟩ = false) :
  (Builtin.clear_ #[22] ty #[.slice (some ⟨g, o, none⟩) 1 c]).run Tryz.prog w = .ok (.tuple #[]) (w.setCells g o [.string ⟨#[]⟩, .string ⟨#[]⟩]) := by
 have hz : (zeroValue 32).run Tryz.prog w = .ok (.agg #[.string ⟨#[]⟩, .string ⟨#[]⟩]) w := by kernel_rfl
 have hst := run_storeCells_cells (P := Tryz.prog) g o [.string ⟨#[]⟩, .string ⟨#[]⟩] 0 w (fun j hj => by
   match j, hj with
   | 0, _ => exact h0
   | 1, _ => exact h1
   | n + 2, h => simp at h; omega) (fun j hj => by
   match j, hj with
   | 0, _ => exact f0
   | 1, _ => exact f1
   | n + 2, h => simp at h; omega) (by intro v hv; simp at hv; rcases hv with rfl | rfl <;> rfl)
 simp only [Nat.add_zero] at hst
 have hzc : (Builtin.zeroCells (Value.agg #[.string ⟨#[]⟩, .string ⟨#[]⟩]).cells 1).toList = [.string ⟨#[]⟩, .string ⟨#[]⟩] := by kernel_rfl
 simp [Builtin.clear_, run_underlying Tryz.underlying22, hz, hzc, hst]
set_option maxRecDepth 100000 in
set_option maxHeartbeats 4000000 in
theorem Delete_any (base : Nat) (v : Value) (ts : List Tr) (i : Nat) (w : World) (hown : w.ownsRow base 32 2 v ts.length (tcells ts)) (hi : i < ts.length) (hn : ts.length ≤ 1000) :
  Calls Tryz.prog 23 #[v, .int .i64 i, .int .i64 ((i : Int) + 1)] w fun e w' => ∃ v', e = .returned v' ∧ w'.ownsRow base 32 2 v' (ts.length - 1) (tcells (ts.take i ++ ts.drop (i + 1))) ∧ Below base w w' := by
 obtain ⟨i0, hi0, hz0, hzs, hzb⟩ := info_parts infoAl
 obtain ⟨g, cap, rfl, hcell⟩ := row_some hown (by omega)
 have hgb := (hown.lt g rfl).1
 obtain ⟨n, hnn⟩ : ∃ n, n = ts.length := ⟨_, rfl⟩
 have hcap : n ≤ cap := by
  rcases hown.2 with ⟨h', _⟩ | ⟨g', cap', cur, h', hb, hg, hnc, hcm, hcs, htake⟩
  ·simp at h'
  ·injection h' with e1 e2 e3
   omega
 rw [← hnn] at hown hi hn ⊢
 have htl : (tcells ts).length = n * 2 := by rw [tcells_length, hnn]
 obtain ⟨news, hnews⟩ : ∃ news, news = (tcells ts).drop ((i + 1) * 2) := ⟨_, rfl⟩
 have hnl : news.length = (n - (i + 1)) * 2 := by rw [hnews, List.length_drop, htl]; omega
 obtain ⟨A, hA, hsrc⟩ : ∃ A : Addr, (if cap = i + 1 then some (⟨g, 0, none⟩ : Addr) else some ⟨g, (i + 1) * 2, none⟩) = some A ∧ Hid (∀ t u, news[t]? = some u → w.drew.cell? (A.add t) = some u) := by
  by_cases h : cap = i + 1
  ·refine ⟨⟨g, 0, none⟩, by simp [h], fun t u hu => ?_⟩
   have h0 : news.length = 0 := by rw [hnl]; omega
   rw [List.length_eq_zero_iff.1 h0] at hu
   simp at hu
  ·refine ⟨⟨g, (i + 1) * 2, none⟩, by simp [h], fun t u hu => ?_⟩
   rw [hnews, List.getElem?_drop] at hu
   rw [show (⟨g, (i + 1) * 2, none⟩ : Addr).add t = ⟨g, (i + 1) * 2 + t, none⟩ by unfold Addr.add; split <;> simp_all]
   exact hcell _ _ hu
 have s1 : Hid (news.length = (n - (i + 1)) * 2) := hnl
 have s2 : Hid (∀ u ∈ news, u.oneCell' = true) := fun u hu => by rw [hnews] at hu; exact tcells_one ts u (List.mem_of_mem_drop hu)
 have hex : ∀ t, t < n * 2 → (w.cell? ⟨g, t, none⟩).isSome = true := fun t ht => by rw [hcell t _ (List.getElem?_eq_getElem (by omega))]; rfl
 have s3 : Hid (∀ t, t < news.length → (w.drew.cell? ⟨g, 0 + i * 2 + t, none⟩).isSome = true ∧ w.drew.frozen? ⟨g, 0 + i * 2 + t, none⟩ = false) := by
  intro t ht
  rw [hnl] at ht
  exact ⟨hex _ (by omega), hown.frozenAt _⟩
 obtain ⟨W1, hW1⟩ : ∃ W1, W1 = w.drew.setCells g (0 + i * 2) news := ⟨_, rfl⟩
 have hown1 : W1.ownsRow base 32 2 (.slice (some ⟨g, 0, none⟩) n cap) n (over (tcells ts) (0 + i * 2) news) := by rw [hW1]; exact own_setCells news _ _ _ hown.drew
 have hl1 : (over (tcells ts) (0 + i * 2) news).length = n * 2 := hown1.1
 have hex1 : ∀ t, t < n * 2 → (W1.cell? ⟨g, t, none⟩).isSome = true := fun t ht => by rw [hown1.cellAt t ht, List.getElem?_eq_getElem (by omega)]; rfl
 have hcl : ∀ ty, (Builtin.clear_ #[22] ty #[.slice (some ⟨g, (i + (n - (i + 1))) * 2, none⟩) (n - (i + (n - (i + 1)))) (cap - (i + (n - (i + 1))))]).run Tryz.prog W1 = .ok (.tuple #[]) (W1.setCells g ((n - 1) * 2) [.string ⟨#[]⟩, .string ⟨#[]⟩]) :=
  fun ty => by rw [show i + (n - (i + 1)) = n - 1 by omega, show n - (n - 1) = 1 by omega]; exact clear_al W1 ty g ((n - 1) * 2) _ (hex1 _ (by omega)) (hex1 _ (by omega)) (hown1.frozenAt _) (hown1.frozenAt _)
 have hown2 := own_setCells [.string ⟨#[]⟩, .string ⟨#[]⟩] ((n - 1) * 2) _ _ hown1
 have hown3 := own_shrink hown2 (show n - 1 ≤ n by omega)
 have hfin : (over (over (tcells ts) (0 + i * 2) news) ((n - 1) * 2) [.string ⟨#[]⟩, .string ⟨#[]⟩]).take ((n - 1) * 2) = tcells (ts.take i ++ ts.drop (i + 1)) := by
  rw [over_eq _ _ _ (by rw [hl1]; simp; omega), List.append_assoc, List.take_append_of_le_length (by rw [List.length_take, hl1]; omega), List.take_take, Nat.min_self, over_eq _ _ _ (by rw [hnl, htl]; omega), tcells_append, tcells_take, tcells_drop, ← hnews, Nat.zero_add]
  rw [List.take_append_of_le_length (by rw [List.length_append, List.length_take, htl, hnl]; omega), List.take_of_length_le (by rw [List.length_append, List.length_take, htl, hnl]; omega)]
 rw [hfin] at hown3
 have HO3 := Lib.hid hown3
 have HB3 := Lib.hid (show Below base w (W1.setCells g ((n - 1) * 2) [.string ⟨#[]⟩, .string ⟨#[]⟩]) from by
  refine Lib.below_setCells g hgb _ _ ?_
  rw [hW1]
  exact Lib.below_setCells g hgb _ _ (Below.refl _ _).drew)
 have hW : Hid (W1 = w.drew.setCells g (0 + i * 2) news) := hW1
 have hic : i ≤ cap := by omega
 have hjc : i + 1 ≤ cap := by omega
 have hjn : i + 1 ≤ n := by omega
 have hne : ((i : Int) == (i : Int) + 1) = false := by rw [beq_eq_false_iff_ne]; omega
 have k4 : (0 : Int) ≤ (i : Int) + 1 := by omega
 have k5 : (i : Int) + 1 ≤ (n : Int) := by omega
 have k8 : ((i : Int) + 1).toNat = i + 1 := by omega
 have k9 : ¬ cap = i := by omega
 have k10 : ¬ cap = i + (n - (i + 1)) := by omega
 have k11 : i + (n - (i + 1)) ≤ n := by omega
 clear hW1 hown1 hown2 hown3 hfin hex hex1 hl1 hnl htl hnews hcell hown hgb hnn
 go_enter Tryz.func23, Tryz.ntmps23
 go_wp2_with fail
 go_region_law (refine step_append_room rfl _ _ 22 rfl 32 i0 2 Tryz.underlying22 hi0 hzs g 0 i cap (by simp [Act.eval, Act.put]) A (n - (i + 1)) (cap - (i + 1)) news (by simp [Act.eval, Act.put]) s1.out hsrc.out s2.out (by omega) s3.out ?_; rw [← hW.out])
 have HE := Lib.hid (show i + (n - (i + 1)) = n - 1 by omega)
 go_wp2
 go_ret
 exact ⟨_, rfl, by rw [HE.out]; exact HO3.out, HB3.out⟩
set_option maxRecDepth 100000 in
set_option maxHeartbeats 4000000 in
theorem Unset_any (l : List AL.Al) (n : List UInt8) (v : Value) (w : World) (hV : TV w v l) (hz : ∀ a ∈ l, a.1.length ≤ 10000 ∧ a.2.length ≤ 10000) :
  Calls Tryz.prog 10 #[v, .string ⟨n.toArray⟩] w (LPost w (AL.unset l n)) := by
 obtain ⟨R, hR⟩ : ∃ R, AL.unset l n = R := ⟨_, rfl⟩
 rw [hR]
 unfold AL.unset at hR
 obtain ⟨A, c, rfl⟩ := hV.val
 have HV := Lib.hid hV
 have HVA := Lib.hid (Valid_any l _ w hV.as hz)
 clear hz hV
 obtain ⟨vz, hvz⟩ : ∃ vz, AL.valid l = vz := ⟨_, rfl⟩
 rw [hvz] at HVA hR
 by_cases h0 : vz = 0
 case neg =>
  rw [if_neg h0] at hR
  have e0 : (vz == 0) = false := by rw [beq_eq_false_iff_ne]; exact h0
  have e1 : (vz != 0) = true := by simp [bne, e0]
  have HRE := Lib.hid hR
  clear hR hvz h0
  go_enter Tryz.func10, Tryz.ntmps10
  go_wp2_with fail
  refine HVA.out.mono ?_
  rintro e w1 ⟨rfl, hb⟩
  have HB := Lib.hid hb
  clear hb
  go_wp2
  go_ret2
  rw [← HRE.out]
  exact ⟨_, rfl, HB.out, HV.out.below HB.out⟩
 rw [if_pos h0] at hR
 subst h0
 obtain ⟨g1, g2, g3⟩ := (AL.valid_zero l).1 hvz
 have HPL := Lib.hid (fun V (hA : AS V (.slice A l.length c) l) => place_any l n (.slice A l.length c) V hA g3 g1)
 have HG1 := Lib.hid g1
 have HR := Lib.hid hR
 obtain ⟨q1, q2, q3, q4⟩ := AL.at_pos g3 n
 have HLT := Lib.hid (AL.low_take g3 n)
 obtain ⟨p, hp⟩ : ∃ p, p = (AL.low l n).length := ⟨_, rfl⟩
 have HPD := Lib.hid (show AL.del l n = AL.low l n ++ l.drop (p + 1) by unfold AL.del; rw [hp])
 rw [← hp] at HPL q1 q4 HLT
 have p0 : (0 : Int) ≤ (p : Int) := by omega
 have HQ1 := Lib.hid q1
 have HQ4 := Lib.hid q4
 clear hR hvz g1 g2 g3 q1 q2 q3 q4 hp
 cases hg : AL.get l n with
 | none =>
  rw [hg] at HPL
  have HRE := Lib.hid (show (l, (8 : Int)) = R from by rw [← HR.out, if_pos hg])
  clear hg
  go_enter Tryz.func10, Tryz.ntmps10
  go_wp2_with fail
  refine HVA.out.mono ?_
  rintro e w1 ⟨rfl, hb⟩
  have HB := Lib.hid hb
  clear hb
  have HP1 := Lib.hid (HPL.out w1 (HV.out.below HB.out).as)
  go_wp2_with fail
  refine HP1.out.mono ?_
  rintro e w2 ⟨rfl, hb⟩
  have HB2 := Lib.hid (btr HB.out hb)
  clear hb
  go_wp2
  go_ret2
  rw [← HRE.out]
  exact ⟨_, rfl, HB2.out, HV.out.below HB2.out⟩
 | some o =>
  have HLT2 := Lib.hid (show p < l.length from by
   rcases Nat.lt_or_ge p l.length with h | h
   ·exact h
   ·have := HQ4.out (by have := HQ1.out; omega)
    rw [hg] at this
    cases this)
  rw [hg] at HPL
  have HRE := Lib.hid (show (l.take p ++ l.drop (p + 1), (0 : Int)) = R from by rw [← HR.out, if_neg (by rw [hg]; simp), HPD.out, HLT.out])
  have hp64 : (p : Int) ≤ 64 := by have := HLT2.out; have := HG1.out; omega
  clear hg
  go_enter Tryz.func10, Tryz.ntmps10
  go_wp2_with fail
  refine HVA.out.mono ?_
  rintro e w1 ⟨rfl, hb⟩
  have HB := Lib.hid hb
  clear hb
  have HP1 := Lib.hid (HPL.out w1 (HV.out.below HB.out).as)
  go_wp2_with fail
  refine HP1.out.mono ?_
  rintro e w2 ⟨rfl, hb⟩
  have HB2 := Lib.hid (btr HB.out hb)
  clear hb
  have HCL := Lib.hid (Clone_any (.slice A l.length c) l w2 (HV.out.below HB2.out) (by have := HG1.out; omega))
  go_wp2_with fail
  refine HCL.out.mono ?_
  rintro e w4 ⟨v4, rfl, hown, hb⟩
  have HB4 := Lib.hid (btr HB2.out hb)
  have HDEL := Lib.hid (Delete_any w2.heap.size v4 l p w4 hown HLT2.out (by have := HG1.out; omega))
  have HBW := Lib.hid hb
  clear hown hb
  go_wp2_with fail
  refine HDEL.out.mono ?_
  rintro e w5 ⟨v5, rfl, hown5, hb5⟩
  have HB5 := Lib.hid (HB2.out.trans ((HBW.out.trans hb5).mono HB2.out.size))
  have HT5 := Lib.hid (TV.own hown5)
  clear hown5 hb5
  go_wp2
  go_ret2
  rw [← HRE.out]
  exact ⟨_, rfl, HB5.out, HT5.out⟩
end W
end Go.Proofs.YtcbdhheelddgeaaGreatDoor
