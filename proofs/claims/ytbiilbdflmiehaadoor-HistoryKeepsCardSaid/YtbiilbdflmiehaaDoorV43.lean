/- Chapter 43: the walks of the laws HistoryLoads and HistoryAdds. -/
import Derived.Test.YtbiilbdflmiehaaDoorW43l
import Derived.Test.YtbiilbdflmiehaaDoorW43d
namespace Go.Proofs.YtbiilbdflmiehaaDoor
open Go.RowKit K
namespace P
theorem load_len (s : List UInt8) : (loadH s).2.1.length ≤ 128 := by
  unfold loadH
  split
  · simp
  · split
    · simp
    · split
      · rename_i h; exact (valid_parts h).1
      · simp
theorem add_len {first : Int} {ls : List (List UInt8)} (line : List UInt8) (h : ls.length ≤ 128) : (addH first ls line).2.1.length ≤ 128 := by
  unfold addH
  repeat' split
  all_goals simp <;> omega
end P
namespace W

set_option maxHeartbeats 1000000 in
theorem HistoryLoads_walk (s : List UInt8) (w : World) (hw : Env w) :
    Calls Tryd.prog 6 #[.string ⟨s.toArray⟩] w fun e w' => e = .returned (.bool true) ∧ Below w.heap.size w w' := by
  have HA := Lib.hid awake_any
  by_cases hl : 30000 < s.length
  · have f1 : ((30000 : Int) < (s.length : Int)) = True := eq_true (by omega)
    clear hl
    go_enter Tryd.func6, Tryd.ntmps6
    go_wp2_with fail
    refine (HA.out _ hw).mono ?_
    rintro e w1 ⟨rfl, hb1⟩
    go_wp2
    go_ret
    exact ⟨rfl, hb1⟩
  · have f1 : ((30000 : Int) < (s.length : Int)) = False := eq_false (by omega)
    have h1 := Lib.hid (fun w e => Load_any s w (by omega) e)
    have h2 := Lib.hid (fun w => Load_ref s w (by omega))
    have hlen := P.load_len s
    obtain ⟨R, hR⟩ : ∃ R, P.loadH s = R := ⟨_, rfl⟩
    rw [hR] at h1 h2 hlen
    obtain ⟨f, l, z⟩ := R
    have HE := Lib.hid hw
    have HL := Lib.hid hl
    simp only at hlen
    have HS := Lib.hid (fun va vb w h k => Same_ref va vb f f l l w h k (by omega) (by omega))
    clear hR hl hw
    go_enter Tryd.func6, Tryd.ntmps6
    go_wp2_with fail
    refine (h1.out _ HE.out).mono ?_
    rintro e w1 ⟨v1, rfl, ⟨A1, c1, rfl, hc1, hd1, hA1, hS1⟩, hb1⟩
    simp only [hv] at hc1 hS1 ⊢
    obtain ⟨x1, q1, hX1, hy1, hz1⟩ := Box2.fresh w1 f A1 l.length c1 24
    have HX1 := Lib.hid hX1
    have Q1 := Lib.hid q1
    have V1 := Lib.hid (show HV x1 (hv f A1 l.length c1) f l from ⟨A1, c1, rfl, hc1, hd1, hA1, hS1.below hy1⟩)
    have B1 := Lib.hid (btr hb1 hy1)
    clear hX1 q1 hS1 hb1 hy1 hA1
    go_wp2_with fail
    rw [← Q1.out]
    refine (h2.out _).mono ?_
    rintro e w2 ⟨v2, rfl, ⟨A2, c2, rfl, hc2, hd2, hA2, hS2⟩, hb2⟩
    simp only [hv] at hc2 hS2 ⊢
    obtain ⟨x2, q2, hX2, hy2, hz2⟩ := Box2.fresh w2 f A2 l.length c2 24
    have HY2 := Lib.hid (HX1.out.later hb2)
    have HX2 := Lib.hid hX2
    have Q2 := Lib.hid q2
    have V2 := Lib.hid (show HV x2 (hv f A2 l.length c2) f l from ⟨A2, c2, rfl, hc2, hd2, hA2, hS2.below hy2⟩)
    have V1' := Lib.hid (V1.out.below (btr hb2 hy2))
    have B2 := Lib.hid (btr B1.out (btr hb2 hy2))
    have g2 : w1.heap.size < w2.heap.size := HY2.out.lt
    obtain ⟨f0, f1', f2, f3⟩ := HY2.out.cells
    clear hX2 q2 hS2 hb2 hy2 hA2
    go_wp2_with fail
    rw [← Q2.out]
    refine (HS.out _ _ _ V1'.out V2.out).mono ?_
    rintro e w3 ⟨rfl, hb3⟩
    have B3 := Lib.hid (btr B2.out hb3)
    clear hb3
    simp only [and_self, decide_true]
    go_wp2_with fail
    refine (HA.out _ (HE.out.below B3.out)).mono ?_
    rintro e w4 ⟨rfl, hb4⟩
    have B4 := Lib.hid (btr B3.out hb4)
    clear hb4
    go_wp2
    go_ret
    exact ⟨rfl, B4.out⟩

set_option maxHeartbeats 1000000 in
theorem HistoryAdds_walk (v : Value) (first : Int) (ls : List (List UInt8)) (s : List UInt8) (w : World) (hV : HV w v first ls) (hn : ls.length ≤ 8796093022208) (hs : ∀ s ∈ ls, s.length ≤ 140737488351232) (_hs : s.length ≤ 9223372036854775807) (hw : Env w) :
    Calls Tryd.prog 4 #[v, .string ⟨s.toArray⟩] w fun e w' => e = .returned (.bool true) ∧ Below w.heap.size w w' := by
  have HA := Lib.hid awake_any
  have HOK := Lib.hid (fun w' (hb : Below w.heap.size w w') => ok_any v first ls w' (hV.below hb) hn hs)
  have HV0 := Lib.hid hV
  obtain ⟨A, c, rfl, -, hd, -, -⟩ := hV
  obtain ⟨x0, q0, hX0, hy0, hz0⟩ := Box2.fresh w first A ls.length c 24
  have HX0 := Lib.hid hX0
  have Q0 := Lib.hid q0
  have HB0 := Lib.hid hy0
  have HE := Lib.hid hw
  clear hX0 q0 hy0 hw hs
  simp only [hv] at *
  cases hok : P.okB first ls with
  | false =>
    rw [hok] at HOK
    clear hok
    go_enter Tryd.func4, Tryd.ntmps4
    go_wp2_with fail
    rw [← Q0.out]
    refine (HOK.out _ HB0.out).mono ?_
    rintro e w1 ⟨rfl, hb1⟩
    have B1 := Lib.hid (btr HB0.out hb1)
    clear hb1
    go_wp2_with fail
    refine (HA.out _ (HE.out.below B1.out)).mono ?_
    rintro e w2 ⟨rfl, hb2⟩
    have B2 := Lib.hid (btr B1.out hb2)
    clear hb2
    go_wp2
    go_ret
    exact ⟨rfl, B2.out⟩
  | true =>
    rw [hok] at HOK
    obtain ⟨hval, htot⟩ := P.okB_parts hok
    obtain ⟨p1, p2, p3, -⟩ := P.valid_parts hval
    clear hok hval
    by_cases hl : 5000 < s.length
    · have f1 : ((5000 : Int) < (s.length : Int)) = True := eq_true (by omega)
      clear hl
      go_enter Tryd.func4, Tryd.ntmps4
      go_wp2_with fail
      rw [← Q0.out]
      refine (HOK.out _ HB0.out).mono ?_
      rintro e w1 ⟨rfl, hb1⟩
      have B1 := Lib.hid (btr HB0.out hb1)
      clear hb1
      go_wp2_with fail
      refine (HA.out _ (HE.out.below B1.out)).mono ?_
      rintro e w2 ⟨rfl, hb2⟩
      have B2 := Lib.hid (btr B1.out hb2)
      clear hb2
      go_wp2
      go_ret
      exact ⟨rfl, B2.out⟩
    · have f1 : ((5000 : Int) < (s.length : Int)) = False := eq_false (by omega)
      have h1 := Lib.hid (fun w h => Add_any (hv first A ls.length c) first ls s w h p1 p2 p3 (by omega))
      have h2 := Lib.hid (fun w h => Add_ref (hv first A ls.length c) first ls s w h p1 p2 p3 (by omega))
      have hlen := P.add_len (first := first) (ls := ls) s p1
      obtain ⟨R, hR⟩ : ∃ R, P.addH first ls s = R := ⟨_, rfl⟩
      rw [hR] at h1 h2 hlen
      obtain ⟨f, l, z⟩ := R
      simp only at hlen
      have HS := Lib.hid (fun va vb w h k => Same_ref va vb f f l l w h k (by omega) (by omega))
      have HL := Lib.hid hl
      clear hR hl
      go_enter Tryd.func4, Tryd.ntmps4
      go_wp2_with fail
      rw [← Q0.out]
      refine (HOK.out _ HB0.out).mono ?_
      rintro e wa ⟨rfl, hba⟩
      have Ba := Lib.hid (btr HB0.out hba)
      have HXa := Lib.hid (HX0.out.later hba)
      obtain ⟨f0, f1', f2, f3⟩ := HXa.out.cells
      clear hba
      go_wp2_with fail
      refine (h1.out _ (HV0.out.below Ba.out)).mono ?_
      rintro e w1 ⟨v1, rfl, ⟨A1, c1, rfl, hc1, hd1, hA1, hS1⟩, hb1⟩
      simp only [hv] at hc1 hS1 ⊢
      obtain ⟨x1, q1, hX1, hy1, hz1⟩ := Box2.fresh w1 f A1 l.length c1 24
      have HX1 := Lib.hid hX1
      have Q1 := Lib.hid q1
      have V1 := Lib.hid (show HV x1 (hv f A1 l.length c1) f l from ⟨A1, c1, rfl, hc1, hd1, hA1, hS1.below hy1⟩)
      have B1 := Lib.hid (btr Ba.out (btr hb1 hy1))
      have HX1' := Lib.hid (HXa.out.later hb1)
      have HX1'' := Lib.hid (HXa.out.later (btr hb1 hy1))
      clear f0 f1' f2 f3
      obtain ⟨f0, f1', f2, f3⟩ := HX1'.out.cells
      have g1 : w.heap.size < w1.heap.size := HX1'.out.lt
      clear hX1 q1 hS1 hb1 hy1 hA1
      go_wp2_with fail
      rw [← Q1.out]
      refine (h2.out _ (HV0.out.below B1.out)).mono ?_
      rintro e w2 ⟨v2, rfl, ⟨A2, c2, rfl, hc2, hd2, hA2, hS2⟩, hb2⟩
      simp only [hv] at hc2 hS2 ⊢
      obtain ⟨x2, q2, hX2, hy2, hz2⟩ := Box2.fresh w2 f A2 l.length c2 24
      have HY2 := Lib.hid (HX1.out.later hb2)
      have Q2 := Lib.hid q2
      have V2 := Lib.hid (show HV x2 (hv f A2 l.length c2) f l from ⟨A2, c2, rfl, hc2, hd2, hA2, hS2.below hy2⟩)
      have V1' := Lib.hid (V1.out.below (btr hb2 hy2))
      have B2 := Lib.hid (btr B1.out (btr hb2 hy2))
      have g2 : w1.heap.size < w2.heap.size := HY2.out.lt
      clear f0 f1' f2 f3
      obtain ⟨f0, f1', f2, f3⟩ := HY2.out.cells
      clear hX2 q2 hS2 hb2 hy2 hA2
      go_wp2_with fail
      rw [← Q2.out]
      refine (HS.out _ _ _ V1'.out V2.out).mono ?_
      rintro e w3 ⟨rfl, hb3⟩
      have B3 := Lib.hid (btr B2.out hb3)
      clear hb3
      simp only [and_self, decide_true]
      go_wp2_with fail
      refine (HA.out _ (HE.out.below B3.out)).mono ?_
      rintro e w4 ⟨rfl, hb4⟩
      have B4 := Lib.hid (btr B3.out hb4)
      clear hb4
      go_wp2
      go_ret
      exact ⟨rfl, B4.out⟩
end W
end Go.Proofs.YtbiilbdflmiehaaDoor
