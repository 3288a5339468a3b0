/- Chapter 43: the walk of the law HistoryLasts. -/
import Derived.Test.YtbiilbdflmiehaaDoorW43l
import Derived.Test.YtbiilbdflmiehaaDoorW43d
import Derived.Deep.RegionHeld3
import Derived.OpenShut
import Derived.Test.YtbiilbdflmiehaaDoorV43
namespace Go.Proofs.YtbiilbdflmiehaaDoor
open Go.RowKit K
namespace W

set_option maxHeartbeats 1000000 in
set_option maxRecDepth 100000 in
theorem HistoryLasts_walk (v : Value) (first : Int) (ls : List (List UInt8)) (s : List UInt8) (w : World) (hV : HV w v first ls) (hn : ls.length ≤ 8796093022208) (hs : ∀ s ∈ ls, s.length ≤ 140737488351232) (_hs : s.length ≤ 9223372036854775807) (hw : Env w) :
    Calls Tryd.prog 8 #[v, .string ⟨s.toArray⟩] w fun e w' => e = .returned (.bool true) ∧ Below w.heap.size w w' := by
  have HA := Lib.hid awake_any
  have HOK := Lib.hid (fun w' (hb : Below w.heap.size w w') => ok_any v first ls w' (hV.below hb) hn hs)
  have HV0 := Lib.hid hV
  obtain ⟨A, c, rfl, -, hd, -, -⟩ := hV
  obtain ⟨x0, q0, hX0, hy0, hz0⟩ := Box2.fresh w first A ls.length c 24
  have HX0 := Lib.hid hX0
  have Q0 := Lib.hid q0
  have HB0 := Lib.hid hy0
  have HE := Lib.hid hw
  clear hX0 q0 hy0 hw hs
  simp only [hv] at *
  cases hok : P.okB first ls with
  | false =>
    rw [hok] at HOK
    clear hok
    go_enter Tryd.func8, Tryd.ntmps8
    go_wp2_with fail
    rw [← Q0.out]
    refine (HOK.out _ HB0.out).mono ?_
    rintro e w1 ⟨rfl, hb1⟩
    have B1 := Lib.hid (btr HB0.out hb1)
    have HX1 := Lib.hid (HX0.out.later hb1)
    clear hb1
    go_wp2_with fail
    refine (HA.out _ (HE.out.below B1.out)).mono ?_
    rintro e w2 ⟨rfl, hb2⟩
    have B2 := Lib.hid (btr B1.out hb2)
    clear hb2
    go_wp2
    go_ret
    exact ⟨rfl, B2.out⟩
  | true =>
    rw [hok] at HOK
    obtain ⟨hval, htot⟩ := P.okB_parts hok
    obtain ⟨p1, p2, p3, -⟩ := P.valid_parts hval
    have HVAL := Lib.hid hval
    clear hok hval
    by_cases hl : 100 < s.length
    · have fl : ((100 : Int) < (s.length : Int)) = True := eq_true (by omega)
      clear hl
      go_enter Tryd.func8, Tryd.ntmps8
      go_wp2_with fail
      rw [← Q0.out]
      refine (HOK.out _ HB0.out).mono ?_
      rintro e w1 ⟨rfl, hb1⟩
      have B1 := Lib.hid (btr HB0.out hb1)
      have HX1 := Lib.hid (HX0.out.later hb1)
      clear hb1
      go_wp2_with fail
      refine (HA.out _ (HE.out.below B1.out)).mono ?_
      rintro e w2 ⟨rfl, hb2⟩
      have B2 := Lib.hid (btr B1.out hb2)
      clear hb2
      go_wp2
      go_ret
      exact ⟨rfl, B2.out⟩
    · have fl : ((100 : Int) < (s.length : Int)) = False := eq_false (by omega)
      have hsl : s.length ≤ 100 := by omega
      have HL := Lib.hid hl
      clear hl
      have h1 := Lib.hid (fun w h => Add_any (hv first A ls.length c) first ls s w h p1 p2 p3 (by omega))
      have hlen := P.add_len (first := first) (ls := ls) s p1
      obtain ⟨⟨f, l, z⟩, hR⟩ : ∃ R, P.addH first ls s = R := ⟨_, rfl⟩
      rw [hR] at h1 hlen
      simp only at hlen
      have HKEPT := Lib.hid (show (z ≠ 0 ∨ s = []) → f = first ∧ l = ls from fun h => P.add_kept hR h)
      have HNEW := Lib.hid (show z = 0 → s ≠ [] → P.Added first ls s f l ∧ P.valid f l = 0 from fun hz hne => P.add_new HVAL.out (by rw [hR, hz]) hne)
      clear hR
      go_enter Tryd.func8, Tryd.ntmps8
      go_wp2_with fail
      rw [← Q0.out]
      refine (HOK.out _ HB0.out).mono ?_
      rintro e w1 ⟨rfl, hb1⟩
      have B1 := Lib.hid (btr HB0.out hb1)
      have HX1 := Lib.hid (HX0.out.later hb1)
      obtain ⟨f0, f1', f2, f3⟩ := HX1.out.cells
      clear hb1
      go_wp2_with fail
      refine (h1.out _ (HV0.out.below B1.out)).mono ?_
      rintro e w2 ⟨v2, rfl, ⟨A2, c2, rfl, hc2, hd2, hA2, hS2⟩, hb2⟩
      simp only [hv] at hc2 hS2 ⊢
      obtain ⟨x2, q2, hX2, hy2, hz2⟩ := Box2.fresh w2 f A2 l.length c2 24
      have Q2 := Lib.hid q2
      have HX2 := Lib.hid hX2
      have V2 := Lib.hid (show HV x2 (hv f A2 l.length c2) f l from ⟨A2, c2, rfl, hc2, hd2, hA2, hS2.below hy2⟩)
      have B2 := Lib.hid (btr B1.out (btr hb2 hy2))
      have HXh := Lib.hid (HX1.out.later (btr hb2 hy2))
      have HXa := Lib.hid (HX1.out.later hb2)
      clear f0 f1' f2 f3
      obtain ⟨f0, f1', f2, f3⟩ := HXa.out.cells
      have g2 : w.heap.size < w2.heap.size := HXa.out.lt
      clear hX2 q2 hS2 hb2 hy2 hA2
      by_cases hk : z ≠ 0
      · obtain ⟨rfl, rfl⟩ := HKEPT.out (.inl hk)
        have fz : (z != 0) = true := by simp [hk]
        clear hk
        have HSA := Lib.hid (fun va vb w h k => Same_ref va vb f f l l w h k (by omega) (by omega))
        go_wp2_with fail
        rw [← Q2.out]
        refine (HSA.out _ _ _ V2.out (HV0.out.below B2.out)).mono ?_
        rintro e w3 ⟨rfl, hb3⟩
        have B3 := Lib.hid (btr B2.out hb3)
        clear hb3
        simp only [and_self, decide_true]
        go_wp2_with fail
        refine (HA.out _ (HE.out.below B3.out)).mono ?_
        rintro e w8 ⟨rfl, hb8⟩
        have B8 := Lib.hid (btr B3.out hb8)
        clear hb8
        go_wp2
        go_ret
        exact ⟨rfl, B8.out⟩
      obtain rfl : z = 0 := by omega
      clear hk
      by_cases hse : s = []
      · obtain ⟨rfl, rfl⟩ := HKEPT.out (.inr hse)
        subst hse
        have HSA := Lib.hid (fun va vb w h k => Same_ref va vb f f l l w h k (by omega) (by omega))
        go_wp2_with fail
        rw [← Q2.out]
        refine (HSA.out _ _ _ V2.out (HV0.out.below B2.out)).mono ?_
        rintro e w3 ⟨rfl, hb3⟩
        have B3 := Lib.hid (btr B2.out hb3)
        clear hb3
        simp only [and_self, decide_true]
        go_wp2_with fail
        refine (HA.out _ (HE.out.below B3.out)).mono ?_
        rintro e w8 ⟨rfl, hb8⟩
        have B8 := Lib.hid (btr B3.out hb8)
        clear hb8
        go_wp2
        go_ret
        exact ⟨rfl, B8.out⟩
      have hemp : s.isEmpty = false := by cases s; simp at hse; rfl
      obtain ⟨hadd, hval2⟩ := HNEW.out rfl hse
      obtain ⟨l1, l2, l3⟩ := P.added_last hadd
      obtain ⟨q1, q2, q3, q4⟩ := P.valid_parts hval2
      have HM := Lib.hid (show ∀ y ∈ l, y.length ≤ 31000 from fun y hy => by have := (P.lerr_mem q4 y hy).2.2; omega)
      have hl0 : 0 < l.length := List.length_pos_iff.2 l1
      have h2 := Lib.hid (fun w h => Get_any (hv f A2 l.length c2) f l (f + l.length - 1) w h q1 q2 q3 (by omega) (by omega))
      have h3 : Hid (∀ w (m : Int), m = f + l.length - 1 + 1 → HV w (hv f A2 l.length c2) f l → Calls Tryd.prog 18 #[hv f A2 l.length c2, .int .i64 m] w fun e w' => e = strNum (P.getH f l (f + l.length - 1 + 1)) ∧ Below w.heap.size w w') := fun w m hm h => by
        subst hm
        exact Get_any (hv f A2 l.length c2) f l _ w h q1 q2 q3 (by omega) (by omega)
      rw [(P.get_last l1 l2).1] at h2
      rw [(P.get_last l1 l2).2] at h3
      have h4 := Lib.hid (fun w (h : SL w A2 l) => Valid_any f A2 c2 l 31000 w (by omega) h HM.out (by omega))
      rw [hval2] at h4
      obtain ⟨N, hN⟩ : ∃ N, f + (l.length : Int) - 1 = N := ⟨_, rfl⟩
      have h5 : Hid (∀ w k, HV w (hv f A2 l.length c2) f l → Env w → Calls Tryd.prog 20 #[hv f A2 l.length c2, .string ⟨(cut s 0 k).toArray⟩] w fun e w' => e = .returned (.tuple #[.int .i64 (f + (l.length : Int) - 1), .bool true]) ∧ Below w.heap.size w w') := fun w k h e => by
        have := Begins_any (hv f A2 l.length c2) f l (cut s 0 k) 31000 w h q1 q2 q3 HM.out (by omega) e
        rw [P.find_last l1 l2 (by show P.begins s (cut s 0 k) = true; rw [show cut s 0 k = s.take k by simp [cut]]; exact P.begins_take s k)] at this
        exact this
      have h6 : Hid (∀ w k, k ≤ s.length → HV w (hv f A2 l.length c2) f l → Env w → Calls Tryd.prog 22 #[hv f A2 l.length c2, .string ⟨(cut s k s.length).toArray⟩] w fun e w' => e = .returned (.tuple #[.int .i64 (f + (l.length : Int) - 1), .bool true]) ∧ Below w.heap.size w w') := fun w k hk h e => by
        have := Contains_any (hv f A2 l.length c2) f l (cut s k s.length) 31000 w h q1 q2 q3 HM.out (by omega) e
        rw [P.find_last l1 l2 (by show P.contains s (cut s k s.length) = true; rw [cut_end]; exact P.contains_drop s k hk)] at this
        exact this
      clear hse hadd hval2 l1 l2 q4 hN
      go_wp2_with fail
      rw [← Q2.out]
      refine (h2.out _ V2.out).mono ?_
      rintro e w3 ⟨rfl, hb3⟩
      simp only [strNum]
      have B3 := Lib.hid (btr B2.out hb3)
      have V3 := Lib.hid (V2.out.below hb3)
      have HX3 := Lib.hid (HX2.out.later hb3)
      have HXh3 := Lib.hid (HXh.out.later hb3)
      clear hb3 f0 f1' f2 f3
      obtain ⟨f0, f1', f2, f3⟩ := HX3.out.cells
      go_wp2_with fail
      refine (h3.out _ _ (by omega) V3.out).mono ?_
      rintro e w4 ⟨rfl, hb4⟩
      simp only [strNum]
      have B4 := Lib.hid (btr B3.out hb4)
      have V4 := Lib.hid (V3.out.below hb4)
      have HX4 := Lib.hid (HX3.out.later hb4)
      have HXh4 := Lib.hid (HXh3.out.later hb4)
      clear hb4 f0 f1' f2 f3
      obtain ⟨f0, f1', f2, f3⟩ := HX4.out.cells
      obtain ⟨A6, c6, e6, -, -, -, hS6⟩ := V4.out
      unfold hv at e6
      simp only [Value.agg.injEq, Array.mk.injEq, List.cons.injEq, Value.slice.injEq, and_true, true_and] at e6
      obtain ⟨rfl, rfl⟩ := e6
      have HS6 := Lib.hid hS6
      clear hS6
      go_wp2_with fail
      refine (h4.out _ HS6.out).mono ?_
      rintro e w5 ⟨rfl, hb5⟩
      have B5 := Lib.hid (btr B4.out hb5)
      have V5 := Lib.hid (V4.out.below hb5)
      have HX5 := Lib.hid (HX4.out.later hb5)
      have HXh5 := Lib.hid (HXh4.out.later hb5)
      clear hb5 f0 f1' f2 f3
      obtain ⟨f0, f1', f2, f3⟩ := HX5.out.cells
      obtain ⟨y0, y1, y2, y3⟩ := HXh5.out.cells
      have hnl : ¬ f + (l.length : Int) - 1 < first + (ls.length : Int) - 1 := by omega
      go_wp2
      clear f0 f1' f2 f3 y0 y1 y2 y3
      go_loopw [12] (fun i wr => ∃ k : Nat, k ≤ s.length + 1 ∧ i = .int .i64 k ∧ Below w5.heap.size w5 wr) (fun i _ => s.length + 1 - (intOf i).toNat)
      case atStart => exact ⟨0, by omega, rfl, Below.refl _ _⟩
      case round =>
        obtain ⟨k, hk, rfl, hbw⟩ := hrel
        have HBw := Lib.hid hbw
        have HXw := Lib.hid (HX5.out.later hbw)
        have HVw := Lib.hid (fun w' (hb : Below wr.heap.size wr w') => V5.out.below (btr hbw hb))
        have HEw := Lib.hid (fun w' (hb : Below wr.heap.size wr w') => HE.out.below (btr B5.out (btr hbw hb)))
        clear hbw
        by_cases hlt : k ≤ s.length
        · obtain ⟨f0, f1', f2, f3⟩ := HXw.out.cells
          have k0 : (0 : Int) ≤ (k : Int) := by omega
          have k1 : (k : Int) ≤ (s.length : Int) := by omega
          go_wp2_with fail
          go_region_held3 (fun w' => w'.cell? ⟨w2.heap.size, 0, none⟩ = some (.int .i64 f) ∧ w'.cell? ⟨w2.heap.size, 1, none⟩ = some (.slice A2 l.length c2) ∧ Below wr.heap.size wr w')
            (first | exact ⟨by simpa using f0, by simpa using f1', (Below.refl _ _).drew⟩ | (go_split_ands; exact ⟨((HXw.out.later (btr ‹Below wr.heap.size wr _› ‹_›)).cells).1, ((HXw.out.later (btr ‹Below wr.heap.size wr _› ‹_›)).cells).2.1, btr ‹Below wr.heap.size wr _› ‹_›⟩) | go_keep)
            (first
              | (go_at_call 20; go_split_ands; refine (h5.out _ k (HVw.out _ ‹_›) (HEw.out _ ‹_›)).mono ?_; rintro e w6 ⟨rfl, hb6⟩))
          go_split_ands
          have HB6 := Lib.hid (show Below wr.heap.size wr w6 from ‹_›)
          obtain ⟨z0, z1, z2, z3⟩ := (HXw.out.later HB6.out).cells
          have HVw6 := Lib.hid (fun w' (hb : Below w6.heap.size w6 w') => HVw.out w' (btr HB6.out hb))
          have HEw6 := Lib.hid (fun w' (hb : Below w6.heap.size w6 w') => HEw.out w' (btr HB6.out hb))
          have HXw6 := Lib.hid (HXw.out.later HB6.out)
          clear f0 f1' f2 f3
          go_wp2_with fail
          go_region_held3 (fun w' => w'.cell? ⟨w2.heap.size, 0, none⟩ = some (.int .i64 f) ∧ w'.cell? ⟨w2.heap.size, 1, none⟩ = some (.slice A2 l.length c2) ∧ Below w6.heap.size w6 w')
            (first | exact ⟨by simpa using z0, by simpa using z1, (Below.refl _ _).drew⟩ | (go_split_ands; exact ⟨((HXw6.out.later (btr ‹Below w6.heap.size w6 _› ‹_›)).cells).1, ((HXw6.out.later (btr ‹Below w6.heap.size w6 _› ‹_›)).cells).2.1, btr ‹Below w6.heap.size w6 _› ‹_›⟩) | go_keep)
            (first
              | (go_at_call 22; go_split_ands; refine (h6.out _ k hlt (HVw6.out _ ‹_›) (HEw6.out _ ‹_›)).mono ?_; rintro e w7 ⟨rfl, hb7⟩))
          go_split_ands
          have HB7 := Lib.hid (show Below w6.heap.size w6 w7 from ‹_›)
          go_wp2
          go_roundw
          case rel => exact ⟨k + 1, by omega, by go_num, btr HBw.out (btr HB6.out HB7.out)⟩
          case measure => simp [intOf]; omega
        · have hlt2 : (s.length : Int) < (k : Int) := by omega
          go_wp2_with fail
          refine (HA.out _ (HE.out.below (btr B5.out HBw.out))).mono ?_
          rintro e w8 ⟨rfl, hb8⟩
          have B8 := Lib.hid (btr (btr B5.out HBw.out) hb8)
          clear hb8
          go_wp2
          go_ret
          exact ⟨rfl, B8.out⟩
end W
end Go.Proofs.YtbiilbdflmiehaaDoor
