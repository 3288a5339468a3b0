/- Chapter 34: the law TrapChanges, walked. -/
import Derived.Test.YtfigidknocpdaaaDoorP34d
import Derived.Test.YtfigidknocpdaaaDoorW34u
import Derived.Test.YtfigidknocpdaaaDoorW34s
namespace Go.Proofs.YtfigidknocpdaaaDoor
open Go.RowKit K
namespace P
def setA (ts : List Tr) (sig : Int) (a : List UInt8) : List Tr := if 0 ≤ sig ∧ sig ≤ 20 then setT ts sig a else ts
theorem setA_len (ts : List Tr) (sig : Int) (a : List UInt8) : (setA ts sig a).length ≤ ts.length + 1 := by
  unfold setA
  split
  · exact setT_len ts sig a
  · omega
theorem setA_right {ts : List Tr} {sig : Int} {a : List UInt8} (h : right ts = true) : right (setA ts sig a) = true := by
  unfold setA
  split
  · rename_i hs; exact setT_right h hs.1 hs.2
  · exact h
theorem setA_twice {ts : List Tr} {sig : Int} {a b : List UInt8} (h : right ts = true) : setA (setA ts sig a) sig b = setA ts sig b := by
  by_cases hs : 0 ≤ sig ∧ sig ≤ 20
  · unfold setA
    rw [if_pos hs, if_pos hs, if_pos hs]
    exact setT_twice h hs.1 hs.2
  · unfold setA
    rw [if_neg hs, if_neg hs, if_neg hs]
theorem reset_setA {ts : List Tr} {sig : Int} {a : List UInt8} (h : right ts = true) : reset (setA ts sig a) sig = reset ts sig := by
  unfold setA
  split
  · rename_i hs; exact reset_setT h hs.1 hs.2
  · rfl
end P
namespace W
/-- A list of traps comes back. -/
def VPost (w : World) (ts : List Tr) (e : Ending) (w' : World) : Prop := ∃ v, e = .returned v ∧ TV w' v ts ∧ Below w.heap.size w w'
theorem TPost.v {w : World} {ts : List Tr} {e : Ending} {w' : World} (h : TPost w ts e w') : VPost w ts e w' := by
  obtain ⟨v, h1, h2, h3⟩ := h
  exact ⟨v, h1, TV.own h2, h3⟩
theorem Set_v (v : Value) (ts : List Tr) (sig : Int) (a : List UInt8) (w : World) (hV : TV w v ts) (hn : ts.length ≤ 1000) :
    Calls Tryd.prog 21 #[v, .int .i64 sig, .string ⟨a.toArray⟩] w (VPost w (P.setA ts sig a)) := by
  unfold P.setA
  split
  · rename_i hs; exact (Set_in v ts sig a w hV hn hs.1 hs.2).mono fun _ _ h => h.v
  · exact (Set_out v ts sig a w hV hn (by omega)).mono fun _ _ h => h.v
theorem SetR_v (v : Value) (ts : List Tr) (sig : Int) (a : List UInt8) (w : World) (hV : TV w v ts) (hn : ts.length ≤ 1000) (hr : P.right ts = true) :
    Calls Tryd.prog 22 #[v, .int .i64 sig, .string ⟨a.toArray⟩] w (VPost w (P.setA ts sig a)) := by
  unfold P.setA
  split
  · rename_i hs
    rw [P.setT_eq hr hs.1 hs.2]
    exact (Set_ref_in v ts sig a w hV (by omega) hs.1 hs.2).mono fun _ _ h => h.v
  · exact (Set_ref_out v ts sig a w hV (by omega)).mono fun _ _ ⟨h1, h2⟩ => by subst h2; exact ⟨v, h1, hV, Below.refl _ _⟩
theorem Same_eq (va vb : Value) (la : List Tr) (w : World) (hVa : TV w va la) (hVb : TV w vb la) (hna : la.length ≤ 1000) :
    Calls Tryd.prog 20 #[va, vb] w fun e w' => e = .returned (.bool true) ∧ Below w.heap.size w w' :=
  (Same_ref va vb la la w hVa hVb (by omega)).mono fun _ _ ⟨h1, h2⟩ => ⟨by rw [h1]; simp, h2⟩
/-- A list of strings comes back. -/
def LPost (w : World) (ls : List (List UInt8)) (e : Ending) (w' : World) : Prop := ∃ A c, e = .returned (.slice A ls.length c) ∧ SL w' A ls ∧ Below w.heap.size w w'
theorem SPost.l {w : World} {ls : List (List UInt8)} {e : Ending} {w' : World} (h : SPost w ls e w') : LPost w ls e w' := by
  obtain ⟨v, h1, h2, h3⟩ := h
  obtain ⟨A, c, rfl, -, -, -, h4⟩ := own_form h2
  exact ⟨A, c, h1, h4, h3⟩
theorem texts_eq (A B : Option Addr) (ca cb : Nat) (la : List (List UInt8)) (w : World) (hTa : SL w A la) (hTb : SL w B la) (hna : la.length ≤ 1000) :
    Calls Tryd.prog 25 #[.slice A la.length ca, .slice B la.length cb] w fun e w' => e = .returned (.bool true) ∧ Below w.heap.size w w' :=
  (texts_any A B ca cb la la w hTa hTb (by omega)).mono fun _ _ ⟨h1, h2⟩ => ⟨by rw [h1]; simp, h2⟩

set_option maxHeartbeats 2000000 in
set_option maxRecDepth 100000 in
theorem TrapChanges_any (v : Value) (ts : List Tr) (sig : Int) (_hsig : (Lit.int .i64 sig).wf = true) (a : List UInt8) (w : World) (hV : TV w v ts) (hS : ∀ t ∈ ts, t.2.length ≤ 140737488351232) (hw : Env w) :
    Calls Tryd.prog 8 #[v, .int .i64 sig, .string ⟨a.toArray⟩] w fun e w' => e = .returned (.bool true) ∧ Below w.heap.size w w' := by
  have HA := Lib.hid (fun w' (hb : Below w.heap.size w w') => awake_any w' (hw.below hb))
  have HOK := Lib.hid (ok_any v ts w hV hS)
  obtain ⟨A, c, hv, -⟩ := id hV
  cases hok : P.okB ts with
  | false =>
    rw [hok] at HOK
    subst hv
    clear hok hS hw hV
    go_enter Tryd.func8, Tryd.ntmps8
    go_wp2_with fail; refine (HOK.out).mono ?_; rintro e w1 ⟨rfl, hb⟩
    have HB := Lib.hid hb
    clear hb
    go_wp2_with fail
    refine (HA.out _ HB.out).mono ?_
    rintro e w2 ⟨rfl, hb2⟩
    have HB2 := Lib.hid (btr HB.out hb2)
    clear hb2
    go_wp2
    go_ret
    exact ⟨rfl, HB2.out⟩
  | true =>
    rw [hok] at HOK
    obtain ⟨hn, hr, hsm⟩ := P.ok_len hok
    by_cases hl : 500 < a.length
    · have e1 : ((500 : Int) < (a.length : Int)) = True := eq_true (by omega)
      subst hv
      clear hok hS hw hV hl hn hr hsm
      go_enter Tryd.func8, Tryd.ntmps8
      go_wp2_with fail; refine (HOK.out).mono ?_; rintro e w1 ⟨rfl, hb⟩
      have HB := Lib.hid hb
      clear hb
      go_wp2_with fail
      refine (HA.out _ HB.out).mono ?_
      rintro e w2 ⟨rfl, hb2⟩
      have HB2 := Lib.hid (btr HB.out hb2)
      clear hb2
      go_wp2
      go_ret
      exact ⟨rfl, HB2.out⟩
    · have e1 : ((500 : Int) < (a.length : Int)) = False := eq_false (by omega)
      have H1 := Lib.hid (fun w' (hb : Below w.heap.size w w') => Set_v v ts sig a w' (hV.below hb) (by omega))
      have H2 := Lib.hid (fun w' (hb : Below w.heap.size w w') => SetR_v v ts sig a w' (hV.below hb) (by omega) hr)
      have H3 := Lib.hid (fun w' (hb : Below w.heap.size w w') => (Reset_any v ts sig w' (hV.below hb) (by omega)).mono fun _ _ h => h.v)
      have H4 := Lib.hid (fun w' (hb : Below w.heap.size w w') => (Reset_ref v ts sig w' (hV.below hb) (by omega)).mono fun _ _ h => h.v)
      have hz : ∀ t ∈ ts, 0 ≤ t.1 ∧ t.1 ≤ 20 ∧ t.2.length ≤ 1000 := fun t ht => ⟨(P.right_in hr t ht).1, (P.right_in hr t ht).2, by have := hsm t ht; omega⟩
      have H5 := Lib.hid (fun w' (hb : Below w.heap.size w w') => (Show_any v ts w' (hV.below hb) (by omega) hz (hw.below hb)).mono fun _ _ h => h.l)
      have H6 := Lib.hid (fun w' (hb : Below w.heap.size w w') => (Show_ref v ts w' (hV.below hb) (by omega) hz).mono fun _ _ h => h.l)
      have H7 := Lib.hid (fun w' (hb : Below w.heap.size w w') => (Sub_any v ts w' (hV.below hb) (by omega)).mono fun _ _ h => h.v)
      have H8 := Lib.hid (fun w' (hb : Below w.heap.size w w') => (Sub_ref v ts w' (hV.below hb) (by omega)).mono fun _ _ h => h.v)
      have HL1 := Lib.hid (show (P.setA ts sig a).length ≤ 1000 by have := P.setA_len ts sig a; omega)
      have HL2 := Lib.hid (show (P.reset ts sig).length ≤ 1000 by have := P.reset_len ts sig; omega)
      have HL3 := Lib.hid (show (P.shows ts).length ≤ 1000 by unfold P.shows; simp; omega)
      have HL4 := Lib.hid (show (P.sub ts).length ≤ 1000 by have := List.length_filter_le P.subB ts; unfold P.sub; omega)
      generalize P.setA ts sig a = L1 at H1 H2 HL1
      generalize P.reset ts sig = L2 at H3 H4 HL2
      generalize P.shows ts = L3 at H5 H6 HL3
      generalize P.sub ts = L4 at H7 H8 HL4
      subst hv
      clear hok hS hw hV hl hn hr hsm hz
      go_enter Tryd.func8, Tryd.ntmps8
      go_wp2_with fail; refine (HOK.out).mono ?_; rintro e w1 ⟨rfl, hb⟩
      have HB := Lib.hid hb
      clear hb
      go_wp2_with fail
      refine (H1.out _ HB.out).mono ?_
      rintro e w2 ⟨v2, rfl, hv2, hb2⟩
      have HB2 := Lib.hid (btr HB.out hb2)
      have HV2 := Lib.hid hv2
      clear hv2 hb2
      go_wp2_with fail
      refine (H2.out _ HB2.out).mono ?_
      rintro e w3 ⟨v3, rfl, hv3, hb3⟩
      have HB3 := Lib.hid (btr HB2.out hb3)
      have HS1 := Lib.hid (Same_eq v2 v3 L1 w3 (HV2.out.below hb3) hv3 HL1.out)
      clear hv3 hb3
      go_wp2_with fail
      refine HS1.out.mono ?_
      rintro e w4 ⟨rfl, hb4⟩
      have HB4 := Lib.hid (btr HB3.out hb4)
      clear hb4
      go_wp2_with fail
      refine (H3.out _ HB4.out).mono ?_
      rintro e w5 ⟨v5, rfl, hv5, hb5⟩
      have HB5 := Lib.hid (btr HB4.out hb5)
      have HV5 := Lib.hid hv5
      clear hv5 hb5
      go_wp2_with fail
      refine (H4.out _ HB5.out).mono ?_
      rintro e w6 ⟨v6, rfl, hv6, hb6⟩
      have HB6 := Lib.hid (btr HB5.out hb6)
      have HS2 := Lib.hid (Same_eq v5 v6 L2 w6 (HV5.out.below hb6) hv6 HL2.out)
      clear hv6 hb6
      go_wp2_with fail
      refine HS2.out.mono ?_
      rintro e w7 ⟨rfl, hb7⟩
      have HB7 := Lib.hid (btr HB6.out hb7)
      clear hb7
      go_wp2_with fail
      refine (H5.out _ HB7.out).mono ?_
      rintro e w8 ⟨A8, c8, rfl, hv8, hb8⟩
      have HB8 := Lib.hid (btr HB7.out hb8)
      have HV8 := Lib.hid hv8
      clear hv8 hb8
      go_wp2_with fail
      refine (H6.out _ HB8.out).mono ?_
      rintro e w9 ⟨A9, c9, rfl, hv9, hb9⟩
      have HB9 := Lib.hid (btr HB8.out hb9)
      have HS3 := Lib.hid (texts_eq A8 A9 c8 c9 L3 w9 (HV8.out.below hb9) hv9 HL3.out)
      clear hv9 hb9
      go_wp2_with fail
      refine HS3.out.mono ?_
      rintro e w10 ⟨rfl, hb10⟩
      have HB10 := Lib.hid (btr HB9.out hb10)
      clear hb10
      go_wp2_with fail
      refine (H7.out _ HB10.out).mono ?_
      rintro e w11 ⟨v11, rfl, hv11, hb11⟩
      have HB11 := Lib.hid (btr HB10.out hb11)
      have HV11 := Lib.hid hv11
      clear hv11 hb11
      go_wp2_with fail
      refine (H8.out _ HB11.out).mono ?_
      rintro e w12 ⟨v12, rfl, hv12, hb12⟩
      have HB12 := Lib.hid (btr HB11.out hb12)
      have HS4 := Lib.hid (Same_eq v11 v12 L4 w12 (HV11.out.below hb12) hv12 HL4.out)
      clear hv12 hb12
      go_wp2_with fail
      refine HS4.out.mono ?_
      rintro e w13 ⟨rfl, hb13⟩
      have HB13 := Lib.hid (btr HB12.out hb13)
      clear hb13
      go_wp2_with fail
      refine (HA.out _ HB13.out).mono ?_
      rintro e w14 ⟨rfl, hb14⟩
      have HB14 := Lib.hid (btr HB13.out hb14)
      clear hb14
      go_wp2
      go_ret
      exact ⟨rfl, HB14.out⟩
end W
end Go.Proofs.YtfigidknocpdaaaDoor
