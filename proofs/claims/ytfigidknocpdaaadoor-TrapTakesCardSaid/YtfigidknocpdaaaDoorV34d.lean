/- Chapter 34: the law TrapNexts, walked. -/
import Derived.Test.YtfigidknocpdaaaDoorV34b
import Derived.Test.YtfigidknocpdaaaDoorO34c
namespace Go.Proofs.YtfigidknocpdaaaDoor
open Go.RowKit K
namespace P
/-- What Next returns: the trap's signal and action, the rest, whether there is one. -/
def nextP (ts : List Tr) (ps : List Int) : Int × List UInt8 × List Int × Bool :=
  if due ts ps = [] then (0, [], [], false) else (Lib.minOf (due ts ps), (look ts (Lib.minOf (due ts ps))).getD [], (due ts ps).filter (· != Lib.minOf (due ts ps)), true)
theorem nextP_len (ts : List Tr) (ps : List Int) : (nextP ts ps).2.2.1.length ≤ ps.length := by
  unfold nextP
  split
  · simp
  · have h1 := List.length_filter_le (· != Lib.minOf (due ts ps)) (due ts ps)
    have h2 : (due ts ps).length ≤ ps.length := List.length_filter_le _ _
    show (List.filter _ _).length ≤ _
    omega
end P
namespace W
theorem IL.own {w : World} {base : Nat} {e : TypeId} {v : Value} {zs : List Int} (h : w.ownsRow base e 1 v zs.length (zs.map (.int .i64))) : ∃ A c, v = .slice A zs.length c ∧ IL .i64 w A zs := by
  rcases h.2 with ⟨hv, h1⟩ | ⟨g, cap, cur, hv, hg, hh, h1, h2, _⟩
  · subst hv
    have : zs = [] := List.eq_nil_of_length_eq_zero h1
    subst this
    exact ⟨none, 0, rfl, IL.nil _ _ _⟩
  · subst hv
    exact ⟨some ⟨g, 0, none⟩, cap, rfl, fun _ => ⟨g, 0, rfl, (Array.getElem?_eq_some_iff.1 hh).1, fun i hi => int_cells h i hi⟩⟩
/-- The next trap, the rest, whether there is one. -/
def QPost (w : World) (q : Int × List UInt8 × List Int × Bool) (e : Ending) (w' : World) : Prop :=
  ∃ A c, e = .returned (.tuple #[.agg #[.int .i64 q.1, .string ⟨q.2.1.toArray⟩], .slice A q.2.2.1.length c, .bool q.2.2.2]) ∧ IL .i64 w' A q.2.2.1 ∧ Below w.heap.size w w'
theorem Next_q (v : Value) (ts : List Tr) (Ap : Option Addr) (cp : Nat) (ps : List Int) (w : World) (hV : TV w v ts) (hn : ts.length ≤ 1000) (hr : P.right ts = true) (hP : IL .i64 w Ap ps) (hp : ps.length ≤ 1000) (hpw : ∀ z ∈ ps, (Lit.int .i64 z).wf = true) :
    Calls Tryd.prog 14 #[v, .slice Ap ps.length cp] w (QPost w (P.nextP ts ps)) := by
  refine (Next_any v ts Ap cp ps w hV hn (P.right_in hr) hP hp hpw).mono ?_
  rintro e w' ⟨hb, ⟨hd, he⟩ | ⟨u, hd, he, ho⟩⟩
  · unfold P.nextP
    rw [if_pos hd]
    exact ⟨none, 0, he, IL.nil _ _ _, hb⟩
  · unfold P.nextP
    rw [if_neg hd]
    obtain ⟨A, c, rfl, hI⟩ := IL.own ho
    have hm := minOf_mem hd
    have ha := (List.mem_filter.1 hm).2
    rw [P.dueB_eq hr] at ha
    obtain ⟨_, s, hs, _⟩ := P.acts_look ha
    refine ⟨A, c, ?_, hI, hb⟩
    rw [he]
    unfold valT
    rw [P.trapsF_eq hr, ha, hs]
    rfl
theorem NextR_q (v : Value) (ts : List Tr) (Ap : Option Addr) (cp : Nat) (ps : List Int) (w : World) (hV : TV w v ts) (hn : ts.length ≤ 1000) (hr : P.right ts = true) (hP : IL .i64 w Ap ps) (hp : ps.length ≤ 1000) :
    Calls Tryd.prog 15 #[v, .slice Ap ps.length cp] w (QPost w (P.nextP ts ps)) := by
  refine (Next_ref v ts Ap cp ps w hV hn hP hp).mono ?_
  rintro e w' ⟨hb, ⟨hd, he⟩ | ⟨u, s, hd, hs, he, ho⟩⟩
  · unfold P.nextP
    rw [if_pos ((P.least_zero hr ps).1 hd)]
    exact ⟨none, 0, he, IL.nil _ _ _, hb⟩
  · have hd' : ¬ P.due ts ps = [] := fun h => hd ((P.least_zero hr ps).2 h)
    have hm : P.leastR ts ps = Lib.minOf (P.due ts ps) := by rw [P.leastR_eq hr, if_neg hd']
    rw [hm] at hs he ho
    rw [P.rest_eq hr] at ho
    unfold P.nextP
    rw [if_neg hd']
    obtain ⟨A, c, rfl, hI⟩ := IL.own ho
    refine ⟨A, c, ?_, hI, hb⟩
    rw [he, hs]
    rfl
theorem ints_eq (A B : Option Addr) (ca cb : Nat) (la : List Int) (w : World) (hTa : IL .i64 w A la) (hTb : IL .i64 w B la) (hna : la.length ≤ 1000) :
    Calls Tryd.prog 16 #[.slice A la.length ca, .slice B la.length cb] w fun e w' => e = .returned (.bool true) ∧ Below w.heap.size w w' :=
  (ints_any A B ca cb la la w hTa hTb (by omega)).mono fun _ _ ⟨h1, h2⟩ => ⟨by rw [h1]; simp, h2⟩

set_option maxHeartbeats 2000000 in
set_option maxRecDepth 100000 in
theorem TrapNexts_any (v : Value) (ts : List Tr) (vp : Value) (ps : List Int) (w : World) (hV : TV w v ts) (hS : ∀ t ∈ ts, t.2.length ≤ 140737488351232) (hP : IV w vp ps) (hpw : ∀ z ∈ ps, (Lit.int .i64 z).wf = true) (hw : Env w) :
    Calls Tryd.prog 4 #[v, vp] w fun e w' => e = .returned (.bool true) ∧ Below w.heap.size w w' := by
  have HA := Lib.hid (fun w' (hb : Below w.heap.size w w') => awake_any w' (hw.below hb))
  have HOK := Lib.hid (ok_any v ts w hV hS)
  obtain ⟨A, c, hv, -⟩ := id hV
  obtain ⟨Ap, cp, rfl, hp1, hp2, -, hI⟩ := hP
  cases hok : P.okB ts with
  | false =>
    rw [hok] at HOK
    subst hv
    clear hok hS hw hV hI hpw
    go_enter Tryd.func4, Tryd.ntmps4
    go_wp2_with fail; refine (HOK.out).mono ?_; rintro e w1 ⟨rfl, hb⟩
    have HB := Lib.hid hb
    clear hb
    go_wp2_with fail
    refine (HA.out _ HB.out).mono ?_
    rintro e w2 ⟨rfl, hb2⟩
    have HB2 := Lib.hid (btr HB.out hb2)
    clear hb2
    go_wp2
    go_ret
    exact ⟨rfl, HB2.out⟩
  | true =>
    rw [hok] at HOK
    obtain ⟨hn, hr, hsm⟩ := P.ok_len hok
    by_cases hl : 60 < ps.length
    · have e1 : ((60 : Int) < (ps.length : Int)) = True := eq_true (by omega)
      subst hv
      clear hok hS hw hV hl hn hr hsm hI hpw
      go_enter Tryd.func4, Tryd.ntmps4
      go_wp2_with fail; refine (HOK.out).mono ?_; rintro e w1 ⟨rfl, hb⟩
      have HB := Lib.hid hb
      clear hb
      go_wp2_with fail
      refine (HA.out _ HB.out).mono ?_
      rintro e w2 ⟨rfl, hb2⟩
      have HB2 := Lib.hid (btr HB.out hb2)
      clear hb2
      go_wp2
      go_ret
      exact ⟨rfl, HB2.out⟩
    · have e1 : ((60 : Int) < (ps.length : Int)) = False := eq_false (by omega)
      have H1 := Lib.hid (fun w' (hb : Below w.heap.size w w') => Next_q v ts Ap cp ps w' (hV.below hb) (by omega) hr (hI.below hb) (by omega) hpw)
      have H2 := Lib.hid (fun w' (hb : Below w.heap.size w w') => NextR_q v ts Ap cp ps w' (hV.below hb) (by omega) hr (hI.below hb) (by omega))
      have HL := Lib.hid (show (P.nextP ts ps).2.2.1.length ≤ 60 by have := P.nextP_len ts ps; omega)
      obtain ⟨⟨m, s, zs, f⟩, hq⟩ : ∃ q, P.nextP ts ps = q := ⟨_, rfl⟩
      rw [hq] at H1 H2 HL
      simp only at HL
      have hp1' : Tryd.prog.stoodInHeld 30 = false := by kernel_rfl
      have hp2' : Tryd.prog.eqGuardType Tryd.prog.depth 30 = false := by kernel_rfl
      subst hv
      clear hok hS hw hV hl hn hr hsm hI hpw hq
      go_enter Tryd.func4, Tryd.ntmps4
      go_wp2_with fail; refine (HOK.out).mono ?_; rintro e w1 ⟨rfl, hb⟩
      have HB := Lib.hid hb
      clear hb
      go_wp2_with fail
      refine (H1.out _ HB.out).mono ?_
      rintro e w2 ⟨A2, c2, rfl, hI2, hb2⟩
      have HB2 := Lib.hid (btr HB.out hb2)
      have HI2 := Lib.hid hI2
      obtain ⟨x2, hx2⟩ : ∃ x, x = w2.alloc (.cells #[.int .i64 m, .string ⟨s.toArray⟩] 30) := ⟨_, rfl⟩
      have HX2 := Lib.hid hx2
      have B2 := Lib.hid (show Below w2.heap.size w2 x2 by rw [hx2]; exact balloc _ _)
      have D2 := Lib.hid (show x2.heap[w2.heap.size]? = some (.cells #[.int .i64 m, .string ⟨s.toArray⟩] 30 (0, 0)) by rw [hx2]; exact heap_alloc_new w2 _)
      have S2 := Lib.hid (show w2.heap.size < x2.heap.size by rw [hx2]; simp)
      clear hI2 hb2 hx2
      simp only
      go_wp2_with fail
      rw [← HX2.out]
      refine (H2.out _ (btr HB2.out B2.out)).mono ?_
      rintro e w3 ⟨A3, c3, rfl, hI3, hb3⟩
      have B23 := Lib.hid (btr B2.out hb3)
      have HI3 := Lib.hid hI3
      obtain ⟨x3, hx3⟩ : ∃ x, x = w3.alloc (.cells #[.int .i64 m, .string ⟨s.toArray⟩] 30) := ⟨_, rfl⟩
      have HX3 := Lib.hid hx3
      have B3 := Lib.hid (show Below w3.heap.size w3 x3 by rw [hx3]; exact balloc _ _)
      obtain ⟨g0, g1, -, -⟩ := box_cells ((hb3.block w2.heap.size S2.out).trans D2.out)
      have hne : w2.heap.size < w3.heap.size := Nat.lt_of_lt_of_le S2.out hb3.size
      have hne2 : ¬ w2.heap.size = w3.heap.size := by omega
      have HS := Lib.hid (ints_eq A2 A3 c2 c3 zs x3 ((HI2.out.below B23.out).below B3.out) (hI3.below B3.out) (by have := HL.out; omega))
      have HB3 := Lib.hid (btr HB2.out (btr B23.out B3.out))
      clear hI3 hb3 hx3
      simp only
      go_wp2_with fail
      rw [← HX3.out]
      refine HS.out.mono ?_
      rintro e w4 ⟨rfl, hb4⟩
      have HB4 := Lib.hid (btr HB3.out hb4)
      clear hb4
      go_wp2_with fail
      refine (HA.out _ HB4.out).mono ?_
      rintro e w5 ⟨rfl, hb5⟩
      have HB5 := Lib.hid (btr HB4.out hb5)
      clear hb5
      go_wp2
      go_ret
      exact ⟨rfl, HB5.out⟩
end W
end Go.Proofs.YtfigidknocpdaaaDoor
