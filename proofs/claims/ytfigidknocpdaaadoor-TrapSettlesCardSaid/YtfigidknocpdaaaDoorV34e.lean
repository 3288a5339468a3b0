/- Chapter 34: the law TrapRequests, walked. -/
import Derived.Test.YtfigidknocpdaaaDoorV34b
import Derived.Test.YtfigidknocpdaaaDoorW34v
import Derived.StillTailTactics
namespace Go.Proofs.YtfigidknocpdaaaDoor
open Go.RowKit K
namespace K
theorem rcell_len (r : Int × Int) : (rcell r).length = 12 := rfl
theorem rcells_at : ∀ (rs : List (Int × Int)) (k : Nat), k < rs.length → ∀ j, j < 12 → (rcells rs)[k * 12 + j]? = (rcell (rs.getD k (0, 0)))[j]?
  | [], k, h, _, _ => by simp at h
  | r :: l, 0, _, j, hj => by
    rw [rcells, List.getElem?_append_left (by rw [rcell_len]; omega)]
    simp
  | r :: l, k + 1, h, j, hj => by
    rw [rcells, List.getElem?_append_right (by rw [rcell_len]; omega), rcell_len]
    rw [show (k + 1) * 12 + j - 12 = k * 12 + j by omega, rcells_at l k (by simpa using h) j hj]
    simp
/-- The slice's address A leads to the requests rs. -/
def QL (w : World) (A : Option Addr) (rs : List (Int × Int)) : Prop :=
  ∀ k, k < rs.length → ∃ g, A = some ⟨g, 0, none⟩ ∧ g < w.heap.size ∧ ∀ j u, (rcell (rs.getD k (0, 0)))[j]? = some u → w.cell? ⟨g, k * 12 + j, none⟩ = some u
theorem QL.below {w w' : World} {A : Option Addr} {rs : List (Int × Int)} (h : QL w A rs) (hb : Below w.heap.size w w') : QL w' A rs := fun k hk => by
  obtain ⟨g, e, hg, hc⟩ := h k hk
  exact ⟨g, e, Nat.lt_of_lt_of_le hg hb.size, fun j u hu => (hb.cell (p := ⟨g, k * 12 + j, none⟩) hg).trans (hc j u hu)⟩
theorem QL.own {w : World} {base : Nat} {e : TypeId} {v : Value} {rs : List (Int × Int)} (h : w.ownsRow base e 12 v rs.length (rcells rs)) : ∃ A c, v = .slice A rs.length c ∧ QL w A rs := by
  have h0 := h
  rcases h.2 with ⟨hv, h1⟩ | ⟨g, cap, cur, hv, hg, hh, h1, h2, _⟩
  · subst hv
    have : rs = [] := List.eq_nil_of_length_eq_zero h1
    subst this
    exact ⟨none, 0, rfl, fun k hk => by simp at hk⟩
  · subst hv
    refine ⟨some ⟨g, 0, none⟩, cap, rfl, fun k hk => ⟨g, rfl, (Array.getElem?_eq_some_iff.1 hh).1, fun j u hu => ?_⟩⟩
    have hj : j < 12 := by have := (List.getElem?_eq_some_iff.1 hu).1; simpa [rcell_len] using this
    have := h0.cells (g := g) rfl (k * 12 + j) u (by rw [rcells_at rs k hk j hj]; exact hu)
    rwa [show (⟨g, 0, none⟩ : Addr).add (k * 12 + j) = ⟨g, k * 12 + j, none⟩ by unfold Addr.add; split <;> simp_all] at this
end K
namespace W
/-- Requests come back. -/
def MPost' (w : World) (rs : List (Int × Int)) (e : Ending) (w' : World) : Prop := ∃ A c, e = .returned (.slice A rs.length c) ∧ QL w' A rs ∧ Below w.heap.size w w'
theorem RPost.q {w : World} {rs : List (Int × Int)} {e : Ending} {w' : World} (h : RPost w rs e w') : MPost' w rs e w' := by
  obtain ⟨v, h1, h2, h3⟩ := h
  obtain ⟨A, c, rfl, h4⟩ := QL.own h2
  exact ⟨A, c, h1, h4, h3⟩
set_option maxHeartbeats 2000000 in
set_option maxRecDepth 100000 in
theorem TrapRequests_any (v1 : Value) (t1 : List Tr) (v2 : Value) (t2 : List Tr) (talks : Bool) (w : World) (hV1 : TV w v1 t1) (hS1 : ∀ t ∈ t1, t.2.length ≤ 140737488351232) (hV2 : TV w v2 t2) (hS2 : ∀ t ∈ t2, t.2.length ≤ 140737488351232) (hw : Env w) :
    Calls Tryd.prog 5 #[v1, v2, .bool talks] w fun e w' => e = .returned (.bool true) ∧ Below w.heap.size w w' := by
  have HA := Lib.hid (fun w' (hb : Below w.heap.size w w') => awake_any w' (hw.below hb))
  have HOK := Lib.hid (ok_any v1 t1 w hV1 hS1)
  have HOK2 := Lib.hid (fun w' (hb : Below w.heap.size w w') => ok_any v2 t2 w' (hV2.below hb) hS2)
  obtain ⟨A, c, hv1, -⟩ := id hV1
  obtain ⟨A', c', hv2, -⟩ := id hV2
  cases hok : P.okB t1 with
  | false =>
    rw [hok] at HOK
    subst hv1 hv2
    clear hok hS1 hS2 hw hV1 hV2
    go_enter Tryd.func5, Tryd.ntmps5
    go_wp2_with fail; refine (HOK.out).mono ?_; rintro e w1 ⟨rfl, hb⟩
    have HB := Lib.hid hb
    clear hb
    go_wp2_with fail
    refine (HA.out _ HB.out).mono ?_
    rintro e w2 ⟨rfl, hb2⟩
    have HB2 := Lib.hid (btr HB.out hb2)
    clear hb2
    go_wp2
    go_ret
    exact ⟨rfl, HB2.out⟩
  | true =>
    rw [hok] at HOK
    cases hok2 : P.okB t2 with
    | false =>
      rw [hok2] at HOK2
      subst hv1 hv2
      clear hok hok2 hS1 hS2 hw hV1 hV2
      go_enter Tryd.func5, Tryd.ntmps5
      go_wp2_with fail; refine (HOK.out).mono ?_; rintro e w1 ⟨rfl, hb⟩
      have HB := Lib.hid hb
      clear hb
      go_wp2_with fail
      refine (HOK2.out _ HB.out).mono ?_
      rintro e w2 ⟨rfl, hb2⟩
      have HB2 := Lib.hid (btr HB.out hb2)
      clear hb2
      go_wp2_with fail
      refine (HA.out _ HB2.out).mono ?_
      rintro e w3 ⟨rfl, hb3⟩
      have HB3 := Lib.hid (btr HB2.out hb3)
      clear hb3
      go_wp2
      go_ret
      exact ⟨rfl, HB3.out⟩
    | true =>
      rw [hok2] at HOK2
      obtain ⟨hn1, hr1, -⟩ := P.ok_len hok
      obtain ⟨hn2, hr2, -⟩ := P.ok_len hok2
      have H1 := Lib.hid (fun w' (hb : Below w.heap.size w w') => (Requests_any v1 v2 t1 t2 talks w' (hV1.below hb) (hV2.below hb) (by omega) (by omega) (P.right_in hr1) (P.right_in hr2) (hw.below hb)).mono fun _ _ h => h.q)
      have H2 := Lib.hid (fun w' (hb : Below w.heap.size w w') => (Requests_ref v1 v2 t1 t2 talks w' (hV1.below hb) (hV2.below hb) (by omega) (by omega)).mono fun _ _ h => h.q)
      rw [← P.requests_eq hr1 hr2] at H2
      have hrl := P.requests_len hr1 hr2 talks
      have HRL := Lib.hid hrl
      generalize P.requests t1 t2 talks = R at H1 H2 HRL hrl
      obtain ⟨n, hRn⟩ : ∃ n, R.length = n := ⟨_, rfl⟩
      have HRN := Lib.hid hRn
      unfold MPost' at H1 H2
      rw [hRn] at H1 H2 hrl
      subst hv1 hv2
      clear hok hok2 hS1 hS2 hw hV1 hV2 hn1 hn2 hr1 hr2 hRn
      go_enter Tryd.func5, Tryd.ntmps5
      go_wp2_with fail; refine (HOK.out).mono ?_; rintro e w1 ⟨rfl, hb⟩
      have HB := Lib.hid hb
      clear hb
      go_wp2_with fail
      refine (HOK2.out _ HB.out).mono ?_
      rintro e w2 ⟨rfl, hb2⟩
      have HB2 := Lib.hid (btr HB.out hb2)
      clear hb2
      go_wp2_with fail
      refine (H1.out _ HB2.out).mono ?_
      rintro e w3 ⟨A3, c3, rfl, hq3, hb3⟩
      have HB3 := Lib.hid (btr HB2.out hb3)
      have HQ3 := Lib.hid hq3
      clear hq3 hb3
      go_wp2_with fail
      refine (H2.out _ HB3.out).mono ?_
      rintro e w4 ⟨A4, c4, rfl, hq4, hb4⟩
      have HB4 := Lib.hid (btr HB3.out hb4)
      have HQ4 := Lib.hid hq4
      have HQ34 := Lib.hid (HQ3.out.below hb4)
      have e1 : ((n : Int) != (n : Int)) = false := by simp
      clear hq4 hb4
      go_wp2
      go_loopw [9] (fun i wr => ∃ k : Nat, k ≤ n ∧ i = .int .i64 k ∧ Below w4.heap.size w4 wr) (fun i _ => n - (intOf i).toNat)
      case atStart => exact ⟨0, by omega, rfl, Below.refl _ _⟩
      case round =>
        obtain ⟨k, hk, rfl, hbw⟩ := hrel
        have HBw := Lib.hid hbw
        by_cases hlt : k < n
        · obtain ⟨g, rfl, hg, hc⟩ := (HQ34.out.below hbw) k (by rw [HRN.out]; exact hlt)
          obtain ⟨g', rfl, hg', hc'⟩ := (HQ4.out.below hbw) k (by rw [HRN.out]; exact hlt)
          obtain ⟨⟨z, d⟩, hr⟩ : ∃ r, R.getD k (0, 0) = r := ⟨_, rfl⟩
          rw [hr] at hc hc'
          have a0 := hc 0 _ rfl
          have a1 := hc 1 _ rfl
          have a2 := hc 2 _ rfl
          have a3 := hc 3 _ rfl
          have a4 := hc 4 _ rfl
          have a5 := hc 5 _ rfl
          have a6 := hc 6 _ rfl
          have a7 := hc 7 _ rfl
          have a8 := hc 8 _ rfl
          have a9 := hc 9 _ rfl
          have a10 := hc 10 _ rfl
          have a11 := hc 11 _ rfl
          have b0 := hc' 0 _ rfl
          have b1 := hc' 1 _ rfl
          have b2 := hc' 2 _ rfl
          have b3 := hc' 3 _ rfl
          have b4 := hc' 4 _ rfl
          have b5 := hc' 5 _ rfl
          have b6 := hc' 6 _ rfl
          have b7 := hc' 7 _ rfl
          have b8 := hc' 8 _ rfl
          have b9 := hc' 9 _ rfl
          have b10 := hc' 10 _ rfl
          have b11 := hc' 11 _ rfl
          have k0 : (0 : Int) ≤ (k : Int) := by omega
          have k1 : (k : Int) < (n : Int) := by omega
          have HSR := Lib.hid (fun w' => SameReq_eq (z, d) w')
          unfold rcell at HSR
          simp only [Nat.add_zero] at a0 b0
          clear hc hc' hr hbw
          go_wp2_with fail
          refine wp_region_still_tail 8 (by kernel_rfl) (by kernel_rfl) ?_
          simp only [List.take_succ_cons, List.take_zero, List.drop_succ_cons, List.drop_zero]
          repeat still_step
          refine wpStill_nil ?_
          change wpList _ _ _ _ _ wr.drew
          go_wp2_with fail
          refine (HSR.out _).mono ?_
          rintro e w5 ⟨rfl, hb5⟩
          have HB5 := Lib.hid (show Below w4.heap.size w4 w5 from btr HBw.out.drew hb5)
          clear hb5 a0 a1 a2 a3 a4 a5 a6 a7 a8 a9 a10 a11 b0 b1 b2 b3 b4 b5 b6 b7 b8 b9 b10 b11
          go_wp2
          go_roundw
          case rel => exact ⟨k + 1, by omega, by go_num, HB5.out⟩
          case measure => simp [intOf]; omega
        · go_wp2_with fail
          refine (HA.out _ (btr HB4.out HBw.out)).mono ?_
          rintro e w6 ⟨rfl, hb6⟩
          have HB6 := Lib.hid (btr (btr HB4.out HBw.out) hb6)
          clear hb6 hbw
          go_wp2
          go_ret
          exact ⟨rfl, HB6.out⟩
end W
end Go.Proofs.YtfigidknocpdaaaDoor
