/- Chapter 43: the walk of the law HistoryValid. -/
import Derived.Test.YtbiilbdflmiehaaDoorW43l
import Derived.Test.YtbiilbdflmiehaaDoorW43d
import Derived.Deep.RegionHeld3
namespace Go.Proofs.YtbiilbdflmiehaaDoor
open Go.RowKit K
namespace W

set_option maxHeartbeats 4000000 in
set_option maxRecDepth 100000 in
theorem HistoryValid_walk (v : Value) (first : Int) (ls : List (List UInt8)) (w : World) (hV : HV w v first ls) (hn : ls.length ≤ 8796093022208) (hs : ∀ s ∈ ls, s.length ≤ 140737488351232) (hw : Env w) :
    Calls Tryd.prog 3 #[v] w fun e w' => e = .returned (.bool true) ∧ Below w.heap.size w w' := by
  have HA := Lib.hid awake_any
  have HSS := Lib.hid hs
  have HV0 := Lib.hid hV
  obtain ⟨A, c, rfl, -, hd, -, hS⟩ := hV
  have HS0 := Lib.hid hS
  clear hS
  obtain ⟨x0, q0, hX0, hy0, hz0⟩ := Box2.fresh w first A ls.length c 24
  have HX0 := Lib.hid hX0
  have Q0 := Lib.hid q0
  have HB0 := Lib.hid hy0
  have HE := Lib.hid hw
  clear hX0 q0 hy0 hw hs
  simp only [hv] at *
  have HSM := Lib.hid (fun w' (hb : Below w.heap.size w w') => Small_ref first A c ls _ w' hn (HS0.out.below hb) HSS.out (Nat.le_refl _))
  obtain ⟨c0, c1, _, _⟩ := HX0.out.cells
  cases hsm : P.small ls with
  | false =>
    rw [hsm] at HSM
    clear hsm
    go_enter Tryd.func3, Tryd.ntmps3
    go_wp2_with fail
    rw [← Q0.out]
    go_region_with (first
        | (go_at_call 10; refine (HSM.out _ HB0.out.drew).mono ?_; rintro e w1 ⟨rfl, hb1⟩)
        | (go_at_call 13; refine (HA.out _ (HE.out.below (btr HB0.out.drew hb1))).mono ?_; rintro e w2 ⟨rfl, hb2⟩))
    all_goals go_wp2
    all_goals go_ret
    all_goals exact ⟨rfl, btr (btr HB0.out.drew hb1) hb2⟩
  | true =>
    obtain ⟨l1, l2⟩ := P.small_total hsm
    have HM := Lib.hid (show ∀ s ∈ ls, s.length ≤ 31000 from fun s hs => by have := P.total_mem hs; omega)
    have HVA := Lib.hid (fun w' (hb : Below w.heap.size w w') => Valid_any first A c ls 31000 w' hn (HS0.out.below hb) HM.out (by omega))
    have HVR := Lib.hid (fun w' (hb : Below w.heap.size w w') => Valid_ref first A c ls 31000 w' hn (HS0.out.below hb) HM.out (by omega))
    obtain ⟨V, hV⟩ : ∃ V, P.valid first ls = V := ⟨_, rfl⟩
    rw [hV] at HVA HVR
    rw [hsm] at HSM
    clear hsm hV
    go_enter Tryd.func3, Tryd.ntmps3
    go_wp2_with fail
    rw [← Q0.out]
    go_region_held3 (fun w' => w'.cell? ⟨w.heap.size, 0, none⟩ = some (.int .i64 first) ∧ w'.cell? ⟨w.heap.size, 1, none⟩ = some (.slice A ls.length c) ∧ Below x0.heap.size x0 w') (first | exact ⟨by simpa using c0, by simpa using c1, (Below.refl _ _).drew⟩ | (go_split_ands; exact ⟨((HX0.out.later (btr ‹Below x0.heap.size x0 _› ‹_›)).cells).1, ((HX0.out.later (btr ‹Below x0.heap.size x0 _› ‹_›)).cells).2.1, btr ‹Below x0.heap.size x0 _› ‹_›⟩) | go_keep)
      (first
        | (go_at_call 10; go_split_ands; refine (HSM.out _ (btr HB0.out ‹Below x0.heap.size x0 _›)).mono ?_; rintro e w1 ⟨rfl, hb1⟩)
        | (go_at_call 11; go_split_ands; refine (HVA.out _ (btr HB0.out ‹Below x0.heap.size x0 _›)).mono ?_; rintro e w1 ⟨rfl, hb1⟩)
        | (go_at_call 12; go_split_ands; refine (HVR.out _ (btr HB0.out ‹Below x0.heap.size x0 _›)).mono ?_; rintro e w1 ⟨rfl, hb1⟩)
        | (go_at_call 13; go_split_ands; refine (HA.out _ (HE.out.below (btr HB0.out ‹Below x0.heap.size x0 _›))).mono ?_; rintro e w1 ⟨rfl, hb1⟩))
    all_goals go_wp2
    all_goals go_split_ands
    all_goals go_ret
    all_goals exact ⟨rfl, btr HB0.out ‹Below x0.heap.size x0 w1›⟩
end W
end Go.Proofs.YtbiilbdflmiehaaDoor
