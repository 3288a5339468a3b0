/- Chapter 29: Eval. -/
import Derived.Test.YtmccfdmnidbalaaGreatDoorW29n
namespace Go.Proofs.YtmccfdmnidbalaaGreatDoor
open Go.RowKit K
namespace W
/-- What Eval returns. -/
def EPost (w : World) (q : Bool × Int) (e : Ending) (w' : World) : Prop := e = .returned (.tuple #[.bool q.1, .int .i64 q.2]) ∧ Below w.heap.size w w'
set_option maxHeartbeats 1000000 in
theorem Eval_of (w : World) (f : Value) (c : List UInt8) (fs : List Fi) (h : CX w f c fs) (v : Value) (args : List (List UInt8)) (hA : RV w v args) (hs : ∀ s ∈ args, SOK s) :
    Calls Tryz.prog 6 #[v, f, .string ⟨c.toArray⟩] w (EPost w (P.evalP (P.lookF fs c) args)) := by
  obtain ⟨x, hx⟩ : ∃ x, x = w.alloc (.cells #[.slice none 0 0, f, .string ⟨c.toArray⟩, .bool false, .bool false] 37) := ⟨_, rfl⟩
  have hpb : PB x w.heap.size (.slice none 0 0) f c false false := by rw [hx]; exact heap_alloc_new w _
  have hbx : Below w.heap.size w x := by rw [hx]; exact balloc _ _
  have HX := Lib.hid hx
  have HW := Lib.hid (whole_of h v args hA hs x (.slice none 0 0) false false hbx hpb)
  have HE := Lib.hid (show P.evalP (P.lookF fs c) args = if (P.wholeP (P.lookF fs c) args).u then (false, 27) else if (P.wholeP (P.lookF fs c) args).i then (false, 1) else ((P.wholeP (P.lookF fs c) args).v, 0) from rfl)
  unfold EPost
  generalize P.evalP (P.lookF fs c) args = E at HE ⊢
  generalize P.wholeP (P.lookF fs c) args = Q at HE HW
  unfold GPost at HW
  obtain ⟨A, cap, rfl, -⟩ := hA
  obtain ⟨Af, capf, hf, -⟩ := h.files
  subst hf
  clear hx hpb hbx hs h
  go_enter Tryz.func6, Tryz.ntmps6
  go_wp2_with fail
  rw [← HX.out]
  refine HW.out.mono ?_
  rintro e w1 ⟨rfl, hb1, r1, hp1⟩
  rw [Bool.false_or, Bool.false_or] at hp1
  have HB1 := Lib.hid hb1
  obtain ⟨c0, c1, c2, c3, c4⟩ := hp1.cells
  clear hb1 hp1
  obtain ⟨qv, qu, qi⟩ := Q
  simp only at c3 c4 HE
  cases qu with
  | true =>
    have HF := Lib.hid (show E = (false, 27) from HE.out)
    go_wp2
    refine bodyPost_ret (v := .tuple #[.bool false, .int .i64 27]) (by simp [results, Tryz.results6, go_sem]) rfl ⟨by rw [HF.out], HB1.out⟩
  | false =>
    cases qi with
    | true =>
      have HF := Lib.hid (show E = (false, 1) from HE.out)
      go_wp2
      refine bodyPost_ret (v := .tuple #[.bool false, .int .i64 1]) (by simp [results, Tryz.results6, go_sem]) rfl ⟨by rw [HF.out], HB1.out⟩
    | false =>
      have HF := Lib.hid (show E = (qv, 0) from HE.out)
      go_wp2
      refine bodyPost_ret (v := .tuple #[.bool qv, .int .i64 0]) (by simp [results, Tryz.results6, go_sem]) rfl ⟨by rw [HF.out], HB1.out⟩
end W
end Go.Proofs.YtmccfdmnidbalaaGreatDoor
