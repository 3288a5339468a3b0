/- Chapter 29: two and three arguments. -/
import Derived.Test.YtmccfdmnidbalaaGreatDoorW29h
import Derived.StillTailTactics
namespace Go.Proofs.YtmccfdmnidbalaaGreatDoor
open Go.RowKit K
namespace K
theorem SL.two {w : World} {A : Option Addr} {a b : List UInt8} (h : SL w A [a, b]) : ∃ k off, A = some ⟨k, off, none⟩ ∧ k < w.heap.size ∧ w.cell? ⟨k, off, none⟩ = some (.string ⟨a.toArray⟩) ∧ w.cell? ⟨k, off + 1, none⟩ = some (.string ⟨b.toArray⟩) := by
  obtain ⟨k, off, e, hl, hc⟩ := h (by simp)
  exact ⟨k, off, e, hl, hc 0 (by simp), hc 1 (by simp)⟩
theorem SL.three {w : World} {A : Option Addr} {a b c : List UInt8} (h : SL w A [a, b, c]) : ∃ k off, A = some ⟨k, off, none⟩ ∧ k < w.heap.size ∧ w.cell? ⟨k, off, none⟩ = some (.string ⟨a.toArray⟩) ∧ w.cell? ⟨k, off + 1, none⟩ = some (.string ⟨b.toArray⟩) ∧ w.cell? ⟨k, off + 2, none⟩ = some (.string ⟨c.toArray⟩) := by
  obtain ⟨k, off, e, hl, hc⟩ := h (by simp)
  exact ⟨k, off, e, hl, hc 0 (by simp), hc 1 (by simp), hc 2 (by simp)⟩
theorem SL.drop {w : World} {b off : Nat} {ls : List (List UInt8)} (h : SL w (some ⟨b, off, none⟩) ls) (n : Nat) : SL w (some ⟨b, off + n, none⟩) (ls.drop n) := by
  intro hne
  have hl : n < ls.length := by
    rcases Nat.lt_or_ge n ls.length with h' | h'
    · exact h'
    · rw [List.drop_eq_nil_of_le h'] at hne; exact absurd rfl hne
  obtain ⟨b', off', e, hlt, hc⟩ := h (by intro e; subst e; simp at hl)
  simp at e
  obtain ⟨rfl, rfl⟩ := e
  refine ⟨b, off + n, rfl, hlt, fun i hi => ?_⟩
  rw [List.length_drop] at hi
  have := hc (n + i) (by omega)
  rw [show off + n + i = off + (n + i) by omega, this]
  simp
theorem SL.take {w : World} {A : Option Addr} {ls : List (List UInt8)} (h : SL w A ls) (n : Nat) : SL w A (ls.take n) := by
  intro hne
  obtain ⟨b, off, e, hlt, hc⟩ := h (by rintro rfl; simp at hne)
  refine ⟨b, off, e, hlt, fun i hi => ?_⟩
  rw [List.length_take] at hi
  rw [hc i (by omega)]
  simp
end K
namespace W
theorem bdN {B : Nat} {a w : World} (h : Below B a w) (n : Nat) : Below B a (w.drewN n) := ⟨h.os, h.tape, h.output, h.size, h.block⟩
theorem PB.drewN {w : World} {g : Nat} {r f : Value} {c : List UInt8} {u i : Bool} (h : PB w g r f c u i) (n : Nat) : PB (w.drewN n) g r f c u i := h
/-- The files, the directory and the library's variables, as the parser was made. -/
structure CX (w0 : World) (f : Value) (c : List UInt8) (fs : List Fi) : Prop where
  env : Env w0
  files : FV w0 f fs
  nf : fs.length ≤ 1000000
  lc : c.length ≤ 1000000
  pc : PathOK (c.drop 1)
def SOK (s : List UInt8) : Prop := s.length ≤ 1000000 ∧ PathOK s
theorem un_ok {w0 : World} {f : Value} {c : List UInt8} {fs : List Fi} (h : CX w0 f c fs) (op x : List UInt8) (hx : SOK x) (w : World) (r : Value) (u i : Bool) (hb0 : Below w0.heap.size w0 w) (hp : PB w w0.heap.size r f c u i) :
    Calls Tryz.prog 29 #[.pointer (some ⟨w0.heap.size, 0, none⟩), .string ⟨op.toArray⟩, .string ⟨x.toArray⟩] w (BPost w0 r f c (P.unV (P.lookF fs c) op x) u i) :=
  unary_of op x w0 w r f c u i fs hb0 hp h.files h.nf h.lc hx.1 h.pc hx.2 (h.env.below hb0)
theorem bin_ok {w0 : World} {f : Value} {c : List UInt8} {fs : List Fi} (h : CX w0 f c fs) (a op b : List UInt8) (ha : SOK a) (hb : SOK b) (w : World) (r : Value) (u i : Bool) (hb0 : Below w0.heap.size w0 w) (hp : PB w w0.heap.size r f c u i) :
    Calls Tryz.prog 31 #[.pointer (some ⟨w0.heap.size, 0, none⟩), .string ⟨a.toArray⟩, .string ⟨op.toArray⟩, .string ⟨b.toArray⟩] w (BPost w0 r f c (P.binV a op b) u (i || P.binI a op b)) :=
  binary_any a op b w0 w r f c u i hb0 hp ha.1 hb.1 (h.env.below hb0)

set_option maxHeartbeats 2000000 in
set_option maxRecDepth 100000 in
theorem two_of {w0 : World} {f : Value} {c : List UInt8} {fs : List Fi} (h : CX w0 f c fs) (a b : List UInt8) (hb : SOK b) (A : Option Addr) (cap : Nat) (hS : SL w0 A [a, b]) (w : World) (r : Value) (u i : Bool) (hb0 : Below w0.heap.size w0 w) (hp : PB w w0.heap.size r f c u i) :
    Calls Tryz.prog 15 #[.pointer (some ⟨w0.heap.size, 0, none⟩), .slice A 2 cap] w (BPost w0 r f c (P.twoP (P.lookF fs c) a b).v (u || (P.twoP (P.lookF fs c) a b).u) (i || (P.twoP (P.lookF fs c) a b).i)) := by
  have HU := Lib.hid (fun w (h1 : Below w0.heap.size w0 w) (h2 : PB w w0.heap.size r f c u i) => un_ok h a b hb w r u i h1 h2)
  have HIU := Lib.hid (fun w => isUnary_any a w)
  unfold BPost at HU ⊢
  obtain ⟨k, off, rfl, hk, s0, s1⟩ := (hS.below hb0).two
  have HB0 := Lib.hid hb0
  have HP := Lib.hid hp
  obtain ⟨c0, c1, c2, c3, c4⟩ := hp.cells
  obtain ⟨f0, f3, f4⟩ := hp.thaw
  by_cases ha : a = [33]
  · subst ha
    have HF := Lib.hid (show P.twoP (P.lookF fs c) [33] b = ⟨b == [], false, false⟩ from rfl)
    generalize P.twoP (P.lookF fs c) [33] b = T at HF
    clear hb0 hp hS h hb
    cases hbe : b with
    | nil =>
      subst hbe
      go_enter Tryz.func15, Tryz.ntmps15
      go_wp2
      go_ret
      exact ⟨by rw [HF.out]; rfl, HB0.out, by rw [HF.out, Bool.or_false, Bool.or_false]; exact HP.out⟩
    | cons x y =>
      subst hbe
      go_enter Tryz.func15, Tryz.ntmps15
      go_wp2
      go_ret
      exact ⟨by rw [HF.out]; rfl, HB0.out, by rw [HF.out, Bool.or_false, Bool.or_false]; exact HP.out⟩
  · have d1 : (a == [33]) = false := by simpa using ha
    cases hu : P.isUn a with
    | true =>
      rw [hu] at HIU
      have HF := Lib.hid (show P.twoP (P.lookF fs c) a b = ⟨P.unV (P.lookF fs c) a b, false, false⟩ by unfold P.twoP; rw [if_neg ha, if_pos hu])
      generalize P.twoP (P.lookF fs c) a b = T at HF
      generalize P.unV (P.lookF fs c) a b = V at HF HU
      clear hb0 hp hS h hb ha hu
      go_enter Tryz.func15, Tryz.ntmps15
      go_wp2_with fail
      refine (HIU.out _).mono ?_
      rintro e w1 ⟨rfl, rfl⟩
      go_wp2_with fail
      refine wp_region_still_tail 7 (by kernel_rfl) (by kernel_rfl) ?_
      simp only [List.take_succ_cons, List.take_zero, List.drop_succ_cons, List.drop_zero]
      repeat still_step
      refine wpStill_nil ?_
      change wpList _ _ _ _ _ w.drew
      go_wp2_with fail
      refine (HU.out _ HB0.out.drew HP.out).mono ?_
      rintro e w2 ⟨rfl, hb2, hp2⟩
      have HB2 := Lib.hid hb2
      have HP2 := Lib.hid hp2
      clear hb2 hp2
      go_wp2
      go_ret
      exact ⟨ret_bool (by rw [HF.out]), HB2.out, by rw [HF.out, Bool.or_false, Bool.or_false]; exact HP2.out⟩
    | false =>
      rw [hu] at HIU
      have HF := Lib.hid (show P.twoP (P.lookF fs c) a b = ⟨false, true, false⟩ by unfold P.twoP; rw [if_neg ha, if_neg (by rw [hu]; simp)])
      generalize P.twoP (P.lookF fs c) a b = T at HF
      have Q1 := Lib.hid (hb0.setCell (p := ⟨w0.heap.size, 3, none⟩) (by simp) (.bool true))
      have Q2 := Lib.hid (hp.set3 true)
      clear hb0 hp hS h hb ha hu
      go_enter Tryz.func15, Tryz.ntmps15
      go_wp2_with fail
      refine (HIU.out _).mono ?_
      rintro e w1 ⟨rfl, rfl⟩
      go_wp2
      go_ret
      exact ⟨ret_bool (by rw [HF.out]), Q1.out, by rw [HF.out, Bool.or_false, Bool.or_true]; exact Q2.out⟩
end W
end Go.Proofs.YtmccfdmnidbalaaGreatDoor
