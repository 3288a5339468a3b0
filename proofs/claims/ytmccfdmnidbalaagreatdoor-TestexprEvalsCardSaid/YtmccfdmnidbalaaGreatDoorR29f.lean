/- Chapter 29: the reference's reader. -/
import Derived.Test.YtmccfdmnidbalaaGreatDoorR29e
import Derived.StillTailTactics
import Derived.Deep.QuietTactic
import Derived.BigQuiet
import Derived.IntWalk
namespace Go.Proofs.YtmccfdmnidbalaaGreatDoor
open Go.RowKit K
namespace W
/-- What does not change while the reader reads. -/
structure RX (w0 : World) (f : Value) (c : List UInt8) (fs : List Fi) (ar : Value) (args : List (List UInt8)) : Prop where
  files : FV w0 f fs
  nf : fs.length ≤ 1000000
  lc : c.length ≤ 200
  rv : RV w0 ar args
  la : ∀ s ∈ args, s.length ≤ 200
  na : args.length ≤ 1000
theorem RB.drewN {w : World} {g : Nat} {a f : Value} {at_ : Nat} {c : List UInt8} {e : Int} {o : Bool} (h : RB w g a at_ f c e o) (n : Nat) : RB (w.drewN n) g a at_ f c e o := h
theorem RB.drew {w : World} {g : Nat} {a f : Value} {at_ : Nat} {c : List UInt8} {e : Int} {o : Bool} (h : RB w g a at_ f c e o) : RB w.drew g a at_ f c e o := h
set_option maxHeartbeats 1000000 in
theorem left_q {w0 : World} {f : Value} {c : List UInt8} {ar : Value} {args : List (List UInt8)} (w : World) (a : Nat) (e : Int) (o : Bool) (z : Int) (hz : (args.length : Int) - (a : Int) = z) (ha : a ≤ args.length) (hn : args.length ≤ 1000) (hr : RV w0 ar args) (hp : RB w w0.heap.size ar a f c e o) :
    Calls Tryz.prog 38 #[.pointer (some ⟨w0.heap.size, 0, none⟩)] w fun e' w' => e' = .returned (.int .i64 z) ∧ ∃ n, w' = w.drewN n := by
  obtain ⟨A, cap, rfl, q1, q2, -⟩ := hr
  obtain ⟨c0, c1, -⟩ := hp.cells
  have hsub : IntKind.i64.wrap ((args.length : Int) - (a : Int)) = z := by rw [hz]; exact IntWalk.i64_in _ (by omega)
  have HZ := Lib.hid hz
  clear hz hp
  go_enter Tryz.func38, Tryz.ntmps38
  go_wp2_with fail
  go_quiet (fail)
  go_wp2
  go_ret
  exact ⟨rfl, _, rfl⟩
/-- What not, and, or of the reference leave. -/
def RPost (w0 : World) (ar f : Value) (c : List UInt8) (args : List (List UInt8)) (q : P.RR) (o : Bool) (e : Ending) (w' : World) : Prop :=
  e = .returned (.bool q.v) ∧ Below w0.heap.size w0 w' ∧ ∃ a' : Nat, a' ≤ args.length ∧ q.rest = args.drop a' ∧ RB w' w0.heap.size ar a' f c (if q.e then 27 else 0) (o || q.o)
def NotD (w0 : World) (f : Value) (c : List UInt8) (fs : List Fi) (ar : Value) (args : List (List UInt8)) (fu : Nat) : Prop := ∀ (a : Nat) (w : World) (o : Bool), a ≤ args.length → 4 * (args.length - a) + 1 ≤ fu → Below w0.heap.size w0 w → RB w w0.heap.size ar a f c 0 o →
  Calls Tryz.prog 56 #[.pointer (some ⟨w0.heap.size, 0, none⟩)] w (RPost w0 ar f c args (P.notR (P.lookF fs c) fu (args.drop a)) o)
def AndD (w0 : World) (f : Value) (c : List UInt8) (fs : List Fi) (ar : Value) (args : List (List UInt8)) (fu : Nat) : Prop := ∀ (a : Nat) (w : World) (o : Bool), a ≤ args.length → 4 * (args.length - a) + 2 ≤ fu → Below w0.heap.size w0 w → RB w w0.heap.size ar a f c 0 o →
  Calls Tryz.prog 47 #[.pointer (some ⟨w0.heap.size, 0, none⟩)] w (RPost w0 ar f c args (P.andR (P.lookF fs c) fu (args.drop a)) o)
def OrD (w0 : World) (f : Value) (c : List UInt8) (fs : List Fi) (ar : Value) (args : List (List UInt8)) (fu : Nat) : Prop := ∀ (a : Nat) (w : World) (o : Bool), a ≤ args.length → 4 * (args.length - a) + 3 ≤ fu → Below w0.heap.size w0 w → RB w w0.heap.size ar a f c 0 o →
  Calls Tryz.prog 37 #[.pointer (some ⟨w0.heap.size, 0, none⟩)] w (RPost w0 ar f c args (P.orR (P.lookF fs c) fu (args.drop a)) o)
theorem binary_q (s : List UInt8) (w0 w : World) (ar f : Value) (a : Nat) (c : List UInt8) (e : Int) (o : Bool) (hb0 : Below w0.heap.size w0 w) (hp : RB w w0.heap.size ar a f c e o) : Calls Tryz.prog 18 #[.string ⟨s.toArray⟩] w fun x w' => x = .returned (.bool (P.isBin s)) ∧ Below w0.heap.size w0 w' ∧ RB w' w0.heap.size ar a f c e o :=
  (binary_ref s w).mono fun _ _ ⟨h1, h2⟩ => ⟨h1, btr hb0 h2, hp.below h2⟩
theorem unary_q (s : List UInt8) (w0 w : World) (ar f : Value) (a : Nat) (c : List UInt8) (e : Int) (o : Bool) (hb0 : Below w0.heap.size w0 w) (hp : RB w w0.heap.size ar a f c e o) : Calls Tryz.prog 20 #[.string ⟨s.toArray⟩] w fun x w' => x = .returned (.bool (P.isUn s)) ∧ Below w0.heap.size w0 w' ∧ RB w' w0.heap.size ar a f c e o :=
  (unary_ref s w).mono fun _ _ ⟨h1, h2⟩ => ⟨h1, btr hb0 h2, hp.below h2⟩
theorem rpost {w0 : World} {ar f : Value} {c : List UInt8} {args : List (List UInt8)} {q : P.RR} {o : Bool} {w' : World} (v : Bool) (a' : Nat) (hv : q.v = v) (hb : Below w0.heap.size w0 w') (ha : a' ≤ args.length) (hr : q.rest = args.drop a') (hB : RB w' w0.heap.size ar a' f c (if q.e then 27 else 0) (o || q.o)) : RPost w0 ar f c args q o (.returned (.bool v)) w' := by
  subst hv
  exact ⟨rfl, hb, a', ha, hr, hB⟩
theorem RB.at1 {w : World} {g : Nat} {a f : Value} {at_ : Nat} {c : List UInt8} {e : Int} {o : Bool} (h : RB w g a at_ f c e o) (x : Int) (n : Nat) (hx : x = (n : Int)) : RB (w.setCell ⟨g, 1, none⟩ (.int .i64 x)) g a n f c e o := by
  subst hx
  exact h.set1 n
end W
end Go.Proofs.YtmccfdmnidbalaaGreatDoor
