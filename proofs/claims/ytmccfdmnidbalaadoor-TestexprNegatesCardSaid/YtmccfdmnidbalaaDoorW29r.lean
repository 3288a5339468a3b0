/- Chapter 29: Eval of an operator between two operands. -/
import Derived.Test.YtmccfdmnidbalaaDoorW29q
namespace Go.Proofs.YtmccfdmnidbalaaDoor
open Go.RowKit K
namespace W
set_option maxHeartbeats 2000000 in
set_option maxRecDepth 100000 in
theorem three_bin {w0 : World} {f : Value} {c : List UInt8} (hw0 : Env w0) (a op b : List UInt8) (hop : P.isBin op = true) (ha : a.length ≤ 1000000) (hb : b.length ≤ 1000000) (A : Option Addr) (cap : Nat) (hS : SL w0 A [a, op, b]) (w : World) (r : Value) (u i : Bool) (hb0 : Below w0.heap.size w0 w) (hp : PB w w0.heap.size r f c u i) :
    Calls Tryd.prog 21 #[.pointer (some ⟨w0.heap.size, 0, none⟩), .slice A 3 cap] w (BPost w0 r f c (P.binV a op b) u (i || P.binI a op b)) := by
  have HBI := Lib.hid (fun w (h1 : Below w0.heap.size w0 w) (h2 : PB w w0.heap.size r f c u i) => binary_any a op b w0 w r f c u i h1 h2 ha hb (hw0.below h1))
  have HIB := Lib.hid (fun w => isBinary_any op w)
  obtain ⟨k, off, hA, hk, s0, s1, s2⟩ := (hS.below hb0).three
  unfold BPost at HBI ⊢
  subst hA
  have HB0 := Lib.hid hb0
  have HP := Lib.hid hp
  rw [hop] at HIB
  generalize P.binV a op b = V at HBI ⊢
  generalize P.binI a op b = I at HBI ⊢
  clear hb0 hp hS ha hb hop hw0
  go_enter Tryd.func21, Tryd.ntmps21
  go_wp2_with fail
  go_quiet (fail)
  go_wp2_with fail
  refine (HIB.out _).mono ?_
  rintro e w1 ⟨rfl, rfl⟩
  go_wp2_with fail
  refine (HBI.out _ (bdN HB0.out _) (HP.out.drewN _)).mono ?_
  rintro e w2 ⟨rfl, hb2, hp2⟩
  have HB2 := Lib.hid hb2
  have HP2 := Lib.hid hp2
  clear hb2 hp2
  go_wp2
  go_ret
  exact ⟨rfl, HB2.out, HP2.out⟩
set_option maxHeartbeats 2000000 in
set_option maxRecDepth 100000 in
theorem whole_bin {w0 : World} {f : Value} {c : List UInt8} (hw0 : Env w0) (a op b : List UInt8) (hop : P.isBin op = true) (ha : a.length ≤ 1000000) (hb : b.length ≤ 1000000) (A : Option Addr) (cap : Nat) (hS : SL w0 A [a, op, b]) (w : World) (r : Value) (u i : Bool) (hb0 : Below w0.heap.size w0 w) (hp : PB w w0.heap.size r f c u i) :
    Calls Tryd.prog 15 #[.pointer (some ⟨w0.heap.size, 0, none⟩), .slice A 3 cap] w (BPost w0 r f c (P.binV a op b) u (i || P.binI a op b)) := by
  have HT := Lib.hid (three_bin hw0 a op b hop ha hb A cap hS w r u i hb0 hp)
  unfold BPost at HT ⊢
  generalize P.binV a op b = V at HT ⊢
  generalize P.binI a op b = I at HT ⊢
  clear hb0 hp hS ha hb hop hw0
  go_enter Tryd.func15, Tryd.ntmps15
  go_wp2_with fail
  refine HT.out.mono ?_
  rintro e w1 ⟨rfl, hb1, hp1⟩
  have HB1 := Lib.hid hb1
  have HP1 := Lib.hid hp1
  clear hb1 hp1
  go_wp2
  go_ret
  exact ⟨rfl, HB1.out, HP1.out⟩
end W
namespace P
/-- What Eval returns for an operator between two operands. -/
def bin3 (a op b : Str) : Bool × Int := if binI a op b then (false, 1) else (binV a op b, 0)
end P
namespace W
set_option maxHeartbeats 1000000 in
theorem Eval_bin (w : World) (A Af : Option Addr) (nf cf cap : Nat) (c a op b : List UInt8) (hw : Env w) (hop : P.isBin op = true) (ha : a.length ≤ 1000000) (hb : b.length ≤ 1000000) (hS : SL w A [a, op, b]) :
    Calls Tryd.prog 9 #[.slice A 3 cap, .slice Af nf cf, .string ⟨c.toArray⟩] w (EPost w (P.bin3 a op b)) := by
  obtain ⟨x, hx⟩ : ∃ x, x = w.alloc (.cells #[.slice none 0 0, .slice Af nf cf, .string ⟨c.toArray⟩, .bool false, .bool false] 41) := ⟨_, rfl⟩
  have hpb : PB x w.heap.size (.slice none 0 0) (.slice Af nf cf) c false false := by rw [hx]; exact heap_alloc_new w _
  have hbx : Below w.heap.size w x := by rw [hx]; exact balloc _ _
  have HX := Lib.hid hx
  have HW := Lib.hid (whole_bin hw a op b hop ha hb A cap hS x (.slice none 0 0) false false hbx hpb)
  have HE := Lib.hid (show P.bin3 a op b = if P.binI a op b then (false, 1) else (P.binV a op b, 0) from rfl)
  unfold EPost
  generalize P.bin3 a op b = E at HE ⊢
  unfold BPost at HW
  generalize P.binV a op b = V at HE HW
  generalize P.binI a op b = I at HE HW
  clear hx hpb hbx hS ha hb hop hw
  go_enter Tryd.func9, Tryd.ntmps9
  go_wp2_with fail
  rw [← HX.out]
  refine HW.out.mono ?_
  rintro e w1 ⟨rfl, hb1, hp1⟩
  rw [Bool.false_or] at hp1
  have HB1 := Lib.hid hb1
  obtain ⟨c0, c1, c2, c3, c4⟩ := hp1.cells
  clear hb1 hp1
  cases I with
  | true =>
    have HF := Lib.hid (show E = (false, 1) from HE.out)
    go_wp2
    refine bodyPost_ret (v := .tuple #[.bool false, .int .i64 1]) (by simp [results, Tryd.results9, go_sem]) rfl ⟨by rw [HF.out], HB1.out⟩
  | false =>
    have HF := Lib.hid (show E = (V, 0) from HE.out)
    go_wp2
    refine bodyPost_ret (v := .tuple #[.bool V, .int .i64 0]) (by simp [results, Tryd.results9, go_sem]) rfl ⟨by rw [HF.out], HB1.out⟩
theorem New_any (w : World) :
    Calls Tryd.prog 16 #[] w fun e w' => e = .returned (.slice (some ⟨w.heap.size, 0, none⟩) 1 1) ∧ w' = w.alloc (.cells #[.string ⟨#[47]⟩, .bool true, .string ⟨#[]⟩] 35) := by
  go_enter Tryd.func16, Tryd.ntmps16
  go_wp2
  go_ret
  exact ⟨rfl, rfl⟩
set_option maxHeartbeats 1000000 in
theorem eval_any (w : World) (a op b : List UInt8) (hw : Env w) (hop : P.isBin op = true) (ha : a.length ≤ 1000000) (hb : b.length ≤ 1000000) :
    Calls Tryd.prog 10 #[.string ⟨a.toArray⟩, .string ⟨op.toArray⟩, .string ⟨b.toArray⟩] w (EPost w (P.bin3 a op b)) := by
  obtain ⟨x, hx⟩ : ∃ x, x = w.alloc (.cells #[.string ⟨a.toArray⟩, .string ⟨op.toArray⟩, .string ⟨b.toArray⟩] 9) := ⟨_, rfl⟩
  have hbx : Below w.heap.size w x := by rw [hx]; exact balloc _ _
  have hS : SL x (some ⟨w.heap.size, 0, none⟩) [a, op, b] := SL.of_heap (by rw [hx]; exact heap_alloc_new w _)
  have HX := Lib.hid hx
  have hby := balloc x (.cells #[.string ⟨#[47]⟩, .bool true, .string ⟨#[]⟩] 35)
  have HN := Lib.hid (New_any x)
  have HE := Lib.hid (fun Af => Eval_bin (x.alloc (.cells #[.string ⟨#[47]⟩, .bool true, .string ⟨#[]⟩] 35)) (some ⟨w.heap.size, 0, none⟩) Af 1 1 3 [47] a op b ((hw.below hbx).below hby) hop ha hb (hS.below hby))
  have HBB := Lib.hid (btr hbx hby)
  unfold EPost at HE ⊢
  generalize P.bin3 a op b = q at HE ⊢
  obtain ⟨v, z⟩ := q
  clear hx hbx hS hby hw hop ha hb
  go_enter Tryd.func10, Tryd.ntmps10
  go_wp2_with fail
  rw [← HX.out]
  refine HN.out.mono ?_
  rintro e w1 ⟨rfl, rfl⟩
  go_wp2_with fail
  refine (HE.out _).mono ?_
  rintro e w2 ⟨rfl, hb2⟩
  have HB2 := Lib.hid (btr HBB.out hb2)
  clear hb2
  simp only
  go_wp2
  refine bodyPost_ret (v := .tuple #[.bool v, .int .i64 z]) (by simp [results, Tryd.results10, go_sem]) rfl ⟨rfl, HB2.out⟩
end W
end Go.Proofs.YtmccfdmnidbalaaDoor
