/- Chapter 29: take and next of the parser. -/
import Derived.Test.YtmccfdmnidbalaaGreatDoorW29j
namespace Go.Proofs.YtmccfdmnidbalaaGreatDoor
open Go.RowKit K
namespace W
/-- A value that reads as what is left of the arguments. -/
def RV (w0 : World) (r : Value) (rest : List (List UInt8)) : Prop := ∃ A cap, r = .slice A rest.length cap ∧ rest.length ≤ cap ∧ cap ≤ 9223372036854775807 ∧ SL w0 A rest
/-- What take leaves. -/
def TPost (w0 : World) (f : Value) (c : List UInt8) (u i : Bool) (rest : List (List UInt8)) (n : Nat) (e : Ending) (w' : World) : Prop :=
  ∃ A cap r', e = .returned (.slice A n cap) ∧ SL w0 A (rest.take n) ∧ Below w0.heap.size w0 w' ∧ PB w' w0.heap.size r' f c u i ∧ RV w0 r' (rest.drop n)
set_option maxHeartbeats 1000000 in
theorem take_of {w0 : World} {f : Value} {c : List UInt8} (w : World) (r : Value) (rest : List (List UInt8)) (n : Nat) (u i : Bool) (h1 : 1 ≤ n) (hn : n ≤ rest.length) (hr : RV w0 r rest) (hb0 : Below w0.heap.size w0 w) (hp : PB w w0.heap.size r f c u i) :
    Calls Tryz.prog 55 #[.pointer (some ⟨w0.heap.size, 0, none⟩), .int .i64 n] w (TPost w0 f c u i rest n) := by
  obtain ⟨A, cap, rfl, q1, q2, hS⟩ := hr
  have hne : rest ≠ [] := by rintro rfl; simp at hn; omega
  obtain ⟨b, off, rfl, hbl, -⟩ := id (hS hne)
  have HS := Lib.hid hS
  have HB0 := Lib.hid hb0
  have HP := Lib.hid hp
  obtain ⟨c0, c1, c2, c3, c4⟩ := hp.cells
  obtain ⟨f0, f3, f4⟩ := hp.thaw
  have n0 : (0 : Int) ≤ (n : Int) := by omega
  have n1 : (n : Int) ≤ (cap : Int) := by omega
  have n2 : (n : Int) ≤ (rest.length : Int) := by omega
  have n3 : (rest.length : Int) ≤ (cap : Int) := by omega
  clear hb0 hp hS hne
  go_enter Tryz.func55, Tryz.ntmps55
  go_wp2
  case inl =>
    have hd : rest.drop n = [] := List.drop_eq_nil_of_le (by omega)
    have hl0 : rest.length - n = 0 := by omega
    rw [hl0]
    go_ret
    refine ⟨some ⟨b, off, none⟩, _, _, rfl, HS.out.take n, HB0.out.setCell (by simp) _, HP.out.set0 _, some ⟨b, off, none⟩, 0, by rw [hd]; rfl, by rw [hd]; simp, by omega, ?_⟩
    rw [hd]
    exact SL.nil _ _
  case inr =>
    go_ret
    exact ⟨some ⟨b, off, none⟩, _, _, rfl, HS.out.take n, HB0.out.setCell (by simp) _, HP.out.set0 _, some ⟨b, off + n, none⟩, cap - n, by rw [List.length_drop], by rw [List.length_drop]; omega, by omega, HS.out.drop n⟩
set_option maxHeartbeats 1000000 in
theorem next_of {w0 : World} {f : Value} {c : List UInt8} (w : World) (r : Value) (rest : List (List UInt8)) (s : List UInt8) (u i : Bool) (hr : RV w0 r rest) (hb0 : Below w0.heap.size w0 w) (hp : PB w w0.heap.size r f c u i) :
    Calls Tryz.prog 45 #[.pointer (some ⟨w0.heap.size, 0, none⟩), .string ⟨s.toArray⟩] w fun e w' => (rest.head? = some s ∧ e = .returned (.bool true) ∧ Below w0.heap.size w0 w' ∧ ∃ r', PB w' w0.heap.size r' f c u i ∧ RV w0 r' (rest.drop 1)) ∨ (rest.head? ≠ some s ∧ e = .returned (.bool false) ∧ Below w0.heap.size w0 w' ∧ PB w' w0.heap.size r f c u i) := by
  have HR := Lib.hid hr
  have HTK := Lib.hid (fun (hn : 1 ≤ rest.length) w (h1 : Below w0.heap.size w0 w) (h2 : PB w w0.heap.size r f c u i) => take_of w r rest 1 u i (by omega) hn hr h1 h2)
  obtain ⟨A, cap, rfl, q1, q2, hS⟩ := hr
  have HB0 := Lib.hid hb0
  have HP := Lib.hid hp
  obtain ⟨c0, c1, c2, c3, c4⟩ := hp.cells
  cases rest with
  | nil =>
    clear HTK hS
    go_enter Tryz.func45, Tryz.ntmps45
    go_wp2
    go_ret
    exact .inr ⟨by simp, rfl, HB0.out, HP.out⟩
  | cons x y =>
    obtain ⟨b, off, rfl, hbl, hc⟩ := (hS.below hb0) (by simp)
    have hc0 := hc 0 (by simp)
    simp only [Nat.add_zero, List.getElem_cons_zero] at hc0
    have hl0 : (((x :: y).length : Int) == 0) = false := by simp <;> omega
    have hl1 : (0 : Int) < ((x :: y).length : Int) := by simp <;> omega
    have HTK1 := Lib.hid (fun w h1 h2 => HTK.out (by simp) w h1 h2)
    clear hc hS HTK hb0 hp
    generalize hL : (x :: y).length = N at *
    by_cases hx : x = s
    · have e1 : (x == s) = true := by simp [hx]
      have HX := Lib.hid hx
      clear hx
      go_enter Tryz.func45, Tryz.ntmps45
      go_wp2_with fail
      refine (HTK1.out _ HB0.out HP.out).mono ?_
      rintro e w2 ⟨A2, cap2, r2, rfl, -, hb2, hp2, hr2⟩
      have HB2 := Lib.hid hb2
      have HP2 := Lib.hid hp2
      have HR2 := Lib.hid hr2
      clear hb2 hp2 hr2
      go_wp2
      go_ret
      exact .inl ⟨by rw [HX.out]; rfl, rfl, HB2.out, r2, HP2.out, HR2.out⟩
    · have e1 : (x == s) = false := by simp [hx]
      have HX := Lib.hid hx
      clear hx
      go_enter Tryz.func45, Tryz.ntmps45
      go_wp2
      go_ret
      exact .inr ⟨by simpa using HX.out, rfl, HB0.out, HP.out⟩
end W
end Go.Proofs.YtmccfdmnidbalaaGreatDoor
