/- Chapter 29: the reference's operators and integers. -/
import Derived.Test.YtmccfdmnidbalaaGreatDoorW29b
import Derived.Test.YtmccfdmnidbalaaGreatDoorW29c
import Derived.Test.YtmccfdmnidbalaaGreatDoorP29i
import Derived.Test.YtmccfdmnidbalaaGreatDoorW29p
import Derived.Laws.Cover1
namespace Go.Proofs.YtmccfdmnidbalaaGreatDoor
open Go.RowKit K
theorem binOp_gtr_lists (t : TypeId) (a b : List UInt8) : binOp .gtr t (.string ⟨a.toArray⟩) (.string ⟨b.toArray⟩) = pure (.bool (decide (b < a))) := by
  rw [binOp_string_gtr, Lib.toList_data, Lib.toList_data, P.bl_lt]
  congr 2
  by_cases h : a < b
  · have : ¬ b < a := fun h' => List.lt_irrefl a (List.lt_trans h h')
    simp [h, this]
  · by_cases h2 : a = b
    · subst h2; simp
    · have : b < a := by
        rcases Classical.em (b < a) with h3 | h3
        · exact h3
        · exact absurd (List.le_antisymm h3 h) h2
      simp [h, h2, this]
namespace P
theorem any_take_step {ls : List (List UInt8)} {s : List UInt8} {k : Nat} (h : k < ls.length) (h1 : (ls.take k).any (· == s) = false) (h2 : (ls.getD k [] == s) = false) : (ls.take (k + 1)).any (· == s) = false := by
  rw [List.take_succ_eq_append_getElem h, List.any_append, h1]
  rw [List.getD_eq_getElem?_getD, List.getElem?_eq_getElem h] at h2
  simpa using h2
theorem any_hit {ls : List (List UInt8)} {s : List UInt8} {k : Nat} (h : k < ls.length) (h2 : (ls.getD k [] == s) = true) : ls.any (· == s) = true := by
  rw [List.any_eq_true]
  rw [List.getD_eq_getElem?_getD, List.getElem?_eq_getElem h] at h2
  exact ⟨ls[k], List.getElem_mem h, h2⟩
end P
namespace W
set_option maxHeartbeats 1000000 in
theorem is_ref (s : List UInt8) (A : Option Addr) (cap : Nat) (ls : List (List UInt8)) (w : World) (hS : SL w A ls) (hn : ls.length ≤ 1000) :
    Calls Tryz.prog 33 #[.string ⟨s.toArray⟩, .slice A ls.length cap] w fun e w' => e = .returned (.bool (ls.any (· == s))) ∧ w = w' := by
  have HS := Lib.hid hS
  obtain ⟨R, hR⟩ : ∃ R, R = ls.any (· == s) := ⟨_, rfl⟩
  have HR := Lib.hid hR
  rw [← hR]
  clear hR hS
  go_enter Tryz.func33, Tryz.ntmps33
  go_wp2
  go_loop [5] (fun i => ∃ k : Nat, k ≤ ls.length ∧ i = .int .i64 k ∧ Hid ((ls.take k).any (· == s) = false)) (fun i => ls.length - (intOf i).toNat)
  case atStart => exact ⟨0, by omega, rfl, show _ = _ by simp⟩
  case round =>
    obtain ⟨k, hk, rfl, HK⟩ := hrel
    by_cases hlt : k < ls.length
    · obtain ⟨b, off, rfl, hb, c0⟩ := HS.out.get hlt
      have HH := Lib.hid (fun h => P.any_hit (s := s) hlt h)
      have HM := Lib.hid (fun h => P.any_take_step (s := s) hlt HK.out h)
      have k0 : (0 : Int) ≤ (k : Int) := by omega
      have k1 : (k : Int) < (ls.length : Int) := by omega
      generalize ls.getD k [] = x at *
      cases hx : (x == s) with
      | true =>
        have HF := Lib.hid (show R = true by rw [HR.out]; exact HH.out hx)
        go_wp2
        go_ret
        exact ⟨ret_bool HF.out.symm, rfl⟩
      | false =>
        have HF := Lib.hid (HM.out hx)
        go_wp2
        go_round
        case rel => exact ⟨k + 1, by omega, by go_num, HF.out⟩
        case measure => simp [intOf]; omega
    · have HF := Lib.hid (show R = false by rw [HR.out, ← HK.out, List.take_of_length_le (by omega)])
      go_wp2
      go_ret
      exact ⟨ret_bool HF.out.symm, rfl⟩
def unL : List (List UInt8) := [[45, 101], [45, 102], [45, 100], [45, 115], [45, 110], [45, 122]]
def biL : List (List UInt8) := [[61], [33, 61], [45, 101, 113], [45, 110, 101], [45, 108, 116], [45, 108, 101], [45, 103, 116], [45, 103, 101]]
theorem unL_any (s : List UInt8) : unL.any (· == s) = P.isUn s := by
  unfold unL P.isUn
  simp only [List.any_cons, List.any_nil, Bool.or_false, Bool.or_assoc]
  simp only [BEq.comm (a := s)]
theorem biL_any (s : List UInt8) : biL.any (· == s) = P.isBin s := by
  unfold biL P.isBin
  simp only [List.any_cons, List.any_nil, Bool.or_false, Bool.or_assoc]
  simp only [BEq.comm (a := s)]
set_option maxHeartbeats 1000000 in
theorem unary_ref (s : List UInt8) (w : World) : Calls Tryz.prog 20 #[.string ⟨s.toArray⟩] w fun e w' => e = .returned (.bool (P.isUn s)) ∧ Below w.heap.size w w' := by
  obtain ⟨x, hx⟩ : ∃ x, x = w.alloc (.cells (unL.map fun s => Value.string ⟨s.toArray⟩).toArray 9) := ⟨_, rfl⟩
  have HX := Lib.hid hx
  have hrv := RV.lit w unL (by decide) 9
  rw [← hx] at hrv
  obtain ⟨A, c, e, -, -, hS⟩ := hrv
  have eA : A = some ⟨w.heap.size, 0, none⟩ := by injection e with e1 _ _; exact e1.symm
  subst eA
  have HI := Lib.hid (show Calls Tryz.prog 33 #[.string ⟨s.toArray⟩, .slice (some ⟨w.heap.size, 0, none⟩) 6 6] x fun e w' => e = .returned (.bool (P.isUn s)) ∧ x = w' by rw [← unL_any]; exact is_ref s _ 6 unL x hS (by decide))
  have HB := Lib.hid (show Below w.heap.size w x by rw [hx]; exact balloc _ _)
  clear hx hS e
  generalize P.isUn s = R at *
  go_enter Tryz.func20, Tryz.ntmps20
  go_wp2_with fail
  rw [show (#[Value.string ⟨#[45, 101]⟩, .string ⟨#[45, 102]⟩, .string ⟨#[45, 100]⟩, .string ⟨#[45, 115]⟩, .string ⟨#[45, 110]⟩, .string ⟨#[45, 122]⟩] : Array Value) = (unL.map fun s => Value.string ⟨s.toArray⟩).toArray from rfl, ← HX.out]
  refine HI.out.mono ?_
  rintro e w1 ⟨rfl, rfl⟩
  go_wp2
  go_ret
  exact ⟨rfl, HB.out⟩
set_option maxHeartbeats 1000000 in
theorem binary_ref (s : List UInt8) (w : World) : Calls Tryz.prog 18 #[.string ⟨s.toArray⟩] w fun e w' => e = .returned (.bool (P.isBin s)) ∧ Below w.heap.size w w' := by
  obtain ⟨x, hx⟩ : ∃ x, x = w.alloc (.cells (biL.map fun s => Value.string ⟨s.toArray⟩).toArray 9) := ⟨_, rfl⟩
  have HX := Lib.hid hx
  have hrv := RV.lit w biL (by decide) 9
  rw [← hx] at hrv
  obtain ⟨A, c, e, -, -, hS⟩ := hrv
  have eA : A = some ⟨w.heap.size, 0, none⟩ := by injection e with e1 _ _; exact e1.symm
  subst eA
  have HI := Lib.hid (show Calls Tryz.prog 33 #[.string ⟨s.toArray⟩, .slice (some ⟨w.heap.size, 0, none⟩) 8 8] x fun e w' => e = .returned (.bool (P.isBin s)) ∧ x = w' by rw [← biL_any]; exact is_ref s _ 8 biL x hS (by decide))
  have HB := Lib.hid (show Below w.heap.size w x by rw [hx]; exact balloc _ _)
  clear hx hS e
  generalize P.isBin s = R at *
  go_enter Tryz.func18, Tryz.ntmps18
  go_wp2_with fail
  rw [show (#[Value.string ⟨#[61]⟩, .string ⟨#[33, 61]⟩, .string ⟨#[45, 101, 113]⟩, .string ⟨#[45, 110, 101]⟩, .string ⟨#[45, 108, 116]⟩, .string ⟨#[45, 108, 101]⟩, .string ⟨#[45, 103, 116]⟩, .string ⟨#[45, 103, 101]⟩] : Array Value) = (biL.map fun s => Value.string ⟨s.toArray⟩).toArray from rfl, ← HX.out]
  refine HI.out.mono ?_
  rintro e w1 ⟨rfl, rfl⟩
  go_wp2
  go_ret
  exact ⟨rfl, HB.out⟩
end W
end Go.Proofs.YtmccfdmnidbalaaGreatDoor
