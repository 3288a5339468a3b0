/- Built-in commands without operands, second part; printed by gen37g.py. -/
import Derived.Test.YtcbebkeakkahgaaGreatDoorW37f
namespace Go.Proofs.YtcbebkeakkahgaaGreatDoor
open Go.RowKit K
namespace W
set_option maxRecDepth 100000
section
variable {W : World} {g : Nat} {fl : Value} {nm : List UInt8} {GA : Option Addr} {gc : Nat}
theorem count_no (h : CI W g fl nm GA gc) (k : Int) : Calls Tryz.prog 72 #[.pointer (some ⟨g, 0, none⟩), .int .i64 k] W fun e w' => e = .returned (.tuple #[.int .i64 k, .bool true]) ∧ w' = W := by
  have e39 := h.c39
  have hg := h.lt
  have HM := Lib.hid (most_ok GA 0 gc h 1 (by omega))
  clear h
  go_enter Tryz.func72, Tryz.ntmps72
  go_wp2_with fail
  refine HM.out.mono ?_
  rintro e Y ⟨rfl, hY⟩
  obtain rfl : W = Y := hY.symm
  go_wp2
  go_ret2
  exact ⟨rfl, rfl⟩
theorem alias_no (h : CI W g fl nm GA gc) (hfl : fl.oneCell' = true) : Calls Tryz.prog 29 #[.pointer (some ⟨g, 0, none⟩)] W (KC W g) := by
  have e39 := h.c39
  have e4 : W.cell? ⟨g, 4, none⟩ = some (.slice none 0 0) := Lib.cell_of_heap h 4
  have hg := h.lt
  have HK := Lib.hid (KC.of h (OneBox.refl g W) rfl rfl rfl rfl hfl rfl)
  clear h
  go_enter Tryz.func29, Tryz.ntmps29
  go_wp2
  go_loopw [26] (fun i wr => i = .int .i64 0 ∧ wr = W) (fun _ _ => 0)
  case atStart => exact ⟨rfl, rfl⟩
  case round =>
    obtain ⟨rfl, rfl⟩ := hrel
    generalize wr = wp at *
    go_wp2
    go_loopw [45] (fun i wr => i = .int .i64 0 ∧ wr = wp) (fun _ _ => 0)
    case atStart => exact ⟨rfl, rfl⟩
    case round =>
      obtain ⟨rfl, rfl⟩ := hrel
      go_wp2
      first | go_end0 | refine bodyPost_ret (results_none rfl _ _ _) rfl ?_
      exact HK.out
theorem settings_no (h : CI W g fl nm GA gc) (hfl : fl.oneCell' = true) : Calls Tryz.prog 32 #[.pointer (some ⟨g, 0, none⟩)] W (KC W g) := by
  have e39 := h.c39
  have e1 : W.cell? ⟨g, 1, none⟩ = some (.slice none 0 0) := Lib.cell_of_heap h 1
  have hg := h.lt
  have HK := Lib.hid (KC.of h (OneBox.refl g W) rfl rfl rfl rfl hfl rfl)
  clear h
  go_enter Tryz.func32, Tryz.ntmps32
  go_wp2
  go_loopw [20] (fun i wr => i = .int .i64 0 ∧ wr = W) (fun _ _ => 0)
  case atStart => exact ⟨rfl, rfl⟩
  case round =>
    obtain ⟨rfl, rfl⟩ := hrel
    go_wp2
    first | go_end0 | refine bodyPost_ret (results_none rfl _ _ _) rfl ?_
    exact HK.out
theorem trap_no (h : CI W g fl nm GA gc) (hfl : fl.oneCell' = true) : Calls Tryz.prog 36 #[.pointer (some ⟨g, 0, none⟩)] W (KC W g) := by
  have e39 := h.c39
  have e5 : W.cell? ⟨g, 5, none⟩ = some (.slice none 0 0) := Lib.cell_of_heap h 5
  have hg := h.lt
  have HK := Lib.hid (KC.of h (OneBox.refl g W) rfl rfl rfl rfl hfl rfl)
  have HS := Lib.hid (Show_nil W)
  clear h
  go_enter Tryz.func36, Tryz.ntmps36
  go_wp2_with fail
  refine HS.out.mono ?_
  rintro e Y ⟨rfl, hY⟩
  obtain rfl : W = Y := hY.symm
  go_wp2
  go_loopw [27] (fun i wr => i = .int .i64 0 ∧ wr = W) (fun _ _ => 0)
  case atStart => exact ⟨rfl, rfl⟩
  case round =>
    obtain ⟨rfl, rfl⟩ := hrel
    go_wp2
    first | go_end0 | refine bodyPost_ret (results_none rfl _ _ _) rfl ?_
    exact HK.out
theorem leave_no (h : CI W g fl nm GA gc) (hfl : fl.oneCell' = true) (k : Int) : Calls Tryz.prog 88 #[.pointer (some ⟨g, 0, none⟩), .int .i64 k] W (KC W g) := by
  have e7 : W.cell? ⟨g, 7, none⟩ = some (.int .i64 0) := Lib.cell_of_heap h 7
  have e17 : W.cell? ⟨g, 17, none⟩ = some (.int .i64 0) := Lib.cell_of_heap h 17
  have e18 : W.cell? ⟨g, 18, none⟩ = some (.int .i64 0) := Lib.cell_of_heap h 18
  have e19 : W.cell? ⟨g, 19, none⟩ = some (.int .i64 0) := Lib.cell_of_heap h 19
  have f17 : W.frozen? ⟨g, 17, none⟩ = false := Lib.frozen_of_heap h 17
  have f18 : W.frozen? ⟨g, 18, none⟩ = false := Lib.frozen_of_heap h 18
  have f19 : W.frozen? ⟨g, 19, none⟩ = false := Lib.frozen_of_heap h 19
  have hg := h.lt
  have HC := Lib.hid (count_no h 0)
  have HK := Lib.hid (KC.of (((h.set_act k).set_n 0).set_st 0) ((((OneBox.refl g W).set 18 (.int .i64 k)).set 19 (.int .i64 0)).set 17 (.int .i64 0)) rfl rfl rfl rfl hfl rfl)
  clear h
  go_enter Tryz.func88, Tryz.ntmps88
  go_wp2_with fail
  refine HC.out.mono ?_
  rintro e Y ⟨rfl, hY⟩
  obtain rfl : W = Y := hY.symm
  go_wp2
  first | go_end0 | refine bodyPost_ret (results_none rfl _ _ _) rfl ?_
  exact HK.out
theorem loop_no (h : CI W g fl nm GA gc) (hfl : fl.oneCell' = true) (k : Int) : Calls Tryz.prog 89 #[.pointer (some ⟨g, 0, none⟩), .int .i64 k] W (KC W g) := by
  have e18 : W.cell? ⟨g, 18, none⟩ = some (.int .i64 0) := Lib.cell_of_heap h 18
  have e19 : W.cell? ⟨g, 19, none⟩ = some (.int .i64 0) := Lib.cell_of_heap h 19
  have f18 : W.frozen? ⟨g, 18, none⟩ = false := Lib.frozen_of_heap h 18
  have f19 : W.frozen? ⟨g, 19, none⟩ = false := Lib.frozen_of_heap h 19
  have hg := h.lt
  have HC := Lib.hid (count_no h 1)
  have HK := Lib.hid (KC.of ((h.set_act k).set_n 1) (((OneBox.refl g W).set 18 (.int .i64 k)).set 19 (.int .i64 1)) rfl rfl rfl rfl hfl rfl)
  clear h
  go_enter Tryz.func89, Tryz.ntmps89
  go_wp2_with fail
  refine HC.out.mono ?_
  rintro e Y ⟨rfl, hY⟩
  obtain rfl : W = Y := hY.symm
  go_wp2
  first | go_end0 | refine bodyPost_ret (results_none rfl _ _ _) rfl ?_
  exact HK.out
end
end W
end Go.Proofs.YtcbebkeakkahgaaGreatDoor
