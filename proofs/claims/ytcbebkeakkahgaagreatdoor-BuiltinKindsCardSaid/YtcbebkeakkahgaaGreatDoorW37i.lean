/- Built-in commands without operands, fourth part; printed by gen37h.py. -/
import Derived.Test.YtcbebkeakkahgaaGreatDoorW37h
namespace Go.Proofs.YtcbebkeakkahgaaGreatDoor
open Go.RowKit K
namespace W
set_option maxRecDepth 100000
section
variable {W : World} {g : Nat} {fl : Value} {nm : List UInt8} {GA : Option Addr} {gc : Nat}
set_option maxHeartbeats 4000000 in
theorem simple_wait (h : CI W g fl [119, 97, 105, 116] GA gc) (hfl : fl.oneCell' = true) : Calls Tryz.prog 38 #[.pointer (some ⟨g, 0, none⟩)] W (KC W g) := by
  have e38 : W.cell? ⟨g, 38, none⟩ = some (.string ⟨#[119, 97, 105, 116]⟩) := Lib.cell_of_heap h 38
  have e39 := h.c39
  have e10 : W.cell? ⟨g, 10, none⟩ = some (.string ⟨#[47]⟩) := Lib.cell_of_heap h 10
  have e17 : W.cell? ⟨g, 17, none⟩ = some (.int .i64 0) := Lib.cell_of_heap h 17
  have e18 : W.cell? ⟨g, 18, none⟩ = some (.int .i64 0) := Lib.cell_of_heap h 18
  have f17 : W.frozen? ⟨g, 17, none⟩ = false := Lib.frozen_of_heap h 17
  have f18 : W.frozen? ⟨g, 18, none⟩ = false := Lib.frozen_of_heap h 18
  have hg := h.lt
  have HX := Lib.hid (fun k : Int => act_no h hfl k)
  clear h
  go_enter Tryz.func38, Tryz.ntmps38
  go_wp2_with fail
  refine (HX.out _).mono ?_
  rintro e Y hk
  have HK := Lib.hid hk
  obtain rfl : e = _ := hk.1
  clear hk
  go_wp2
  first | go_end0 | refine bodyPost_ret (results_none rfl _ _ _) rfl ?_
  exact HK.out
set_option maxHeartbeats 4000000 in
theorem simple_exit (h : CI W g fl [101, 120, 105, 116] GA gc) (hfl : fl.oneCell' = true) : Calls Tryz.prog 38 #[.pointer (some ⟨g, 0, none⟩)] W (KC W g) := by
  have e38 : W.cell? ⟨g, 38, none⟩ = some (.string ⟨#[101, 120, 105, 116]⟩) := Lib.cell_of_heap h 38
  have e39 := h.c39
  have e10 : W.cell? ⟨g, 10, none⟩ = some (.string ⟨#[47]⟩) := Lib.cell_of_heap h 10
  have e17 : W.cell? ⟨g, 17, none⟩ = some (.int .i64 0) := Lib.cell_of_heap h 17
  have e18 : W.cell? ⟨g, 18, none⟩ = some (.int .i64 0) := Lib.cell_of_heap h 18
  have f17 : W.frozen? ⟨g, 17, none⟩ = false := Lib.frozen_of_heap h 17
  have f18 : W.frozen? ⟨g, 18, none⟩ = false := Lib.frozen_of_heap h 18
  have hg := h.lt
  have HX := Lib.hid (fun k : Int => leave_no h hfl k)
  clear h
  go_enter Tryz.func38, Tryz.ntmps38
  go_wp2_with fail
  refine (HX.out _).mono ?_
  rintro e Y hk
  have HK := Lib.hid hk
  obtain rfl : e = _ := hk.1
  clear hk
  go_wp2
  first | go_end0 | refine bodyPost_ret (results_none rfl _ _ _) rfl ?_
  exact HK.out
set_option maxHeartbeats 4000000 in
theorem simple_return (h : CI W g fl [114, 101, 116, 117, 114, 110] GA gc) (hfl : fl.oneCell' = true) : Calls Tryz.prog 38 #[.pointer (some ⟨g, 0, none⟩)] W (KC W g) := by
  have e38 : W.cell? ⟨g, 38, none⟩ = some (.string ⟨#[114, 101, 116, 117, 114, 110]⟩) := Lib.cell_of_heap h 38
  have e39 := h.c39
  have e10 : W.cell? ⟨g, 10, none⟩ = some (.string ⟨#[47]⟩) := Lib.cell_of_heap h 10
  have e17 : W.cell? ⟨g, 17, none⟩ = some (.int .i64 0) := Lib.cell_of_heap h 17
  have e18 : W.cell? ⟨g, 18, none⟩ = some (.int .i64 0) := Lib.cell_of_heap h 18
  have f17 : W.frozen? ⟨g, 17, none⟩ = false := Lib.frozen_of_heap h 17
  have f18 : W.frozen? ⟨g, 18, none⟩ = false := Lib.frozen_of_heap h 18
  have hg := h.lt
  have HX := Lib.hid (fun k : Int => leave_no h hfl k)
  clear h
  go_enter Tryz.func38, Tryz.ntmps38
  go_wp2_with fail
  refine (HX.out _).mono ?_
  rintro e Y hk
  have HK := Lib.hid hk
  obtain rfl : e = _ := hk.1
  clear hk
  go_wp2
  first | go_end0 | refine bodyPost_ret (results_none rfl _ _ _) rfl ?_
  exact HK.out
set_option maxHeartbeats 4000000 in
theorem simple_break (h : CI W g fl [98, 114, 101, 97, 107] GA gc) (hfl : fl.oneCell' = true) : Calls Tryz.prog 38 #[.pointer (some ⟨g, 0, none⟩)] W (KC W g) := by
  have e38 : W.cell? ⟨g, 38, none⟩ = some (.string ⟨#[98, 114, 101, 97, 107]⟩) := Lib.cell_of_heap h 38
  have e39 := h.c39
  have e10 : W.cell? ⟨g, 10, none⟩ = some (.string ⟨#[47]⟩) := Lib.cell_of_heap h 10
  have e17 : W.cell? ⟨g, 17, none⟩ = some (.int .i64 0) := Lib.cell_of_heap h 17
  have e18 : W.cell? ⟨g, 18, none⟩ = some (.int .i64 0) := Lib.cell_of_heap h 18
  have f17 : W.frozen? ⟨g, 17, none⟩ = false := Lib.frozen_of_heap h 17
  have f18 : W.frozen? ⟨g, 18, none⟩ = false := Lib.frozen_of_heap h 18
  have hg := h.lt
  have HX := Lib.hid (fun k : Int => loop_no h hfl k)
  clear h
  go_enter Tryz.func38, Tryz.ntmps38
  go_wp2_with fail
  refine (HX.out _).mono ?_
  rintro e Y hk
  have HK := Lib.hid hk
  obtain rfl : e = _ := hk.1
  clear hk
  go_wp2
  first | go_end0 | refine bodyPost_ret (results_none rfl _ _ _) rfl ?_
  exact HK.out
set_option maxHeartbeats 4000000 in
theorem simple_continue (h : CI W g fl [99, 111, 110, 116, 105, 110, 117, 101] GA gc) (hfl : fl.oneCell' = true) : Calls Tryz.prog 38 #[.pointer (some ⟨g, 0, none⟩)] W (KC W g) := by
  have e38 : W.cell? ⟨g, 38, none⟩ = some (.string ⟨#[99, 111, 110, 116, 105, 110, 117, 101]⟩) := Lib.cell_of_heap h 38
  have e39 := h.c39
  have e10 : W.cell? ⟨g, 10, none⟩ = some (.string ⟨#[47]⟩) := Lib.cell_of_heap h 10
  have e17 : W.cell? ⟨g, 17, none⟩ = some (.int .i64 0) := Lib.cell_of_heap h 17
  have e18 : W.cell? ⟨g, 18, none⟩ = some (.int .i64 0) := Lib.cell_of_heap h 18
  have f17 : W.frozen? ⟨g, 17, none⟩ = false := Lib.frozen_of_heap h 17
  have f18 : W.frozen? ⟨g, 18, none⟩ = false := Lib.frozen_of_heap h 18
  have hg := h.lt
  have HX := Lib.hid (fun k : Int => loop_no h hfl k)
  clear h
  go_enter Tryz.func38, Tryz.ntmps38
  go_wp2_with fail
  refine (HX.out _).mono ?_
  rintro e Y hk
  have HK := Lib.hid hk
  obtain rfl : e = _ := hk.1
  clear hk
  go_wp2
  first | go_end0 | refine bodyPost_ret (results_none rfl _ _ _) rfl ?_
  exact HK.out
set_option maxHeartbeats 4000000 in
theorem simple_dot (hC : CopyAt none 0 0 []) (h : CI W g fl [46] GA gc) (hfl : fl.oneCell' = true) : Calls Tryz.prog 38 #[.pointer (some ⟨g, 0, none⟩)] W (KC W g) := by
  have e38 : W.cell? ⟨g, 38, none⟩ = some (.string ⟨#[46]⟩) := Lib.cell_of_heap h 38
  have e39 := h.c39
  have e10 : W.cell? ⟨g, 10, none⟩ = some (.string ⟨#[47]⟩) := Lib.cell_of_heap h 10
  have e17 : W.cell? ⟨g, 17, none⟩ = some (.int .i64 0) := Lib.cell_of_heap h 17
  have e18 : W.cell? ⟨g, 18, none⟩ = some (.int .i64 0) := Lib.cell_of_heap h 18
  have f17 : W.frozen? ⟨g, 17, none⟩ = false := Lib.frozen_of_heap h 17
  have f18 : W.frozen? ⟨g, 18, none⟩ = false := Lib.frozen_of_heap h 18
  have hg := h.lt
  have HM := Lib.hid (most_ok GA 0 gc h 1 (by omega))
  have HX := Lib.hid (usage_no hC h hfl (by simp) [109, 105, 115, 115, 105, 110, 103, 32, 102, 105, 108, 101] (by decide))
  clear h
  go_enter Tryz.func38, Tryz.ntmps38
  go_wp2_with fail
  refine HM.out.mono ?_
  rintro e Y ⟨rfl, hY⟩
  obtain rfl : W = Y := hY.symm
  go_wp2_with fail
  refine HX.out.mono ?_
  rintro e Y hk
  have HK := Lib.hid hk
  obtain rfl : e = _ := hk.1
  clear hk
  go_wp2
  first | go_end0 | refine bodyPost_ret (results_none rfl _ _ _) rfl ?_
  exact HK.out
set_option maxHeartbeats 4000000 in
theorem simple_fg (h : CI W g fl [102, 103] GA gc) (hfl : fl.oneCell' = true) : Calls Tryz.prog 38 #[.pointer (some ⟨g, 0, none⟩)] W (KC W g) := by
  have e38 : W.cell? ⟨g, 38, none⟩ = some (.string ⟨#[102, 103]⟩) := Lib.cell_of_heap h 38
  have e39 := h.c39
  have e10 : W.cell? ⟨g, 10, none⟩ = some (.string ⟨#[47]⟩) := Lib.cell_of_heap h 10
  have e17 : W.cell? ⟨g, 17, none⟩ = some (.int .i64 0) := Lib.cell_of_heap h 17
  have e18 : W.cell? ⟨g, 18, none⟩ = some (.int .i64 0) := Lib.cell_of_heap h 18
  have f17 : W.frozen? ⟨g, 17, none⟩ = false := Lib.frozen_of_heap h 17
  have f18 : W.frozen? ⟨g, 18, none⟩ = false := Lib.frozen_of_heap h 18
  have hg := h.lt
  have HM := Lib.hid (most_ok GA 0 gc h 1 (by omega))
  have HK := Lib.hid (fun k : Int => KC.of (h.set_act k) ((OneBox.refl g W).set 18 (.int .i64 k)) rfl rfl rfl rfl hfl rfl)
  clear h
  go_enter Tryz.func38, Tryz.ntmps38
  go_wp2_with fail
  refine HM.out.mono ?_
  rintro e Y ⟨rfl, hY⟩
  obtain rfl : W = Y := hY.symm
  go_wp2
  first | go_end0 | refine bodyPost_ret (results_none rfl _ _ _) rfl ?_
  exact HK.out _
end
end W
end Go.Proofs.YtcbebkeakkahgaaGreatDoor
