/- Built-in commands without operands: run; printed by gen37s.py. -/
import Derived.Test.YtcbebkeakkahgaaGreatDoorW37r
import Derived.Test.YtcbebkeakkahgaaGreatDoorW37l
namespace Go.Proofs.YtcbebkeakkahgaaGreatDoor
open Go.RowKit K
namespace W
set_option maxRecDepth 100000
section
variable {W : World} {g : Nat} {fl : Value} {nm : List UInt8} {GA : Option Addr} {gc : Nat}
set_option maxHeartbeats 4000000 in
theorem run_jobs (h : CI W g fl [106, 111, 98, 115] GA gc) (hfl : fl.oneCell' = true) : Calls Tryz.prog 13 #[.pointer (some ⟨g, 0, none⟩)] W (KC W g) := by
  have e38 : W.cell? ⟨g, 38, none⟩ = some (.string ⟨#[106, 111, 98, 115]⟩) := Lib.cell_of_heap h 38
  have hg := h.lt
  have HX := Lib.hid (jobs_no h hfl)
  clear h
  go_enter Tryz.func13, Tryz.ntmps13
  go_wp2_with fail
  refine HX.out.mono ?_
  rintro e Y hk
  have HK := Lib.hid hk
  obtain rfl : e = _ := hk.1
  clear hk
  go_wp2
  first | go_end0 | refine bodyPost_ret (results_none rfl _ _ _) rfl ?_
  exact HK.out
set_option maxHeartbeats 4000000 in
theorem run_read (h : CI W g fl [114, 101, 97, 100] GA gc) (hfl : fl.oneCell' = true) : Calls Tryz.prog 13 #[.pointer (some ⟨g, 0, none⟩)] W (KC W g) := by
  have e38 : W.cell? ⟨g, 38, none⟩ = some (.string ⟨#[114, 101, 97, 100]⟩) := Lib.cell_of_heap h 38
  have hg := h.lt
  have HX := Lib.hid (read_no h hfl)
  clear h
  go_enter Tryz.func13, Tryz.ntmps13
  go_wp2_with fail
  refine HX.out.mono ?_
  rintro e Y hk
  have HK := Lib.hid hk
  obtain rfl : e = _ := hk.1
  clear hk
  go_wp2
  first | go_end0 | refine bodyPost_ret (results_none rfl _ _ _) rfl ?_
  exact HK.out
set_option maxHeartbeats 4000000 in
theorem run_cd (h : CI W g fl [99, 100] GA gc) (hfl : fl.oneCell' = true) : Calls Tryz.prog 13 #[.pointer (some ⟨g, 0, none⟩)] W (KC W g) := by
  have e38 : W.cell? ⟨g, 38, none⟩ = some (.string ⟨#[99, 100]⟩) := Lib.cell_of_heap h 38
  have hg := h.lt
  have HX := Lib.hid (cd_no h hfl (by simp))
  clear h
  go_enter Tryz.func13, Tryz.ntmps13
  go_wp2_with fail
  refine HX.out.mono ?_
  rintro e Y hk
  have HK := Lib.hid hk
  obtain rfl : e = _ := hk.1
  clear hk
  go_wp2
  first | go_end0 | refine bodyPost_ret (results_none rfl _ _ _) rfl ?_
  exact HK.out
set_option maxHeartbeats 4000000 in
theorem run_command (h : CI W g fl [99, 111, 109, 109, 97, 110, 100] GA gc) (hfl : fl.oneCell' = true) : Calls Tryz.prog 13 #[.pointer (some ⟨g, 0, none⟩)] W (KC W g) := by
  have e38 : W.cell? ⟨g, 38, none⟩ = some (.string ⟨#[99, 111, 109, 109, 97, 110, 100]⟩) := Lib.cell_of_heap h 38
  have hg := h.lt
  have HX := Lib.hid (command_no h hfl)
  clear h
  go_enter Tryz.func13, Tryz.ntmps13
  go_wp2_with fail
  refine HX.out.mono ?_
  rintro e Y hk
  have HK := Lib.hid hk
  obtain rfl : e = _ := hk.1
  clear hk
  go_wp2
  first | go_end0 | refine bodyPost_ret (results_none rfl _ _ _) rfl ?_
  exact HK.out
set_option maxHeartbeats 4000000 in
theorem run_type (h : CI W g fl [116, 121, 112, 101] GA gc) (hfl : fl.oneCell' = true) : Calls Tryz.prog 13 #[.pointer (some ⟨g, 0, none⟩)] W (KC W g) := by
  have e38 : W.cell? ⟨g, 38, none⟩ = some (.string ⟨#[116, 121, 112, 101]⟩) := Lib.cell_of_heap h 38
  have hg := h.lt
  have HX := Lib.hid (types_no h hfl)
  clear h
  go_enter Tryz.func13, Tryz.ntmps13
  go_wp2_with fail
  refine HX.out.mono ?_
  rintro e Y hk
  have HK := Lib.hid hk
  obtain rfl : e = _ := hk.1
  clear hk
  go_wp2
  first | go_end0 | refine bodyPost_ret (results_none rfl _ _ _) rfl ?_
  exact HK.out
set_option maxHeartbeats 4000000 in
theorem run_alias (h : CI W g fl [97, 108, 105, 97, 115] GA gc) (hfl : fl.oneCell' = true) : Calls Tryz.prog 13 #[.pointer (some ⟨g, 0, none⟩)] W (KC W g) := by
  have e38 : W.cell? ⟨g, 38, none⟩ = some (.string ⟨#[97, 108, 105, 97, 115]⟩) := Lib.cell_of_heap h 38
  have hg := h.lt
  have HX := Lib.hid (alias_no h hfl)
  clear h
  go_enter Tryz.func13, Tryz.ntmps13
  go_wp2_with fail
  refine HX.out.mono ?_
  rintro e Y hk
  have HK := Lib.hid hk
  obtain rfl : e = _ := hk.1
  clear hk
  go_wp2
  first | go_end0 | refine bodyPost_ret (results_none rfl _ _ _) rfl ?_
  exact HK.out
set_option maxHeartbeats 4000000 in
theorem run_unalias (hC : CopyAt none 0 0 []) (h : CI W g fl [117, 110, 97, 108, 105, 97, 115] GA gc) (hfl : fl.oneCell' = true) : Calls Tryz.prog 13 #[.pointer (some ⟨g, 0, none⟩)] W (KC W g) := by
  have e38 : W.cell? ⟨g, 38, none⟩ = some (.string ⟨#[117, 110, 97, 108, 105, 97, 115]⟩) := Lib.cell_of_heap h 38
  have hg := h.lt
  have HX := Lib.hid (unalias_no hC h hfl (by simp))
  clear h hC
  go_enter Tryz.func13, Tryz.ntmps13
  go_wp2_with fail
  refine HX.out.mono ?_
  rintro e Y hk
  have HK := Lib.hid hk
  obtain rfl : e = _ := hk.1
  clear hk
  go_wp2
  first | go_end0 | refine bodyPost_ret (results_none rfl _ _ _) rfl ?_
  exact HK.out
set_option maxHeartbeats 4000000 in
theorem run_export (h : CI W g fl [101, 120, 112, 111, 114, 116] GA gc) (hfl : fl.oneCell' = true) : Calls Tryz.prog 13 #[.pointer (some ⟨g, 0, none⟩)] W (KC W g) := by
  have e38 : W.cell? ⟨g, 38, none⟩ = some (.string ⟨#[101, 120, 112, 111, 114, 116]⟩) := Lib.cell_of_heap h 38
  have hg := h.lt
  have HX := Lib.hid (attributes_no h hfl)
  clear h
  go_enter Tryz.func13, Tryz.ntmps13
  go_wp2_with fail
  refine HX.out.mono ?_
  rintro e Y hk
  have HK := Lib.hid hk
  obtain rfl : e = _ := hk.1
  clear hk
  go_wp2
  first | go_end0 | refine bodyPost_ret (results_none rfl _ _ _) rfl ?_
  exact HK.out
set_option maxHeartbeats 4000000 in
theorem run_readonly (h : CI W g fl [114, 101, 97, 100, 111, 110, 108, 121] GA gc) (hfl : fl.oneCell' = true) : Calls Tryz.prog 13 #[.pointer (some ⟨g, 0, none⟩)] W (KC W g) := by
  have e38 : W.cell? ⟨g, 38, none⟩ = some (.string ⟨#[114, 101, 97, 100, 111, 110, 108, 121]⟩) := Lib.cell_of_heap h 38
  have hg := h.lt
  have HX := Lib.hid (attributes_no h hfl)
  clear h
  go_enter Tryz.func13, Tryz.ntmps13
  go_wp2_with fail
  refine HX.out.mono ?_
  rintro e Y hk
  have HK := Lib.hid hk
  obtain rfl : e = _ := hk.1
  clear hk
  go_wp2
  first | go_end0 | refine bodyPost_ret (results_none rfl _ _ _) rfl ?_
  exact HK.out
set_option maxHeartbeats 4000000 in
theorem run_set (h : CI W g fl [115, 101, 116] GA gc) (hfl : fl.oneCell' = true) : Calls Tryz.prog 13 #[.pointer (some ⟨g, 0, none⟩)] W (KC W g) := by
  have e38 : W.cell? ⟨g, 38, none⟩ = some (.string ⟨#[115, 101, 116]⟩) := Lib.cell_of_heap h 38
  have hg := h.lt
  have HX := Lib.hid (settings_no h hfl)
  clear h
  go_enter Tryz.func13, Tryz.ntmps13
  go_wp2_with fail
  refine HX.out.mono ?_
  rintro e Y hk
  have HK := Lib.hid hk
  obtain rfl : e = _ := hk.1
  clear hk
  go_wp2
  first | go_end0 | refine bodyPost_ret (results_none rfl _ _ _) rfl ?_
  exact HK.out
set_option maxHeartbeats 4000000 in
theorem run_shift (h : CI W g fl [115, 104, 105, 102, 116] GA gc) (hfl : fl.oneCell' = true) : Calls Tryz.prog 13 #[.pointer (some ⟨g, 0, none⟩)] W (KC W g) := by
  have e38 : W.cell? ⟨g, 38, none⟩ = some (.string ⟨#[115, 104, 105, 102, 116]⟩) := Lib.cell_of_heap h 38
  have hg := h.lt
  have HX := Lib.hid (shift_no h hfl (by simp))
  clear h
  go_enter Tryz.func13, Tryz.ntmps13
  go_wp2_with fail
  refine HX.out.mono ?_
  rintro e Y hk
  have HK := Lib.hid hk
  obtain rfl : e = _ := hk.1
  clear hk
  go_wp2
  first | go_end0 | refine bodyPost_ret (results_none rfl _ _ _) rfl ?_
  exact HK.out
set_option maxHeartbeats 4000000 in
theorem run_unset (h : CI W g fl [117, 110, 115, 101, 116] GA gc) (hfl : fl.oneCell' = true) : Calls Tryz.prog 13 #[.pointer (some ⟨g, 0, none⟩)] W (KC W g) := by
  have e38 : W.cell? ⟨g, 38, none⟩ = some (.string ⟨#[117, 110, 115, 101, 116]⟩) := Lib.cell_of_heap h 38
  have hg := h.lt
  have HX := Lib.hid (unset_no h hfl)
  clear h
  go_enter Tryz.func13, Tryz.ntmps13
  go_wp2_with fail
  refine HX.out.mono ?_
  rintro e Y hk
  have HK := Lib.hid hk
  obtain rfl : e = _ := hk.1
  clear hk
  go_wp2
  first | go_end0 | refine bodyPost_ret (results_none rfl _ _ _) rfl ?_
  exact HK.out
set_option maxHeartbeats 4000000 in
theorem run_getopts (hC : CopyAt none 0 0 []) (h : CI W g fl [103, 101, 116, 111, 112, 116, 115] GA gc) (hfl : fl.oneCell' = true) : Calls Tryz.prog 13 #[.pointer (some ⟨g, 0, none⟩)] W (KC W g) := by
  have e38 : W.cell? ⟨g, 38, none⟩ = some (.string ⟨#[103, 101, 116, 111, 112, 116, 115]⟩) := Lib.cell_of_heap h 38
  have hg := h.lt
  have HX := Lib.hid (getopts_no hC h hfl (by simp))
  clear h hC
  go_enter Tryz.func13, Tryz.ntmps13
  go_wp2_with fail
  refine HX.out.mono ?_
  rintro e Y hk
  have HK := Lib.hid hk
  obtain rfl : e = _ := hk.1
  clear hk
  go_wp2
  first | go_end0 | refine bodyPost_ret (results_none rfl _ _ _) rfl ?_
  exact HK.out
set_option maxHeartbeats 4000000 in
theorem run_trap (h : CI W g fl [116, 114, 97, 112] GA gc) (hfl : fl.oneCell' = true) : Calls Tryz.prog 13 #[.pointer (some ⟨g, 0, none⟩)] W (KC W g) := by
  have e38 : W.cell? ⟨g, 38, none⟩ = some (.string ⟨#[116, 114, 97, 112]⟩) := Lib.cell_of_heap h 38
  have hg := h.lt
  have HX := Lib.hid (trap_no h hfl)
  clear h
  go_enter Tryz.func13, Tryz.ntmps13
  go_wp2_with fail
  refine HX.out.mono ?_
  rintro e Y hk
  have HK := Lib.hid hk
  obtain rfl : e = _ := hk.1
  clear hk
  go_wp2
  first | go_end0 | refine bodyPost_ret (results_none rfl _ _ _) rfl ?_
  exact HK.out
set_option maxHeartbeats 4000000 in
theorem run_kill (hC : CopyAt none 0 0 []) (h : CI W g fl [107, 105, 108, 108] GA gc) (hfl : fl.oneCell' = true) : Calls Tryz.prog 13 #[.pointer (some ⟨g, 0, none⟩)] W (KC W g) := by
  have e38 : W.cell? ⟨g, 38, none⟩ = some (.string ⟨#[107, 105, 108, 108]⟩) := Lib.cell_of_heap h 38
  have hg := h.lt
  have HX := Lib.hid (kill_no hC h hfl (by simp))
  clear h hC
  go_enter Tryz.func13, Tryz.ntmps13
  go_wp2_with fail
  refine HX.out.mono ?_
  rintro e Y hk
  have HK := Lib.hid hk
  obtain rfl : e = _ := hk.1
  clear hk
  go_wp2
  first | go_end0 | refine bodyPost_ret (results_none rfl _ _ _) rfl ?_
  exact HK.out
set_option maxHeartbeats 4000000 in
theorem run_simple (h : CI W g fl nm GA gc) (hn : (nm == [106, 111, 98, 115]) = false ∧ (nm == [114, 101, 97, 100]) = false ∧ (nm == [99, 100]) = false ∧ (nm == [99, 111, 109, 109, 97, 110, 100]) = false ∧ (nm == [116, 121, 112, 101]) = false ∧ (nm == [97, 108, 105, 97, 115]) = false ∧ (nm == [117, 110, 97, 108, 105, 97, 115]) = false ∧ (nm == [101, 120, 112, 111, 114, 116]) = false ∧ (nm == [114, 101, 97, 100, 111, 110, 108, 121]) = false ∧ (nm == [115, 101, 116]) = false ∧ (nm == [115, 104, 105, 102, 116]) = false ∧ (nm == [117, 110, 115, 101, 116]) = false ∧ (nm == [103, 101, 116, 111, 112, 116, 115]) = false ∧ (nm == [116, 114, 97, 112]) = false ∧ (nm == [107, 105, 108, 108]) = false) (hs : Calls Tryz.prog 38 #[.pointer (some ⟨g, 0, none⟩)] W (KC W g)) : Calls Tryz.prog 13 #[.pointer (some ⟨g, 0, none⟩)] W (KC W g) := by
  obtain ⟨n0, n1, n2, n3, n4, n5, n6, n7, n8, n9, n10, n11, n12, n13, n14⟩ := hn
  have e38 : W.cell? ⟨g, 38, none⟩ = some (.string ⟨nm.toArray⟩) := Lib.cell_of_heap h 38
  have hg := h.lt
  have HX := Lib.hid hs
  clear h hs
  go_enter Tryz.func13, Tryz.ntmps13
  go_wp2_with fail
  refine HX.out.mono ?_
  rintro e Y hk
  have HK := Lib.hid hk
  obtain rfl : e = _ := hk.1
  clear hk
  go_wp2
  first | go_end0 | refine bodyPost_ret (results_none rfl _ _ _) rfl ?_
  exact HK.out
end
end W
end Go.Proofs.YtcbebkeakkahgaaGreatDoor
