/- Built-in commands: run at shift, set, kill and export, over the contract of the command; printed by gen38b.py. -/
import Derived.Test.YtcbebkeakkahgaaGreatDoorW37e
namespace Go.Proofs.YtcbebkeakkahgaaGreatDoor
open Go.RowKit K
namespace W
set_option maxRecDepth 100000
section
variable {W : World} {g : Nat} (R : World → Prop)
set_option maxHeartbeats 4000000 in
theorem run_to_shift (e38 : W.cell? ⟨g, 38, none⟩ = some (.string ⟨#[115, 104, 105, 102, 116]⟩)) (h : Calls Tryz.prog 33 #[.pointer (some ⟨g, 0, none⟩)] W fun e w' => e = .returned (.tuple #[]) ∧ R w') :
    Calls Tryz.prog 13 #[.pointer (some ⟨g, 0, none⟩)] W fun e w' => e = .returned (.tuple #[]) ∧ R w' := by
  have hg := lt_cell e38
  have HX := Lib.hid h
  clear h
  go_enter Tryz.func13, Tryz.ntmps13
  go_wp2_with fail
  refine HX.out.mono ?_
  rintro e Y ⟨rfl, hk⟩
  have HK := Lib.hid hk
  clear hk
  go_wp2
  first | go_end0 | refine bodyPost_ret (results_none rfl _ _ _) rfl ?_
  exact ⟨rfl, HK.out⟩
set_option maxHeartbeats 4000000 in
theorem run_to_set (e38 : W.cell? ⟨g, 38, none⟩ = some (.string ⟨#[115, 101, 116]⟩)) (h : Calls Tryz.prog 32 #[.pointer (some ⟨g, 0, none⟩)] W fun e w' => e = .returned (.tuple #[]) ∧ R w') :
    Calls Tryz.prog 13 #[.pointer (some ⟨g, 0, none⟩)] W fun e w' => e = .returned (.tuple #[]) ∧ R w' := by
  have hg := lt_cell e38
  have HX := Lib.hid h
  clear h
  go_enter Tryz.func13, Tryz.ntmps13
  go_wp2_with fail
  refine HX.out.mono ?_
  rintro e Y ⟨rfl, hk⟩
  have HK := Lib.hid hk
  clear hk
  go_wp2
  first | go_end0 | refine bodyPost_ret (results_none rfl _ _ _) rfl ?_
  exact ⟨rfl, HK.out⟩
set_option maxHeartbeats 4000000 in
theorem run_to_kill (e38 : W.cell? ⟨g, 38, none⟩ = some (.string ⟨#[107, 105, 108, 108]⟩)) (h : Calls Tryz.prog 37 #[.pointer (some ⟨g, 0, none⟩)] W fun e w' => e = .returned (.tuple #[]) ∧ R w') :
    Calls Tryz.prog 13 #[.pointer (some ⟨g, 0, none⟩)] W fun e w' => e = .returned (.tuple #[]) ∧ R w' := by
  have hg := lt_cell e38
  have HX := Lib.hid h
  clear h
  go_enter Tryz.func13, Tryz.ntmps13
  go_wp2_with fail
  refine HX.out.mono ?_
  rintro e Y ⟨rfl, hk⟩
  have HK := Lib.hid hk
  clear hk
  go_wp2
  first | go_end0 | refine bodyPost_ret (results_none rfl _ _ _) rfl ?_
  exact ⟨rfl, HK.out⟩
set_option maxHeartbeats 4000000 in
theorem run_to_export (e38 : W.cell? ⟨g, 38, none⟩ = some (.string ⟨#[101, 120, 112, 111, 114, 116]⟩)) (h : Calls Tryz.prog 31 #[.pointer (some ⟨g, 0, none⟩)] W fun e w' => e = .returned (.tuple #[]) ∧ R w') :
    Calls Tryz.prog 13 #[.pointer (some ⟨g, 0, none⟩)] W fun e w' => e = .returned (.tuple #[]) ∧ R w' := by
  have hg := lt_cell e38
  have HX := Lib.hid h
  clear h
  go_enter Tryz.func13, Tryz.ntmps13
  go_wp2_with fail
  refine HX.out.mono ?_
  rintro e Y ⟨rfl, hk⟩
  have HK := Lib.hid hk
  clear hk
  go_wp2
  first | go_end0 | refine bodyPost_ret (results_none rfl _ _ _) rfl ?_
  exact ⟨rfl, HK.out⟩
end
end W
end Go.Proofs.YtcbebkeakkahgaaGreatDoor
