/- Built-in commands without operands: run at a known name; printed by gen37t.py. -/
import Derived.Test.YtcbebkeakkahgaaGreatDoorW37s
namespace Go.Proofs.YtcbebkeakkahgaaGreatDoor
open Go.RowKit K
namespace W
set_option maxRecDepth 100000
section
variable {W : World} {g : Nat} {FA : Option Addr} {fn fc : Nat} {GA : Option Addr} {gc : Nat}
theorem run_known (hC : CopyAt none 0 0 []) {nm : List UInt8} (hk : BK.knB nm = true) (h : CI W g (.slice FA fn fc) nm GA gc) : Calls Tryz.prog 13 #[.pointer (some ⟨g, 0, none⟩)] W (KC W g) := by
  have hk2 : nm ∈ BK.sp ∨ nm ∈ BK.kn := by simpa [BK.knB] using hk
  simp only [BK.sp, BK.kn, List.mem_cons, List.not_mem_nil, or_false] at hk2
  rcases hk2 with (rfl | rfl | rfl | rfl | rfl | rfl | rfl | rfl | rfl | rfl | rfl | rfl | rfl | rfl) | (rfl | rfl | rfl | rfl | rfl | rfl | rfl | rfl | rfl | rfl | rfl | rfl | rfl | rfl | rfl | rfl | rfl)
  · exact run_simple h (by decide) (simple_dot hC h rfl)
  · exact run_simple h (by decide) (simple_colon h rfl)
  · exact run_simple h (by decide) (simple_break h rfl)
  · exact run_simple h (by decide) (simple_continue h rfl)
  · exact run_simple h (by decide) (simple_eval h rfl)
  · exact run_simple h (by decide) (simple_exec h rfl)
  · exact run_simple h (by decide) (simple_exit h rfl)
  · exact run_export h rfl
  · exact run_readonly h rfl
  · exact run_simple h (by decide) (simple_return h rfl)
  · exact run_set h rfl
  · exact run_shift h rfl
  · exact run_trap h rfl
  · exact run_unset h rfl
  · exact run_simple h (by decide) (simple_bracket hC h rfl)
  · exact run_alias h rfl
  · exact run_simple h (by decide) (simple_bg h rfl)
  · exact run_cd h rfl
  · exact run_command h rfl
  · exact run_simple h (by decide) (simple_false h rfl)
  · exact run_simple h (by decide) (simple_fg h rfl)
  · exact run_getopts hC h rfl
  · exact run_jobs h rfl
  · exact run_kill hC h rfl
  · exact run_simple h (by decide) (simple_pwd h rfl)
  · exact run_read h rfl
  · exact run_simple h (by decide) (simple_test h)
  · exact run_simple h (by decide) (simple_true h rfl)
  · exact run_type h rfl
  · exact run_unalias hC h rfl
  · exact run_simple h (by decide) (simple_wait h rfl)
end
end W
end Go.Proofs.YtcbebkeakkahgaaGreatDoor
