/- Built-in commands without operands: cd. -/
import Derived.Test.YtcbebkeakkahgaaGreatDoorW37j
namespace Go.Proofs.YtcbebkeakkahgaaGreatDoor
open Go.RowKit K
namespace W
set_option maxRecDepth 100000
section
variable {W : World} {g : Nat} {fl : Value} {nm : List UInt8} {GA : Option Addr} {gc : Nat}
set_option maxHeartbeats 4000000 in
theorem cd_no (h : CI W g fl nm GA gc) (hfl : fl.oneCell' = true) (hn : nm.length ≤ 100000) : Calls Tryz.prog 26 #[.pointer (some ⟨g, 0, none⟩)] W (KC W g) := by
  have e39 := h.c39
  have e1 : W.cell? ⟨g, 1, none⟩ = some (.slice none 0 0) := Lib.cell_of_heap h 1
  have hg := h.lt
  have HM := Lib.hid (most_ok GA 0 gc h 1 (by omega))
  have HG := Lib.hid (Get_nil [72, 79, 77, 69] W)
  have H := Lib.hid h
  clear h
  go_enter Tryz.func26, Tryz.ntmps26
  go_wp2_with fail
  refine HM.out.mono ?_
  rintro e Y ⟨rfl, hY⟩
  obtain rfl : W = Y := hY.symm
  go_wp2_with fail
  refine HG.out.mono ?_
  rintro e Y ⟨rfl, hb⟩
  obtain ⟨X, hX⟩ : ∃ X, X = Y.alloc (.cells #[.string ⟨#[]⟩, .string ⟨#[]⟩, .bool false, .bool false, .bool false] 41) := ⟨_, rfl⟩
  have HX := Lib.hid hX
  have hbx : Below W.heap.size W X := by rw [hX]; exact btr hb (balloc _ _)
  have HF := Lib.hid (fail_any (H.out.below hbx) [72, 79, 77, 69, 32, 110, 111, 116, 32, 115, 101, 116] (by simp) hn (by decide))
  have HB := Lib.hid (OneBox.of hg hbx)
  clear hX hbx hb
  go_upto_region 8 with (fail)
  rw [← HX.out]
  go_wp2_with fail
  refine HF.out.mono ?_
  rintro e Z ⟨rfl, hc, ho⟩
  have HK := Lib.hid (KC.of hc (HB.out.trans ho) rfl rfl rfl rfl hfl rfl)
  clear hc ho
  go_wp2
  first | go_end0 | refine bodyPost_ret (results_none rfl _ _ _) rfl ?_
  exact HK.out
end
end W
end Go.Proofs.YtcbebkeakkahgaaGreatDoor
