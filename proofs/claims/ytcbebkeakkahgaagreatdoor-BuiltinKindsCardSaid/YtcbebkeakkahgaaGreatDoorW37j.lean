/- Built-in commands without operands: test, cd; printed by gen37j.py. -/
import Derived.Test.YtcbebkeakkahgaaGreatDoorW37g
namespace Go.Proofs.YtcbebkeakkahgaaGreatDoor
open Go.RowKit K
namespace W
set_option maxRecDepth 100000
theorem whole_nil (p : Nat) (GA : Option Addr) (gc : Nat) (w : World) : Calls Tryz.prog 164 #[.pointer (some ⟨p, 0, none⟩), .slice GA 0 gc] w fun e w' => e = .returned (.bool false) ∧ w' = w := by
  go_enter Tryz.func164, Tryz.ntmps164
  go_wp2
  go_ret
  exact ⟨rfl, rfl⟩
theorem Eval_nil (GA : Option Addr) (gc : Nat) (FA : Option Addr) (fn fc : Nat) (cwd : List UInt8) (w : World) : Calls Tryz.prog 133 #[.slice GA 0 gc, .slice FA fn fc, .string ⟨cwd.toArray⟩] w fun e w' => e = .returned (.tuple #[.bool false, .int .i64 0]) ∧ Below w.heap.size w w' := by
  have HW := Lib.hid (fun p V => whole_nil p GA gc V)
  go_enter Tryz.func133, Tryz.ntmps133
  go_wp2_with fail
  refine (HW.out _ _).mono ?_
  rintro e Y ⟨rfl, hY⟩
  subst hY
  go_wp2
  go_ret2
  exact ⟨rfl, balloc _ _⟩
section
variable {W : World} {g : Nat} {nm : List UInt8} {GA : Option Addr} {gc : Nat} {FA : Option Addr} {fn fc : Nat}
set_option maxHeartbeats 4000000 in
theorem test_no (h : CI W g (.slice FA fn fc) nm GA gc) : Calls Tryz.prog 86 #[.pointer (some ⟨g, 0, none⟩)] W (KC W g) := by
  have e39 := h.c39
  have e37 : W.cell? ⟨g, 37, none⟩ = some (.slice FA fn fc) := Lib.cell_of_heap h 37
  have e10 : W.cell? ⟨g, 10, none⟩ = some (.string ⟨#[47]⟩) := Lib.cell_of_heap h 10
  have hg := h.lt
  have HE := Lib.hid (Eval_nil GA gc FA fn fc [47] W.drew)
  have H := Lib.hid h
  have HS := Lib.hid (fun V (hV : Below W.heap.size W V) => (show V.cell? ⟨g, 39, none⟩ = some (.slice GA 0 gc) ∧ V.cell? ⟨g, 37, none⟩ = some (.slice FA fn fc) ∧ V.cell? ⟨g, 10, none⟩ = some (.string ⟨#[47]⟩) from ⟨Lib.cell_of_heap (H.out.below hV) 39, Lib.cell_of_heap (H.out.below hV) 37, Lib.cell_of_heap (H.out.below hV) 10⟩))
  clear h
  go_enter Tryz.func86, Tryz.ntmps86
  go_wp2_with fail
  go_region_held_law (fun V => V.cell? ⟨g, 39, none⟩ = some (.slice GA 0 gc) ∧ V.cell? ⟨g, 37, none⟩ = some (.slice FA fn fc) ∧ V.cell? ⟨g, 10, none⟩ = some (.string ⟨#[47]⟩))
    (first | with_reducible exact HS.out _ hb2 | with_reducible exact HS.out _ (Below.refl _ _).drew)
    (first | (go_at_call 133; refine HE.out.mono ?_; rintro e Y ⟨rfl, hb⟩; have hb2 : Below W.heap.size W Y := (Below.refl _ _).drew.trans hb))
  have hy := H.out.below hb2
  have e17 : Y.cell? ⟨g, 17, none⟩ = some (.int .i64 0) := Lib.cell_of_heap hy 17
  have f17 : Y.frozen? ⟨g, 17, none⟩ = false := Lib.frozen_of_heap hy 17
  have hyl := hy.lt
  have HK := Lib.hid (KC.of (hy.set_st 1) ((OneBox.of hg hb2).trans ((OneBox.refl g Y).set 17 (.int .i64 1))) rfl rfl rfl rfl rfl rfl)
  clear hb hb2 hy
  go_wp2
  first | go_end0 | refine bodyPost_ret (results_none rfl _ _ _) rfl ?_
  exact HK.out
set_option maxHeartbeats 4000000 in
theorem simple_test (h : CI W g (.slice FA fn fc) [116, 101, 115, 116] GA gc) : Calls Tryz.prog 38 #[.pointer (some ⟨g, 0, none⟩)] W (KC W g) := by
  have e38 : W.cell? ⟨g, 38, none⟩ = some (.string ⟨#[116, 101, 115, 116]⟩) := Lib.cell_of_heap h 38
  have hg := h.lt
  have HX := Lib.hid (test_no h)
  clear h
  go_enter Tryz.func38, Tryz.ntmps38
  go_wp2_with fail
  refine HX.out.mono ?_
  rintro e Y hk
  have HK := Lib.hid hk
  obtain rfl : e = _ := hk.1
  clear hk
  go_wp2
  first | go_end0 | refine bodyPost_ret (results_none rfl _ _ _) rfl ?_
  exact HK.out
end
section
attribute [-go_sem] storeVar
theorem Get_nil (s : List UInt8) (w : World) : Calls Tryz.prog 59 #[.slice none 0 0, .string ⟨s.toArray⟩] w fun e w' => e = .returned (.tuple #[.agg #[.string ⟨#[]⟩, .string ⟨#[]⟩, .bool false, .bool false, .bool false], .bool false]) ∧ Below w.heap.size w w' := by
  have HF := Lib.hid (fun fv V => find_nil fv V)
  have hmf : ∀ (fn : Fn) (first cap : Array Value) (w : World), (Instr.makeFunc fn first cap).run Tryz.prog w = .ok (.func fn first cap) w := fun _ _ _ _ => rfl
  have hiV : (Tryz.prog.info? 41).map (·.size) = some 5 := by kernel_rfl
  obtain ⟨X, hX⟩ : ∃ X, X = (w.alloc (.cells #[.string ⟨s.toArray⟩] 9)).alloc (.cells #[.string ⟨#[]⟩, .string ⟨#[]⟩, .bool false, .bool false, .bool false] 41) := ⟨_, rfl⟩
  have HX := Lib.hid hX
  have hxb : X.heap[w.heap.size + 1]? = some (.cells #[.string ⟨#[]⟩, .string ⟨#[]⟩, .bool false, .bool false, .bool false] 41 (0, 0)) := by rw [hX]; exact al_new' _ _ _ (by simp)
  have HBX := Lib.hid (show Below w.heap.size w X by rw [hX]; exact btr (balloc _ _) (balloc _ _))
  obtain ⟨Z, hZ⟩ : ∃ Z, Z = X.setRow (w.heap.size + 1) #[.string ⟨#[]⟩, .string ⟨#[]⟩, .bool false, .bool false, .bool false] := ⟨_, rfl⟩
  have hst := run_storeVar_row (P := Tryz.prog) X (w.heap.size + 1) 41 41 _ #[.string ⟨#[]⟩, .string ⟨#[]⟩, .bool false, .bool false, .bool false] hxb hiV rfl (by simp [Value.oneCell'])
  have hzb : Z.heap[w.heap.size + 1]? = some (.cells #[.string ⟨#[]⟩, .string ⟨#[]⟩, .bool false, .bool false, .bool false] 41 (0, 0)) := by rw [hZ]; exact setRow_heap X _ _ _ _ (0, 0) hxb
  have hbz : Below w.heap.size w Z := by rw [hZ]; exact rowB HBX.out (Nat.le_succ _) _
  rw [← hZ] at hst
  clear hX hZ hxb
  go_enter Tryz.func59, Tryz.ntmps59
  go_upto_region 1 with (fail)
  rw [← HX.out]
  go_wp2_with fail
  refine (HF.out _ _).mono ?_
  rintro e Y ⟨rfl, hY⟩
  obtain rfl : X = Y := hY.symm
  go_wp2
  have hld : (loadVar 41 ⟨w.heap.size + 1, 0, none⟩).run Tryz.prog Z = .ok (.agg #[.string ⟨#[]⟩, .string ⟨#[]⟩, .bool false, .bool false, .bool false]) Z := run_loadVar_row Z (w.heap.size + 1) _ 41 _ (0, 0) _ hzb Tryz.underlying41 rfl hiV
  exact bodyPost_ret (results_cell2 Tryz.results59 _ _ _ _ _ rfl hld) rfl ⟨rfl, hbz⟩
end
end W
end Go.Proofs.YtcbebkeakkahgaaGreatDoor
