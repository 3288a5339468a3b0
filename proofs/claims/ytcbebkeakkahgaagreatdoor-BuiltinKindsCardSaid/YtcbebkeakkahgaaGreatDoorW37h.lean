/- Built-in commands without operands, third part; printed by gen37h.py. -/
import Derived.Test.YtcbebkeakkahgaaGreatDoorW37g
namespace Go.Proofs.YtcbebkeakkahgaaGreatDoor
open Go.RowKit K
namespace W
set_option maxRecDepth 100000
section
variable {W : World} {g : Nat} {fl : Value} {nm : List UInt8} {GA : Option Addr} {gc : Nat}
theorem act_no (h : CI W g fl nm GA gc) (hfl : fl.oneCell' = true) (k : Int) : Calls Tryz.prog 55 #[.pointer (some ⟨g, 0, none⟩), .int .i64 k] W (KC W g) :=
  (act_any (l := []) h ⟨GA, gc, rfl, Nat.zero_le _, .inl rfl⟩ (by simp) k).mono fun e w' ⟨A', c', he, hc, ho⟩ => by rw [he]; exact KC.of hc ho rfl rfl rfl rfl hfl rfl
theorem usage_no (hC : CopyAt none 0 0 []) (h : CI W g fl nm GA gc) (hfl : fl.oneCell' = true) (hn : nm.length ≤ 100000) (m : List UInt8) (hm : m.length ≤ 100000) : Calls Tryz.prog 57 #[.pointer (some ⟨g, 0, none⟩), .string ⟨m.toArray⟩] W (KC W g) :=
  (usage_any hC h (RV.nil _) (by simp) m hn hm).mono fun e w' ⟨A', c', he, hc, ho⟩ => by rw [he]; exact KC.of hc ho rfl rfl rfl rfl hfl rfl
theorem out_no (h : CI W g fl nm GA gc) (hfl : fl.oneCell' = true) (m : List UInt8) (hm : m.length ≤ 100000) : Calls Tryz.prog 62 #[.pointer (some ⟨g, 0, none⟩), .string ⟨m.toArray⟩] W (KC W g) :=
  (out_any h m (by simp) (by omega)).mono fun e w' ⟨he, hc, ho⟩ => by rw [he]; exact KC.of hc ho rfl rfl rfl rfl hfl rfl
set_option maxHeartbeats 4000000 in
theorem simple_colon (h : CI W g fl [58] GA gc) (hfl : fl.oneCell' = true) : Calls Tryz.prog 38 #[.pointer (some ⟨g, 0, none⟩)] W (KC W g) := by
  have e38 : W.cell? ⟨g, 38, none⟩ = some (.string ⟨#[58]⟩) := Lib.cell_of_heap h 38
  have e39 := h.c39
  have e10 : W.cell? ⟨g, 10, none⟩ = some (.string ⟨#[47]⟩) := Lib.cell_of_heap h 10
  have e17 : W.cell? ⟨g, 17, none⟩ = some (.int .i64 0) := Lib.cell_of_heap h 17
  have e18 : W.cell? ⟨g, 18, none⟩ = some (.int .i64 0) := Lib.cell_of_heap h 18
  have f17 : W.frozen? ⟨g, 17, none⟩ = false := Lib.frozen_of_heap h 17
  have f18 : W.frozen? ⟨g, 18, none⟩ = false := Lib.frozen_of_heap h 18
  have hg := h.lt
  have HK := Lib.hid (KC.of h (OneBox.refl g W) rfl rfl rfl rfl hfl rfl)
  clear h
  go_enter Tryz.func38, Tryz.ntmps38
  go_wp2
  first | go_end0 | refine bodyPost_ret (results_none rfl _ _ _) rfl ?_
  exact HK.out
set_option maxHeartbeats 4000000 in
theorem simple_true (h : CI W g fl [116, 114, 117, 101] GA gc) (hfl : fl.oneCell' = true) : Calls Tryz.prog 38 #[.pointer (some ⟨g, 0, none⟩)] W (KC W g) := by
  have e38 : W.cell? ⟨g, 38, none⟩ = some (.string ⟨#[116, 114, 117, 101]⟩) := Lib.cell_of_heap h 38
  have e39 := h.c39
  have e10 : W.cell? ⟨g, 10, none⟩ = some (.string ⟨#[47]⟩) := Lib.cell_of_heap h 10
  have e17 : W.cell? ⟨g, 17, none⟩ = some (.int .i64 0) := Lib.cell_of_heap h 17
  have e18 : W.cell? ⟨g, 18, none⟩ = some (.int .i64 0) := Lib.cell_of_heap h 18
  have f17 : W.frozen? ⟨g, 17, none⟩ = false := Lib.frozen_of_heap h 17
  have f18 : W.frozen? ⟨g, 18, none⟩ = false := Lib.frozen_of_heap h 18
  have hg := h.lt
  have HK := Lib.hid (KC.of h (OneBox.refl g W) rfl rfl rfl rfl hfl rfl)
  clear h
  go_enter Tryz.func38, Tryz.ntmps38
  go_wp2
  first | go_end0 | refine bodyPost_ret (results_none rfl _ _ _) rfl ?_
  exact HK.out
set_option maxHeartbeats 4000000 in
theorem simple_false (h : CI W g fl [102, 97, 108, 115, 101] GA gc) (hfl : fl.oneCell' = true) : Calls Tryz.prog 38 #[.pointer (some ⟨g, 0, none⟩)] W (KC W g) := by
  have e38 : W.cell? ⟨g, 38, none⟩ = some (.string ⟨#[102, 97, 108, 115, 101]⟩) := Lib.cell_of_heap h 38
  have e39 := h.c39
  have e10 : W.cell? ⟨g, 10, none⟩ = some (.string ⟨#[47]⟩) := Lib.cell_of_heap h 10
  have e17 : W.cell? ⟨g, 17, none⟩ = some (.int .i64 0) := Lib.cell_of_heap h 17
  have e18 : W.cell? ⟨g, 18, none⟩ = some (.int .i64 0) := Lib.cell_of_heap h 18
  have f17 : W.frozen? ⟨g, 17, none⟩ = false := Lib.frozen_of_heap h 17
  have f18 : W.frozen? ⟨g, 18, none⟩ = false := Lib.frozen_of_heap h 18
  have hg := h.lt
  have HK := Lib.hid (KC.of (h.set_st 1) ((OneBox.refl g W).set 17 (.int .i64 1)) rfl rfl rfl rfl hfl rfl)
  clear h
  go_enter Tryz.func38, Tryz.ntmps38
  go_wp2
  first | go_end0 | refine bodyPost_ret (results_none rfl _ _ _) rfl ?_
  exact HK.out
set_option maxHeartbeats 4000000 in
theorem simple_pwd (h : CI W g fl [112, 119, 100] GA gc) (hfl : fl.oneCell' = true) : Calls Tryz.prog 38 #[.pointer (some ⟨g, 0, none⟩)] W (KC W g) := by
  have e38 : W.cell? ⟨g, 38, none⟩ = some (.string ⟨#[112, 119, 100]⟩) := Lib.cell_of_heap h 38
  have e39 := h.c39
  have e10 : W.cell? ⟨g, 10, none⟩ = some (.string ⟨#[47]⟩) := Lib.cell_of_heap h 10
  have e17 : W.cell? ⟨g, 17, none⟩ = some (.int .i64 0) := Lib.cell_of_heap h 17
  have e18 : W.cell? ⟨g, 18, none⟩ = some (.int .i64 0) := Lib.cell_of_heap h 18
  have f17 : W.frozen? ⟨g, 17, none⟩ = false := Lib.frozen_of_heap h 17
  have f18 : W.frozen? ⟨g, 18, none⟩ = false := Lib.frozen_of_heap h 18
  have hg := h.lt
  have HM := Lib.hid (most_ok GA 0 gc h 0 (by omega))
  have HX := Lib.hid (out_no h hfl [47] (by simp))
  clear h
  go_enter Tryz.func38, Tryz.ntmps38
  go_wp2_with fail
  refine HM.out.mono ?_
  rintro e Y ⟨rfl, hY⟩
  obtain rfl : W = Y := hY.symm
  go_wp2_with fail
  refine HX.out.mono ?_
  rintro e Y hk
  have HK := Lib.hid hk
  obtain rfl : e = _ := hk.1
  clear hk
  go_wp2
  first | go_end0 | refine bodyPost_ret (results_none rfl _ _ _) rfl ?_
  exact HK.out
set_option maxHeartbeats 4000000 in
theorem simple_bracket (hC : CopyAt none 0 0 []) (h : CI W g fl [91] GA gc) (hfl : fl.oneCell' = true) : Calls Tryz.prog 38 #[.pointer (some ⟨g, 0, none⟩)] W (KC W g) := by
  have e38 : W.cell? ⟨g, 38, none⟩ = some (.string ⟨#[91]⟩) := Lib.cell_of_heap h 38
  have e39 := h.c39
  have e10 : W.cell? ⟨g, 10, none⟩ = some (.string ⟨#[47]⟩) := Lib.cell_of_heap h 10
  have e17 : W.cell? ⟨g, 17, none⟩ = some (.int .i64 0) := Lib.cell_of_heap h 17
  have e18 : W.cell? ⟨g, 18, none⟩ = some (.int .i64 0) := Lib.cell_of_heap h 18
  have f17 : W.frozen? ⟨g, 17, none⟩ = false := Lib.frozen_of_heap h 17
  have f18 : W.frozen? ⟨g, 18, none⟩ = false := Lib.frozen_of_heap h 18
  have hg := h.lt
  have HX := Lib.hid (usage_no hC h hfl (by simp) [109, 105, 115, 115, 105, 110, 103, 32, 93] (by decide))
  clear h
  go_enter Tryz.func38, Tryz.ntmps38
  go_wp2_with fail
  refine HX.out.mono ?_
  rintro e Y hk
  have HK := Lib.hid hk
  obtain rfl : e = _ := hk.1
  clear hk
  go_wp2
  first | go_end0 | refine bodyPost_ret (results_none rfl _ _ _) rfl ?_
  exact HK.out
set_option maxHeartbeats 4000000 in
theorem simple_eval (h : CI W g fl [101, 118, 97, 108] GA gc) (hfl : fl.oneCell' = true) : Calls Tryz.prog 38 #[.pointer (some ⟨g, 0, none⟩)] W (KC W g) := by
  have e38 : W.cell? ⟨g, 38, none⟩ = some (.string ⟨#[101, 118, 97, 108]⟩) := Lib.cell_of_heap h 38
  have e39 := h.c39
  have e10 : W.cell? ⟨g, 10, none⟩ = some (.string ⟨#[47]⟩) := Lib.cell_of_heap h 10
  have e17 : W.cell? ⟨g, 17, none⟩ = some (.int .i64 0) := Lib.cell_of_heap h 17
  have e18 : W.cell? ⟨g, 18, none⟩ = some (.int .i64 0) := Lib.cell_of_heap h 18
  have f17 : W.frozen? ⟨g, 17, none⟩ = false := Lib.frozen_of_heap h 17
  have f18 : W.frozen? ⟨g, 18, none⟩ = false := Lib.frozen_of_heap h 18
  have hg := h.lt
  have HK := Lib.hid (KC.of h (OneBox.refl g W) rfl rfl rfl rfl hfl rfl)
  clear h
  go_enter Tryz.func38, Tryz.ntmps38
  go_wp2
  first | go_end0 | refine bodyPost_ret (results_none rfl _ _ _) rfl ?_
  exact HK.out
set_option maxHeartbeats 4000000 in
theorem simple_exec (h : CI W g fl [101, 120, 101, 99] GA gc) (hfl : fl.oneCell' = true) : Calls Tryz.prog 38 #[.pointer (some ⟨g, 0, none⟩)] W (KC W g) := by
  have e38 : W.cell? ⟨g, 38, none⟩ = some (.string ⟨#[101, 120, 101, 99]⟩) := Lib.cell_of_heap h 38
  have e39 := h.c39
  have e10 : W.cell? ⟨g, 10, none⟩ = some (.string ⟨#[47]⟩) := Lib.cell_of_heap h 10
  have e17 : W.cell? ⟨g, 17, none⟩ = some (.int .i64 0) := Lib.cell_of_heap h 17
  have e18 : W.cell? ⟨g, 18, none⟩ = some (.int .i64 0) := Lib.cell_of_heap h 18
  have f17 : W.frozen? ⟨g, 17, none⟩ = false := Lib.frozen_of_heap h 17
  have f18 : W.frozen? ⟨g, 18, none⟩ = false := Lib.frozen_of_heap h 18
  have hg := h.lt
  have HX := Lib.hid (fun k : Int => act_no h hfl k)
  clear h
  go_enter Tryz.func38, Tryz.ntmps38
  go_wp2_with fail
  refine (HX.out _).mono ?_
  rintro e Y hk
  have HK := Lib.hid hk
  obtain rfl : e = _ := hk.1
  clear hk
  go_wp2
  first | go_end0 | refine bodyPost_ret (results_none rfl _ _ _) rfl ?_
  exact HK.out
set_option maxHeartbeats 4000000 in
theorem simple_bg (h : CI W g fl [98, 103] GA gc) (hfl : fl.oneCell' = true) : Calls Tryz.prog 38 #[.pointer (some ⟨g, 0, none⟩)] W (KC W g) := by
  have e38 : W.cell? ⟨g, 38, none⟩ = some (.string ⟨#[98, 103]⟩) := Lib.cell_of_heap h 38
  have e39 := h.c39
  have e10 : W.cell? ⟨g, 10, none⟩ = some (.string ⟨#[47]⟩) := Lib.cell_of_heap h 10
  have e17 : W.cell? ⟨g, 17, none⟩ = some (.int .i64 0) := Lib.cell_of_heap h 17
  have e18 : W.cell? ⟨g, 18, none⟩ = some (.int .i64 0) := Lib.cell_of_heap h 18
  have f17 : W.frozen? ⟨g, 17, none⟩ = false := Lib.frozen_of_heap h 17
  have f18 : W.frozen? ⟨g, 18, none⟩ = false := Lib.frozen_of_heap h 18
  have hg := h.lt
  have HX := Lib.hid (fun k : Int => act_no h hfl k)
  clear h
  go_enter Tryz.func38, Tryz.ntmps38
  go_wp2_with fail
  refine (HX.out _).mono ?_
  rintro e Y hk
  have HK := Lib.hid hk
  obtain rfl : e = _ := hk.1
  clear hk
  go_wp2
  first | go_end0 | refine bodyPost_ret (results_none rfl _ _ _) rfl ?_
  exact HK.out
end
end W
end Go.Proofs.YtcbebkeakkahgaaGreatDoor
