/- Built-in commands: options where there is none; jobs, read, command, unalias, attributes, unset without operands. -/
import Derived.Test.YtcbebkeakkahgaaGreatDoorW37q
import Derived.Test.YtcbebkeakkahgaaGreatDoorW37i
namespace Go.Proofs.YtcbebkeakkahgaaGreatDoor
open Go.RowKit K
namespace W
set_option maxRecDepth 100000
section
variable {W : World} {g : Nat} {vv pv : Value} {op : Int} {out er : List UInt8} {st act n : Int} {tx : List UInt8} {ra bp fl : Value} {nm : List UInt8} {GA : Option Addr} {gn gc : Nat}
set_option maxHeartbeats 4000000 in
theorem options_stop (h : CB W g vv pv op out er st act n tx ra bp fl nm (.slice GA gn gc)) (s : List UInt8) (hV : ∀ v, Calls Tryz.prog 125 #[.string ⟨s.toArray⟩] v fun e w' => e = .returned (.int .i64 0) ∧ Below v.heap.size v w') (wd : List UInt8) (hw : NoOpt W GA gn wd) (hgn : gn ≤ gc) :
    Calls Tryz.prog 53 #[.pointer (some ⟨g, 0, none⟩), .string ⟨s.toArray⟩] W fun e w' => e = .returned (.tuple #[.string ⟨#[]⟩, .bool true]) ∧ CB w' g vv pv op out er st act n tx ra bp fl nm (.slice GA gn gc) ∧ OneBox g W w' := by
  have HA := Lib.hid (All_stop s hV GA gn gc wd W hw)
  have e39 : W.cell? ⟨g, 39, none⟩ = some (.slice GA gn gc) := Lib.cell_of_heap h 39
  have hg := h.lt
  have H := Lib.hid h
  clear h hV hw
  go_enter Tryz.func53, Tryz.ntmps53
  go_wp2_with fail
  refine HA.out.mono ?_
  rintro e Y ⟨rfl, hy⟩
  have HY := Lib.hid (H.out.below hy)
  have HOB := Lib.hid (OneBox.of hg hy)
  have e39 : Y.cell? ⟨g, 39, none⟩ = some (.slice GA gn gc) := Lib.cell_of_heap HY.out 39
  have f39 : Y.frozen? ⟨g, 39, none⟩ = false := Lib.frozen_of_heap HY.out 39
  clear hy
  go_wp2
  go_loopg [9, 26] 1 (fun k x i wr => k = 1 ∧ x = .string ⟨#[]⟩ ∧ i = .int .i64 0 ∧ wr = Y)
  case atStart => exact ⟨rfl, rfl, rfl, rfl⟩
  case round =>
    obtain ⟨rfl, rfl, rfl, hwr⟩ := hrel
    obtain rfl : Y = wr := hwr.symm
    have q1 : (0 : Int) ≤ (gn : Int) := by omega
    by_cases hc0 : gc = 0
    · go_upto_region 13 with (fail)
      have q2 : min (0 : Int) (gn : Int) = 0 := by omega
      go_still_tail 15, (by kernel_rfl)
      change wpList _ _ _ _ _ Y.drew
      go_wp2
      go_ret2
      exact ⟨rfl, HY.out.set_ag _, HOB.out.trans (((OneBox.refl g Y).set 39 _).trans (OneBox.of (by simpa using HY.out.lt) (Below.refl _ _).drew))⟩
    · go_upto_region 13 with (fail)
      have q2 : min (0 : Int) (gn : Int) = 0 := by omega
      go_still_tail 15, (by kernel_rfl)
      change wpList _ _ _ _ _ Y.drew
      go_wp2
      go_ret2
      exact ⟨rfl, HY.out.set_ag _, HOB.out.trans (((OneBox.refl g Y).set 39 _).trans (OneBox.of (by simpa using HY.out.lt) (Below.refl _ _).drew))⟩
end
section
variable {W : World} {g : Nat} {fl : Value} {nm : List UInt8} {GA : Option Addr} {gc : Nat}
theorem opt_no (h : CI W g fl nm GA gc) (s : List UInt8) (hs : s = [118] ∨ s = [97] ∨ s = [108, 112] ∨ s = [114] ∨ s = [112] ∨ s = [102, 118]) :
    Calls Tryz.prog 53 #[.pointer (some ⟨g, 0, none⟩), .string ⟨s.toArray⟩] W fun e w' => e = .returned (.tuple #[.string ⟨#[]⟩, .bool true]) ∧ CI w' g fl nm GA gc ∧ OneBox g W w' :=
  options_stop h s (Valid_spec s hs) [] ⟨.inl ⟨rfl, rfl⟩, by simp, .inl (by simp)⟩ (Nat.zero_le _)
theorem KC.trans {W W1 : World} {g : Nat} {e : Ending} {w' : World} (ho : OneBox g W W1) (h : KC W1 g e w') : KC W g e w' := ⟨h.1, h.2.1, ho.trans h.2.2⟩
set_option maxHeartbeats 4000000 in
theorem jobs_no (h : CI W g fl nm GA gc) (hfl : fl.oneCell' = true) : Calls Tryz.prog 24 #[.pointer (some ⟨g, 0, none⟩)] W (KC W g) := by
  have HO := Lib.hid (opt_no h [108, 112] (by simp))
  clear h
  go_enter Tryz.func24, Tryz.ntmps24
  go_wp2_with fail
  refine HO.out.mono ?_
  rintro e Y ⟨rfl, hy, hb⟩
  have HB := Lib.hid hb
  have HL := Lib.hid (last_nil Y)
  have HA := Lib.hid (fun k => act_no hy hfl k)
  clear hy hb
  go_wp2_with fail
  refine HL.out.mono ?_
  rintro e Z ⟨rfl, hz⟩
  obtain rfl : Y = Z := hz.symm
  go_wp2_with fail
  refine (HA.out _).mono ?_
  intro e Z hk
  have HK := Lib.hid (KC.trans HB.out hk)
  obtain rfl := hk.1
  clear hk
  go_wp2
  first | go_end0 | refine bodyPost_ret (results_none rfl _ _ _) rfl ?_
  exact HK.out
set_option maxHeartbeats 4000000 in
theorem command_no (h : CI W g fl nm GA gc) (hfl : fl.oneCell' = true) : Calls Tryz.prog 27 #[.pointer (some ⟨g, 0, none⟩)] W (KC W g) := by
  have HO := Lib.hid (opt_no h [118] (by simp))
  clear h
  go_enter Tryz.func27, Tryz.ntmps27
  go_wp2_with fail
  refine HO.out.mono ?_
  rintro e Y ⟨rfl, hy, hb⟩
  have HK := Lib.hid (KC.of hy hb rfl rfl rfl rfl hfl rfl)
  have e39 := hy.c39
  have hg := hy.lt
  clear hy hb
  go_wp2_with fail
  first | go_end0 | refine bodyPost_ret (results_none rfl _ _ _) rfl ?_
  exact HK.out
set_option maxHeartbeats 4000000 in
theorem unset_no (h : CI W g fl nm GA gc) (hfl : fl.oneCell' = true) : Calls Tryz.prog 34 #[.pointer (some ⟨g, 0, none⟩)] W (KC W g) := by
  have HO := Lib.hid (opt_no h [102, 118] (by simp))
  clear h
  go_enter Tryz.func34, Tryz.ntmps34
  go_wp2_with fail
  refine HO.out.mono ?_
  rintro e Y ⟨rfl, hy, hb⟩
  have HK := Lib.hid (KC.of hy hb rfl rfl rfl rfl hfl rfl)
  have e39 := hy.c39
  have hg := hy.lt
  clear hy hb
  go_wp2_with fail
  go_loopw [22] (fun i wr => i = .int .i64 0 ∧ wr = Y) (fun _ _ => 0)
  case atStart => exact ⟨rfl, rfl⟩
  case round =>
    obtain ⟨rfl, hwr⟩ := hrel
    obtain rfl : Y = wr := hwr.symm
    go_wp2
    first | go_end0 | refine bodyPost_ret (results_none rfl _ _ _) rfl ?_
    exact HK.out
set_option maxHeartbeats 4000000 in
theorem attributes_no (h : CI W g fl nm GA gc) (hfl : fl.oneCell' = true) : Calls Tryz.prog 31 #[.pointer (some ⟨g, 0, none⟩)] W (KC W g) := by
  have HO := Lib.hid (opt_no h [112] (by simp))
  clear h
  go_enter Tryz.func31, Tryz.ntmps31
  go_wp2_with fail
  refine HO.out.mono ?_
  rintro e Y ⟨rfl, hy, hb⟩
  have HK := Lib.hid (KC.of hy hb rfl rfl rfl rfl hfl rfl)
  have e39 := hy.c39
  have e1 : Y.cell? ⟨g, 1, none⟩ = some (.slice none 0 0) := Lib.cell_of_heap hy 1
  have e38 : Y.cell? ⟨g, 38, none⟩ = some (.string ⟨nm.toArray⟩) := Lib.cell_of_heap hy 38
  have hg := hy.lt
  clear hy hb
  go_wp2_with fail
  go_loopw [39] (fun i wr => i = .int .i64 0 ∧ wr = Y) (fun _ _ => 0)
  case atStart => exact ⟨rfl, rfl⟩
  case round =>
    obtain ⟨rfl, hwr⟩ := hrel
    obtain rfl : Y = wr := hwr.symm
    go_wp2
    go_loopw [70] (fun i wr => i = .int .i64 0 ∧ wr = Y) (fun _ _ => 0)
    case atStart => exact ⟨rfl, rfl⟩
    case round =>
      obtain ⟨rfl, hwr⟩ := hrel
      obtain rfl : Y = wr := hwr.symm
      go_wp2
      first | go_end0 | refine bodyPost_ret (results_none rfl _ _ _) rfl ?_
      exact HK.out
set_option maxHeartbeats 4000000 in
theorem unalias_no (hC : CopyAt none 0 0 []) (h : CI W g fl nm GA gc) (hfl : fl.oneCell' = true) (hn : nm.length ≤ 100000) : Calls Tryz.prog 30 #[.pointer (some ⟨g, 0, none⟩)] W (KC W g) := by
  have HO := Lib.hid (opt_no h [97] (by simp))
  clear h
  go_enter Tryz.func30, Tryz.ntmps30
  go_wp2_with fail
  refine HO.out.mono ?_
  rintro e Y ⟨rfl, hy, hb⟩
  have HB := Lib.hid hb
  have HU := Lib.hid (usage_no hC hy hfl hn [109, 105, 115, 115, 105, 110, 103, 32, 110, 97, 109, 101] (by simp))
  have e39 := hy.c39
  have hg := hy.lt
  clear hy hb hC
  go_wp2_with fail
  refine HU.out.mono ?_
  intro e Z hk
  have HK := Lib.hid (KC.trans HB.out hk)
  obtain rfl := hk.1
  clear hk
  go_wp2
  first | go_end0 | refine bodyPost_ret (results_none rfl _ _ _) rfl ?_
  exact HK.out
set_option maxHeartbeats 4000000 in
theorem read_no (h : CI W g fl nm GA gc) (hfl : fl.oneCell' = true) : Calls Tryz.prog 25 #[.pointer (some ⟨g, 0, none⟩)] W (KC W g) := by
  have HO := Lib.hid (opt_no h [114] (by simp))
  clear h
  go_enter Tryz.func25, Tryz.ntmps25
  go_wp2_with fail
  refine HO.out.mono ?_
  rintro e Y ⟨rfl, hy, hb⟩
  have HB := Lib.hid hb
  have HA := Lib.hid (fun k => act_any (l := []) hy ⟨GA, gc, rfl, Nat.zero_le _, .inl rfl⟩ (by simp) k)
  have e39 := hy.c39
  have hg := hy.lt
  clear hy hb
  go_wp2_with fail
  go_loopw [18] (fun i wr => i = .int .i64 0 ∧ wr = Y) (fun _ _ => 0)
  case atStart => exact ⟨rfl, rfl⟩
  case round =>
    obtain ⟨rfl, hwr⟩ := hrel
    obtain rfl : Y = wr := hwr.symm
    go_wp2_with fail
    refine (HA.out _).mono ?_
    rintro e Z ⟨A', c', rfl, hz, hb⟩
    have e39 : Z.cell? ⟨g, 39, none⟩ = some (.slice GA 0 gc) := Lib.cell_of_heap hz 39
    have HZ := Lib.hid hz
    have HBZ := Lib.hid (HB.out.trans hb)
    have hgz := hz.lt
    have z21 : Z.cell? ⟨g, 21, none⟩ = some (.slice A' 0 c') := Lib.cell_of_heap hz 21
    have y21 : Z.frozen? ⟨g, 21, none⟩ = false := Lib.frozen_of_heap hz 21
    obtain ⟨X, hX⟩ : ∃ X, X = Z.setCell ⟨g, 21, none⟩ (.slice (some ⟨Z.heap.size, 0, none⟩) 1 1) := ⟨_, rfl⟩
    have hx := hz.set_ra (.slice (some ⟨Z.heap.size, 0, none⟩) 1 1)
    rw [← hX] at hx
    have hxo : OneBox g W X := HBZ.out.trans (by rw [hX]; exact (OneBox.refl g Z).set 21 _)
    have HX := Lib.hid hX
    obtain ⟨X2, hX2⟩ : ∃ X2, X2 = X.alloc (.cells #[.string ⟨#[82, 69, 80, 76, 89]⟩] 9) := ⟨_, rfl⟩
    have HX2 := Lib.hid hX2
    have HK := Lib.hid (show KC W g (.returned (.tuple #[])) X2 from by
      have hbx : Below X.heap.size X X2 := by rw [hX2]; exact balloc _ _
      exact KC.of (hx.below hbx) (hxo.trans (OneBox.of hx.lt hbx)) rfl rfl rfl rfl hfl rfl)
    clear hz hb hX hX2 hx hxo
    go_upto_region 11 with (fail)
    rw [← HX.out, ← HX2.out]
    go_wp2
    first | go_end0 | refine bodyPost_ret (results_none rfl _ _ _) rfl ?_
    exact HK.out
end
end W
end Go.Proofs.YtcbebkeakkahgaaGreatDoor
