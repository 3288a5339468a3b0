/- Built-in commands: count and shift with an operand. -/
import Derived.Test.YtcbebkeakkahgaaGreatDoorW37z
import Derived.Test.YtcbebkeakkahgaaGreatDoorW37f
import Derived.Test.YtcbebkeakkahgaaGreatDoorQ38
namespace Go.Proofs.YtcbebkeakkahgaaGreatDoor
open Go.RowKit K
namespace W
set_option maxRecDepth 100000
section
variable {W : World} {g : Nat} {vv pv : Value} {op : Int} {out er : List UInt8} {st act n : Int} {tx : List UInt8} {ra bp fl : Value} {nm : List UInt8} {b off gc : Nat}
theorem count_ok (h : CB W g vv pv op out er st act n tx ra bp fl nm (.slice (some ⟨b, off, none⟩) 1 gc)) (s : List UInt8) (hs : W.cell? ⟨b, off, none⟩ = some (.string ⟨s.toArray⟩)) (hl : s.length ≤ 1000) (d : Int) (hd : P.digitsI s = some d) (k : Int) :
    Calls Tryz.prog 72 #[.pointer (some ⟨g, 0, none⟩), .int .i64 k] W fun e w' => e = .returned (.tuple #[.int .i64 d, .bool true]) ∧ Below W.heap.size W w' := by
  have e39 : W.cell? ⟨g, 39, none⟩ = some (.slice (some ⟨b, off, none⟩) 1 gc) := Lib.cell_of_heap h 39
  have hg := h.lt
  have HM := Lib.hid (most_ok _ 1 gc h 1 (by omega))
  have HD := Lib.hid (show Calls Tryz.prog 76 #[.string ⟨s.toArray⟩] W fun e w' => e = .returned (.tuple #[.int .i64 d, .bool true]) ∧ Below W.heap.size W w' from (Digits_any s W (by omega)).mono fun _ _ ⟨he, hb⟩ => ⟨by rw [he, hd]; rfl, hb⟩)
  clear h hd
  go_enter Tryz.func72, Tryz.ntmps72
  go_wp2_with fail
  refine HM.out.mono ?_
  rintro e Y ⟨rfl, hY⟩
  obtain rfl : W = Y := hY.symm
  go_wp2_with fail
  refine HD.out.mono ?_
  rintro e Y ⟨rfl, hy⟩
  have HY := Lib.hid hy
  clear hy
  go_wp2
  go_ret2
  exact ⟨rfl, HY.out⟩
end
section
variable {W : World} {g : Nat} {vv pv : Value} {op : Int} {out er : List UInt8} {st act n : Int} {tx : List UInt8} {ra fl : Value} {nm : List UInt8} {b off gc : Nat} {PA : Option Addr} {pn pc : Nat} {ps : List (List UInt8)}
theorem count_x (h : CB W g vv pv op out er st act n tx ra (.slice PA pn pc) fl nm (.slice (some ⟨b, off, none⟩) 1 gc)) (hs : W.cell? ⟨b, off, none⟩ = some (.string ⟨#[120]⟩)) (hp : SV W (.slice PA pn pc) ps) (hpl : ps.length ≤ 1000) (hn : nm.length ≤ 1000) (k : Int) :
    Calls Tryz.prog 72 #[.pointer (some ⟨g, 0, none⟩), .int .i64 k] W fun e w' => e = .returned (.tuple #[.int .i64 0, .bool false]) ∧ (∃ A1 c1, CB w' g (.slice none 0 0) (.slice A1 pn c1) 0 [] (nm ++ [58, 32] ++ [120, 58, 32, 98, 97, 100, 32, 110, 117, 109, 98, 101, 114] ++ [10]) 2 0 0 [] (.slice none 0 0) (.slice PA pn pc) fl nm (.slice (some ⟨b, off, none⟩) 1 gc)) ∧ OneBox g W w' := by
  have e39 : W.cell? ⟨g, 39, none⟩ = some (.slice (some ⟨b, off, none⟩) 1 gc) := Lib.cell_of_heap h 39
  have hg := h.lt
  have hbl := lt_cell hs
  have H := Lib.hid h
  have HM := Lib.hid (most_ok _ 1 gc h 1 (by omega))
  have HP := Lib.hid hp
  have HS := Lib.hid hs
  have HD := Lib.hid (show Calls Tryz.prog 76 #[.string ⟨#[120]⟩] W fun e w' => e = .returned (.tuple #[.int .i64 0, .bool false]) ∧ Below W.heap.size W w' from (Digits_any [120] W (by decide)).mono fun _ _ ⟨he, hb⟩ => ⟨by rw [he]; rfl, hb⟩)
  clear h hp
  go_enter Tryz.func72, Tryz.ntmps72
  go_wp2_with fail
  refine HM.out.mono ?_
  rintro e Y ⟨rfl, hY⟩
  obtain rfl : W = Y := hY.symm
  go_wp2_with fail
  refine HD.out.mono ?_
  rintro e Y ⟨rfl, hy⟩
  have HY := Lib.hid hy
  have hcy := H.out.below hy
  have e39 : Y.cell? ⟨g, 39, none⟩ = some (.slice (some ⟨b, off, none⟩) 1 gc) := Lib.cell_of_heap hcy 39
  have hsy : Y.cell? ⟨b, off, none⟩ = some (.string ⟨#[120]⟩) := (hy.cell (p := ⟨b, off, none⟩) hbl).trans HS.out
  have HU := Lib.hid (usage_any (copyAt_any PA pn pc ps) hcy (HP.out.below hy) hpl [120, 58, 32, 98, 97, 100, 32, 110, 117, 109, 98, 101, 114] (by omega) (by decide))
  clear hy hcy
  go_wp2_with fail
  refine HU.out.mono ?_
  rintro e Z ⟨A1, c1, rfl, hz, hob⟩
  have HZ := Lib.hid hz
  have HO := Lib.hid ((OneBox.of hg HY.out).trans hob)
  clear hz hob
  go_wp2
  go_ret2
  exact ⟨rfl, ⟨A1, c1, HZ.out⟩, HO.out⟩
theorem shift_x (h : CB W g vv pv op out er st act n tx ra (.slice PA pn pc) fl nm (.slice (some ⟨b, off, none⟩) 1 gc)) (hs : W.cell? ⟨b, off, none⟩ = some (.string ⟨#[120]⟩)) (hp : SV W (.slice PA pn pc) ps) (hpl : ps.length ≤ 1000) (hn : nm.length ≤ 1000) :
    Calls Tryz.prog 33 #[.pointer (some ⟨g, 0, none⟩)] W fun e w' => e = .returned (.tuple #[]) ∧ (∃ A1 c1, CB w' g (.slice none 0 0) (.slice A1 pn c1) 0 [] (nm ++ [58, 32] ++ [120, 58, 32, 98, 97, 100, 32, 110, 117, 109, 98, 101, 114] ++ [10]) 2 0 0 [] (.slice none 0 0) (.slice PA pn pc) fl nm (.slice (some ⟨b, off, none⟩) 1 gc)) ∧ OneBox g W w' := by
  have HC := Lib.hid (count_x h hs hp hpl hn 1)
  have hg := h.lt
  clear h hs hp
  go_enter Tryz.func33, Tryz.ntmps33
  go_wp2_with fail
  refine HC.out.mono ?_
  rintro e Y ⟨rfl, hy, ho⟩
  have HY := Lib.hid hy
  have HO := Lib.hid ho
  clear hy ho
  go_wp2
  first | go_end0 | refine bodyPost_ret (results_none rfl _ _ _) rfl ?_
  exact ⟨rfl, HY.out, HO.out⟩
theorem shift_two {q o c1 : Nat} {bp : Value} (h : CB W g vv (.slice (some ⟨q, o, none⟩) 3 c1) op out er st act n tx ra bp fl nm (.slice (some ⟨b, off, none⟩) 1 gc)) (hs : W.cell? ⟨b, off, none⟩ = some (.string ⟨#[50]⟩)) (hc3 : 3 ≤ c1) :
    Calls Tryz.prog 33 #[.pointer (some ⟨g, 0, none⟩)] W fun e w' => e = .returned (.tuple #[]) ∧ CB w' g vv (.slice (some ⟨q, o + 2, none⟩) 1 (c1 - 2)) op out er st act n tx ra bp fl nm (.slice (some ⟨b, off, none⟩) 1 gc) ∧ OneBox g W w' := by
  have HC := Lib.hid (count_ok h [50] hs (by decide) 2 (by rfl) 1)
  have hg := h.lt
  have H := Lib.hid h
  clear h hs
  go_enter Tryz.func33, Tryz.ntmps33
  go_wp2_with fail
  refine HC.out.mono ?_
  rintro e Y ⟨rfl, hy⟩
  have hcy := H.out.below hy
  have e2 : Y.cell? ⟨g, 2, none⟩ = some (.slice (some ⟨q, o, none⟩) 3 c1) := Lib.cell_of_heap hcy 2
  have f2 : Y.frozen? ⟨g, 2, none⟩ = false := Lib.frozen_of_heap hcy 2
  have hgy := hcy.lt
  have HCS := Lib.hid (hcy.set_pv (.slice (some ⟨q, o + 2, none⟩) 1 (c1 - 2)))
  have HO := Lib.hid ((OneBox.of hg hy).trans ((OneBox.refl g Y).set 2 (.slice (some ⟨q, o + 2, none⟩) 1 (c1 - 2))))
  have q1 : ¬ c1 = 2 := by omega
  have q2 : 2 ≤ c1 := by omega
  clear hy hcy
  go_wp2
  first | go_end0 | refine bodyPost_ret (results_none rfl _ _ _) rfl ?_
  exact ⟨rfl, HCS.out, HO.out⟩
end
end W
end Go.Proofs.YtcbebkeakkahgaaGreatDoor
