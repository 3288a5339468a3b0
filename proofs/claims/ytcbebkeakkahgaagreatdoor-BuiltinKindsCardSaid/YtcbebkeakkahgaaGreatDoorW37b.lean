/- Built-in commands: the command's box; message, fail, out; printed by gen37b.py. -/
import Derived.Test.YtcbebkeakkahgaaGreatDoorW37a
import Derived.StillTailTactics
namespace Go.Proofs.YtcbebkeakkahgaaGreatDoor
open Go.RowKit K
namespace W
set_option maxRecDepth 100000
theorem str_addE (a b c : List UInt8) (h : a ++ b = c) (ha : a.length ≤ 8000000) (hb : b.length ≤ 8000000) : ∀ U, (Op.stringOp .add ⟨a.toArray⟩ ⟨b.toArray⟩).run Tryz.prog U = .ok (.string ⟨c.toArray⟩) U := fun U => by
  rw [← h]
  exact run_string_add_lists U a b (by omega) (by omega)
/-- The box of a command: what it gives, its environment before, the files, its name, its operands. -/
def CB (W : World) (g : Nat) (vv pv : Value) (op : Int) (out er : List UInt8) (st act n : Int) (tx : List UInt8) (ra bp fl : Value) (nm : List UInt8) (ag : Value) : Prop :=
  W.heap[g]? = some (.cells #[.string ⟨#[]⟩, vv, pv, .slice none 0 0, .slice none 0 0, .slice none 0 0, .int .i64 op, .int .i64 0, .int .i64 0, .int .i64 0, .string ⟨#[47]⟩, .int .i64 1, .int .i64 0, .int .i64 0, .bool false, .string ⟨out.toArray⟩, .string ⟨er.toArray⟩, .int .i64 st, .int .i64 act, .int .i64 n, .string ⟨tx.toArray⟩, ra, .string ⟨#[]⟩, .slice none 0 0, bp, .slice none 0 0, .slice none 0 0, .slice none 0 0, .int .i64 0, .int .i64 0, .int .i64 0, .int .i64 0, .string ⟨#[47]⟩, .int .i64 1, .int .i64 0, .int .i64 0, .bool false, fl, .string ⟨nm.toArray⟩, ag] 45 (0, 0))
section
variable {W : World} {g : Nat} {vv pv : Value} {op : Int} {out er : List UInt8} {st act n : Int} {tx : List UInt8} {ra bp fl : Value} {nm : List UInt8} {ag : Value}
theorem CB.lt (h : CB W g vv pv op out er st act n tx ra bp fl nm ag) : g < W.heap.size := (Array.getElem?_eq_some_iff.1 h).1
theorem CB.kept {W' : World} (h : CB W g vv pv op out er st act n tx ra bp fl nm ag) (hk : W'.heap[g]? = W.heap[g]?) : CB W' g vv pv op out er st act n tx ra bp fl nm ag := hk.trans h
theorem CB.below {W' : World} (h : CB W g vv pv op out er st act n tx ra bp fl nm ag) (hb : Below W.heap.size W W') : CB W' g vv pv op out er st act n tx ra bp fl nm ag := (hb.block g h.lt).trans h
theorem CB.set_vv (h : CB W g vv pv op out er st act n tx ra bp fl nm ag) (u : Value) : CB (W.setCell ⟨g, 1, none⟩ (u)) g u pv op out er st act n tx ra bp fl nm ag := heap_setCell_same _ _ 1 _ _ _ h
theorem CB.set_pv (h : CB W g vv pv op out er st act n tx ra bp fl nm ag) (u : Value) : CB (W.setCell ⟨g, 2, none⟩ (u)) g vv u op out er st act n tx ra bp fl nm ag := heap_setCell_same _ _ 2 _ _ _ h
theorem CB.set_op (h : CB W g vv pv op out er st act n tx ra bp fl nm ag) (u : Int) : CB (W.setCell ⟨g, 6, none⟩ (.int .i64 u)) g vv pv u out er st act n tx ra bp fl nm ag := heap_setCell_same _ _ 6 _ _ _ h
theorem CB.set_out (h : CB W g vv pv op out er st act n tx ra bp fl nm ag) (u : List UInt8) : CB (W.setCell ⟨g, 15, none⟩ (.string ⟨u.toArray⟩)) g vv pv op u er st act n tx ra bp fl nm ag := heap_setCell_same _ _ 15 _ _ _ h
theorem CB.set_er (h : CB W g vv pv op out er st act n tx ra bp fl nm ag) (u : List UInt8) : CB (W.setCell ⟨g, 16, none⟩ (.string ⟨u.toArray⟩)) g vv pv op out u st act n tx ra bp fl nm ag := heap_setCell_same _ _ 16 _ _ _ h
theorem CB.set_st (h : CB W g vv pv op out er st act n tx ra bp fl nm ag) (u : Int) : CB (W.setCell ⟨g, 17, none⟩ (.int .i64 u)) g vv pv op out er u act n tx ra bp fl nm ag := heap_setCell_same _ _ 17 _ _ _ h
theorem CB.set_act (h : CB W g vv pv op out er st act n tx ra bp fl nm ag) (u : Int) : CB (W.setCell ⟨g, 18, none⟩ (.int .i64 u)) g vv pv op out er st u n tx ra bp fl nm ag := heap_setCell_same _ _ 18 _ _ _ h
theorem CB.set_n (h : CB W g vv pv op out er st act n tx ra bp fl nm ag) (u : Int) : CB (W.setCell ⟨g, 19, none⟩ (.int .i64 u)) g vv pv op out er st act u tx ra bp fl nm ag := heap_setCell_same _ _ 19 _ _ _ h
theorem CB.set_tx (h : CB W g vv pv op out er st act n tx ra bp fl nm ag) (u : List UInt8) : CB (W.setCell ⟨g, 20, none⟩ (.string ⟨u.toArray⟩)) g vv pv op out er st act n u ra bp fl nm ag := heap_setCell_same _ _ 20 _ _ _ h
theorem CB.set_ra (h : CB W g vv pv op out er st act n tx ra bp fl nm ag) (u : Value) : CB (W.setCell ⟨g, 21, none⟩ (u)) g vv pv op out er st act n tx u bp fl nm ag := heap_setCell_same _ _ 21 _ _ _ h
theorem CB.set_ag (h : CB W g vv pv op out er st act n tx ra bp fl nm ag) (u : Value) : CB (W.setCell ⟨g, 39, none⟩ (u)) g vv pv op out er st act n tx ra bp fl nm u := heap_setCell_same _ _ 39 _ _ _ h
set_option maxHeartbeats 4000000 in
theorem message_any (h : CB W g vv pv op out er st act n tx ra bp fl nm ag) (m : List UInt8) (he : er.length ≤ 1000000) (hn : nm.length ≤ 100000) (hm : m.length ≤ 100000) :
    Calls Tryz.prog 78 #[.pointer (some ⟨g, 0, none⟩), .string ⟨m.toArray⟩] W fun e w' => e = .returned (.tuple #[]) ∧ CB w' g vv pv op out (er ++ (nm ++ [58, 32] ++ m ++ [10])) st act n tx ra bp fl nm ag ∧ OneBox g W w' := by
  have e16 : W.cell? ⟨g, 16, none⟩ = some (.string ⟨er.toArray⟩) := Lib.cell_of_heap h 16
  have e38 : W.cell? ⟨g, 38, none⟩ = some (.string ⟨nm.toArray⟩) := Lib.cell_of_heap h 38
  have f16 : W.frozen? ⟨g, 16, none⟩ = false := Lib.frozen_of_heap h 16
  have hl := h.lt
  obtain ⟨s1, h1⟩ : ∃ s1, nm ++ [58, 32] = s1 := ⟨_, rfl⟩
  obtain ⟨s2, h2⟩ : ∃ s2, s1 ++ m = s2 := ⟨_, rfl⟩
  obtain ⟨s3, h3⟩ : ∃ s3, s2 ++ [10] = s3 := ⟨_, rfl⟩
  obtain ⟨s4, h4⟩ : ∃ s4, er ++ s3 = s4 := ⟨_, rfl⟩
  have a1 := str_addE nm [58, 32] s1 h1 (by omega) (by simp)
  have a2 := str_addE s1 m s2 h2 (by rw [← h1]; simp; omega) (by omega)
  have a3 := str_addE s2 [10] s3 h3 (by rw [← h2, ← h1]; simp; omega) (by simp)
  have a4 := str_addE er s3 s4 h4 (by omega) (by rw [← h3, ← h2, ← h1]; simp; omega)
  rw [show er ++ (nm ++ [58, 32] ++ m ++ [10]) = s4 by rw [h1, h2, h3, h4]]
  obtain ⟨Z, hZ⟩ : ∃ Z, Z = (W.setCell ⟨g, 16, none⟩ (.string ⟨s4.toArray⟩)).drew := ⟨_, rfl⟩
  have HZ := Lib.hid hZ
  have HCB := Lib.hid (show CB Z g vv pv op out s4 st act n tx ra bp fl nm ag from by rw [hZ]; exact h.set_er _)
  have HOB := Lib.hid (show OneBox g W Z from by rw [hZ]; exact ((OneBox.refl g W).set 16 _).trans (OneBox.of (by simpa using hl) (Below.refl _ _).drew))
  clear h1 h2 h3 h4
  clear hZ h
  go_enter Tryz.func78, Tryz.ntmps78
  go_wp2_with fail
  go_still_tail 17, (by kernel_rfl)
  change wpList _ _ _ _ _ W.drew
  go_wp2
  rw [← HZ.out]
  first | go_end0 | refine bodyPost_ret (results_none rfl _ _ _) rfl ?_
  exact ⟨rfl, HCB.out, HOB.out⟩
set_option maxHeartbeats 4000000 in
theorem fail_any (h : CB W g vv pv op out er st act n tx ra bp fl nm ag) (m : List UInt8) (he : er.length ≤ 1000000) (hn : nm.length ≤ 100000) (hm : m.length ≤ 100000) :
    Calls Tryz.prog 60 #[.pointer (some ⟨g, 0, none⟩), .string ⟨m.toArray⟩] W fun e w' => e = .returned (.tuple #[]) ∧ CB w' g vv pv op out (er ++ (nm ++ [58, 32] ++ m ++ [10])) 1 act n tx ra bp fl nm ag ∧ OneBox g W w' := by
  have HM := Lib.hid (message_any h m he hn hm)
  clear h
  go_enter Tryz.func60, Tryz.ntmps60
  go_wp2_with fail
  refine HM.out.mono ?_
  rintro e Y ⟨rfl, hc, hb⟩
  have HC := Lib.hid (hc.set_st 1)
  have HB := Lib.hid (hb.trans ((OneBox.refl g Y).set 17 (.int .i64 1)))
  have e17 : Y.cell? ⟨g, 17, none⟩ = some (.int .i64 st) := Lib.cell_of_heap hc 17
  have f17 : Y.frozen? ⟨g, 17, none⟩ = false := Lib.frozen_of_heap hc 17
  have hl := hc.lt
  clear hc hb
  go_wp2
  first | go_end0 | refine bodyPost_ret (results_none rfl _ _ _) rfl ?_
  exact ⟨rfl, HC.out, HB.out⟩
set_option maxHeartbeats 4000000 in
theorem out_any (h : CB W g vv pv op out er st act n tx ra bp fl nm ag) (m : List UInt8) (ho : out.length ≤ 1000000) (hm : m.length ≤ 1000000) :
    Calls Tryz.prog 62 #[.pointer (some ⟨g, 0, none⟩), .string ⟨m.toArray⟩] W fun e w' => e = .returned (.tuple #[]) ∧ CB w' g vv pv op (out ++ (m ++ [10])) er st act n tx ra bp fl nm ag ∧ OneBox g W w' := by
  have e15 : W.cell? ⟨g, 15, none⟩ = some (.string ⟨out.toArray⟩) := Lib.cell_of_heap h 15
  have f15 : W.frozen? ⟨g, 15, none⟩ = false := Lib.frozen_of_heap h 15
  have hl := h.lt
  have a1 := str_addE m [10] (m ++ [10]) rfl (by omega) (by simp)
  have a2 := str_addE out (m ++ [10]) (out ++ (m ++ [10])) rfl (by omega) (by simp; omega)
  have HC := Lib.hid (h.set_out (out ++ (m ++ [10])))
  have HB := Lib.hid ((OneBox.refl g W).set 15 (.string ⟨(out ++ (m ++ [10])).toArray⟩))
  clear h
  go_enter Tryz.func62, Tryz.ntmps62
  go_wp2
  first | go_end0 | refine bodyPost_ret (results_none rfl _ _ _) rfl ?_
  exact ⟨rfl, HC.out, HB.out⟩
theorem most_ok (GA : Option Addr) (gn gc : Nat) (h : CB W g vv pv op out er st act n tx ra bp fl nm (.slice GA gn gc)) (k : Int) (hk : (gn : Int) ≤ k) : Calls Tryz.prog 58 #[.pointer (some ⟨g, 0, none⟩), .int .i64 k] W fun e w' => e = .returned (.bool true) ∧ w' = W := by
  have e39 : W.cell? ⟨g, 39, none⟩ = some (.slice GA gn gc) := Lib.cell_of_heap h 39
  have hl := h.lt
  have h1 : ((gn : Int) > k) = False := eq_false (by omega)
  have h2 : (k < (gn : Int)) = False := eq_false (by omega)
  clear h
  go_enter Tryz.func58, Tryz.ntmps58
  go_wp2
  go_ret
  exact ⟨rfl, rfl⟩
end
end W
end Go.Proofs.YtcbebkeakkahgaaGreatDoor
