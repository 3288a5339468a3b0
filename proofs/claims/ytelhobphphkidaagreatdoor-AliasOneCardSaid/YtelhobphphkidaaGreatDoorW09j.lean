/- Chapter 9: slices.Insert at aliases, in place. -/
import Derived.Test.YtelhobphphkidaaGreatDoorW09c
import Derived.Test.YtelhobphphkidaaGreatDoorN09
import Derived.Lib.Overlaps
import Derived.Laws.Externs
import Derived.Deep.RegionLaw
import Derived.Deep.AppendLies
namespace Go.Proofs.YtelhobphphkidaaGreatDoor
open Go.RowKit K
namespace W
theorem infoAl : (Tryz.prog.info? 47).map (fun i => (i.zero, i.size, i.bytes)) = some (some (.agg #[.string ⟨#[]⟩, .string ⟨#[]⟩]), 2, 32) := by kernel_rfl
/-- A list of pairs of the call's own comes back. -/
def TPost (w : World) (ts : List Tr) (e : Ending) (w' : World) : Prop := ∃ v, e = .returned v ∧ w'.ownsRow w.heap.size 47 2 v ts.length (tcells ts) ∧ Below w.heap.size w w'

theorem sizeAl : ∀ w, (Go.sizeOf 47).run Tryz.prog w = .ok 2 w := fun _ => by kernel_rfl

set_option maxHeartbeats 4000000 in
set_option maxRecDepth 100000 in
theorem Insert_room (g n cap i vb : Nat) (cur : Array Value) (ts : List Tr) (z : List UInt8) (s : List UInt8) (w : World) (hi : i < n) (hroom : n + 1 ≤ cap) (hcap : cap ≤ 9223372036854775807)
    (hg : w.heap[g]? = some (.cells cur 47 (0, 0))) (hcs : cur.size = cap * 2) (htk : cur.toList.take (n * 2) = tcells ts) (hn : ts.length = n)
    (hv : w.heap[vb]? = some (.cells #[.string ⟨z.toArray⟩, .string ⟨s.toArray⟩] 47 (0, 0))) (hne : vb ≠ g) :
    Calls Tryz.prog 29 #[.slice (some ⟨g, 0, none⟩) n cap, .int .i64 i, .slice (some ⟨vb, 0, none⟩) 1 1] w fun e w' =>
      e = .returned (.slice (some ⟨g, 0, none⟩) (n + 1) cap) ∧ Below g w w' ∧ ∃ row : Array Value, row.size = cap * 2 ∧ row.toList.take ((n + 1) * 2) = tcells (putAt ts i (z, s)) ∧ w'.heap[g]? = some (.cells row 47 (0, 0)) := by
  have hinfo : (Tryz.prog.info? 47).map (·.size) = some 2 := by kernel_rfl
  have hxl : (tcells ts).length = n * 2 := by rw [tcells_length, hn]
  have hcl : cur.toList.length = cap * 2 := by simpa using hcs
  have hgl : g < w.heap.size := (Array.getElem?_eq_some_iff.1 hg).1
  have hov : ∀ lb cb, (callFunc 44 #[.slice (some ⟨vb, 0, none⟩) 1 1, .slice (some ⟨g, (i + 1) * 2, none⟩) lb cb]).run Tryz.prog w = .ok (.value (.bool false)) w := fun lb cb => by
    rw [run_callFunc_extern Tryz.func44 (by kernel_rfl) (by kernel_rfl) (by kernel_rfl) (e := Extern.SlicesOverlaps.overlaps #[22, 22] #[4]) (by kernel_rfl),
      Lib.run_overlaps_apart w 22 4 47 Tryz.underlying22 2 sizeAl ⟨vb, 0, none⟩ ⟨g, (i + 1) * 2, none⟩ 1 1 lb cb hne 47 47 2 (cap * 2) (by simp [World.shape?, hv]) (by simp [World.shape?, hg, hcs]) (by omega) (by simp [World.frozen?, hv]) (by simp [World.frozen?, hv])]
    rfl
  have hsp := splice2 cur.toList (tcells ts) [.string ⟨z.toArray⟩, .string ⟨s.toArray⟩] (i * 2) (n * 2) htk hxl (by omega) rfl (by omega)
  simp only at hsp
  obtain ⟨r1, hr1⟩ : ∃ r, r = cur.toList.take (i * 2 + 2) ++ (tcells ts).drop (i * 2) ++ cur.toList.drop (i * 2 + 2 + ((tcells ts).drop (i * 2)).length) := ⟨_, rfl⟩
  rw [← hr1] at hsp
  have hdl : ((tcells ts).drop (i * 2)).length = (n - i) * 2 := by simp [hxl]; omega
  have hr1l : r1.length = cap * 2 := by rw [hr1]; simp; omega
  have hcell : ∀ j v, (tcells ts)[j]? = some v → w.cell? ⟨g, j, none⟩ = some v := fun j v hj => by
    rw [Lib.cell_of_heap hg]
    have hlt : j < n * 2 := by have := (List.getElem?_eq_some_iff.1 hj).1; omega
    rw [← htk, List.getElem?_take, if_pos hlt] at hj
    simpa using hj
  have hcp1 : ∀ ty dc sc, (Builtin.copy_ #[22, 22] ty #[.slice (some ⟨g, (i + 1) * 2, none⟩) (n - i) dc, .slice (some ⟨g, i * 2, none⟩) (n + 1 - i) sc]).run Tryz.prog w.drew =   .ok (goInt ((n - i : Nat) : Int)) (w.drew.setRow g r1.toArray) := fun ty dc sc => by
    have := run_copy_pairs (P := Tryz.prog) w.drew 22 22 ty 47 g ((i + 1) * 2) (n - i) dc ⟨g, i * 2, none⟩ (n + 1 - i) sc cur 47 ((tcells ts).drop (i * 2)) (n - i) (by simp only [Nat.min_def]; split <;> omega) Tryz.underlying22 hinfo hg hdl
      (fun j v hj => by
        rw [List.getElem?_drop] at hj
        rw [show (⟨g, i * 2, none⟩ : Addr).add j = ⟨g, i * 2 + j, none⟩ by unfold Addr.add; split <;> simp_all]
        exact hcell _ v hj) (by omega) (fun v hv => tcells_one ts v (List.mem_of_mem_drop hv))
    rw [this, hr1, show (i + 1) * 2 = i * 2 + 2 by omega]
  obtain ⟨W1, hW1⟩ : ∃ W1, W1 = w.drew.setRow g r1.toArray := ⟨_, rfl⟩
  have hgW : W1.heap[g]? = some (.cells r1.toArray 47 (0, 0)) := by rw [hW1]; exact setRow_heap w.drew g cur _ _ _ hg
  have hvW : W1.heap[vb]? = some (.cells #[.string ⟨z.toArray⟩, .string ⟨s.toArray⟩] 47 (0, 0)) := by rw [hW1]; exact (setRow_other w.drew g vb _ hne).trans hv
  have hbW : Below g w W1 := by rw [hW1]; exact ⟨rfl, rfl, rfl, by simp, fun k hk => setRow_other w.drew g k _ (by omega)⟩
  have hcp2 : ∀ ty dc, (Builtin.copy_ #[22, 22] ty #[.slice (some ⟨g, i * 2, none⟩) (n + 1 - i) dc, .slice (some ⟨vb, 0, none⟩) 1 1]).run Tryz.prog W1 = .ok (goInt 1) (W1.setRow g (r1.take (i * 2) ++ ([.string ⟨z.toArray⟩, .string ⟨s.toArray⟩] : List Value) ++ r1.drop (i * 2 + 2)).toArray) := fun ty dc => by
    have := run_copy_pairs (P := Tryz.prog) W1 22 22 ty 47 g (i * 2) (n + 1 - i) dc ⟨vb, 0, none⟩ 1 1 r1.toArray 47 [.string ⟨z.toArray⟩, .string ⟨s.toArray⟩] 1 (by simp only [Nat.min_def]; split <;> omega) Tryz.underlying22 hinfo hgW rfl
      (World.news_of_block (cs := #[.string ⟨z.toArray⟩, .string ⟨s.toArray⟩]) hvW) (by simp; omega) (pair_one _ _)
    simpa using this
  rw [← hW1] at hcp1
  have HSP := Lib.hid hsp
  have HGW := Lib.hid hgW
  have HBW := Lib.hid hbW
  have k1 : ¬ cap = i := by omega
  have k2 : ¬ cap = i + 1 := by omega
  have k3 : ((i : Int) == (n : Int)) = false := by simp; omega
  have k4 : (0 : Int) ≤ (i : Int) + 1 := by omega
  have k5 : (i : Int) + 1 ≤ (n : Int) + 1 := by omega
  have k6 : (i : Int) ≤ (n : Int) + 1 := by omega
  have k7 : IntKind.i64.wrap ((i : Int) + 1) = (i : Int) + 1 := by rw [IntKind.wrap_i64]; omega
  have k8 : ((i : Int) + 1).toNat = i + 1 := by omega
  have HCL := Lib.hid hcl
  clear hsp hgW hbW hvW hW1 hcell hdl hr1l hr1 hxl hcl htk hcs hv hg hinfo
  go_enter Tryz.func29, Tryz.ntmps29
  go_wp2_with (simp only [hov])
  go_region_law (refine step_copy_eq rfl _ _ 22 22 rfl _ _ (by simp [Act.eval, Act.put]) (by simp [Act.eval, Act.put]) (hcp1 _ _ _) ?_)
  go_wp2_with (at_builtin; refine wpList_copy_eq _ rfl _ _ 22 22 rfl _ _ rfl rfl (hcp2 _ _) ?_)
  go_ret
  have hb2 : ∀ row, Below g W1 (W1.setRow g row) := fun row => ⟨rfl, rfl, rfl, by simp, fun k hk => setRow_other W1 g k row (by omega)⟩
  refine ⟨rfl, HBW.out.trans (hb2 _), _, ?_, ?_, setRow_heap W1 g r1.toArray _ _ _ HGW.out⟩
  · rw [← HCL.out, ← HSP.out.1]; simp
  · rw [show (n + 1) * 2 = n * 2 + 2 by omega]
    have e : (r1.take (i * 2) ++ Value.string ⟨z.toArray⟩ :: Value.string ⟨s.toArray⟩ :: r1.drop (i * 2 + 2)).toArray.toList = r1.take (i * 2) ++ [Value.string ⟨z.toArray⟩, Value.string ⟨s.toArray⟩] ++ r1.drop (i * 2 + [Value.string ⟨z.toArray⟩, Value.string ⟨s.toArray⟩].length) := by simp
    rw [e]
    refine HSP.out.2.trans ?_
    unfold putAt
    rw [tcells_append, tcells, tcells_take, tcells_drop]
    simp
end W
end Go.Proofs.YtelhobphphkidaaGreatDoor
