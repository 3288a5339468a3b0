/- Built-in commands: Run at a name alone, and without a name. -/
import Derived.Test.YtcbebkeakkahgaaGreatDoorW37u
import Derived.Test.YtcbebkeakkahgaaGreatDoorW37k
namespace Go.Proofs.YtcbebkeakkahgaaGreatDoor
open Go.RowKit K
namespace W
set_option maxRecDepth 100000
attribute [-go_sem] storeVar
theorem copyAt_nil : CopyAt none 0 0 [] := fun op w _ _ =>
  (Copy_nil op w).mono fun _ _ ⟨he, hb⟩ => ⟨none, 0, he, RV.nil _, hb⟩
section
variable {FA : Option Addr} {fn fc : Nat} {b off c : Nat} {nm : List UInt8} {w : World}
theorem Run_known (hb : b < w.heap.size) (hc : w.cell? ⟨b, off, none⟩ = some (.string ⟨nm.toArray⟩)) (hk : BK.knB nm = true) :
    Calls Tryz.prog 5 #[.agg #[.string ⟨#[]⟩, .slice none 0 0, .slice none 0 0, .slice none 0 0, .slice none 0 0, .slice none 0 0, .int .i64 0, .int .i64 0, .int .i64 0, .int .i64 0, .string ⟨#[47]⟩, .int .i64 1, .int .i64 0, .int .i64 0, .bool false], .slice FA fn fc, .slice (some ⟨b, off, none⟩) 1 (c + 1)] w fun e w' => (∃ R : Array Value, e = .returned (.tuple #[.agg R, .bool true]) ∧ R.size = 22 ∧ R.all (·.oneCell') = true) ∧ Below w.heap.size w w' :=
  (Run_any (PA := none) (pn := 0) (pc := 0) (ps := []) (n := 0) (fun A c => A = none ∧ c = 0)
    (fun V _ => (Copy_nil 0 V).mono fun _ _ ⟨he, hb⟩ => ⟨none, 0, he, ⟨RV.nil _, rfl, rfl⟩, hb⟩)
    (Nat.zero_le _) hb hc hk (fun _ cs => cs.size = 40 ∧ cs.all (·.oneCell') = true) (fun W1 g A1 c1 GA gc hcb _ _ _ hsv _ => by
      obtain ⟨-, rfl, rfl⟩ := hsv
      exact (run_known copyAt_nil hk hcb).mono fun _ _ ⟨he, ⟨cs, h1, h2, h3⟩, ho⟩ => ⟨he, ⟨cs, h1, h2, h3, h2, h3⟩, ho⟩)).mono fun _ _ ⟨cs, _, he, hq, hbl, _⟩ => ⟨⟨_, he, by have := hq.1; simp; omega, by
      simp only [List.all_toArray, List.all_eq_true]
      intro x hx
      exact (Array.all_eq_true_iff_forall_mem.1 hq.2) x (by have := List.mem_of_mem_take hx; simpa using this)⟩, hbl⟩
set_option maxHeartbeats 16000000 in
theorem Run_none {PA : Option Addr} {pn pc : Nat} :
    Calls Tryz.prog 5 #[.agg #[.string ⟨#[]⟩, .slice none 0 0, .slice PA pn pc, .slice none 0 0, .slice none 0 0, .slice none 0 0, .int .i64 0, .int .i64 0, .int .i64 0, .int .i64 0, .string ⟨#[47]⟩, .int .i64 1, .int .i64 0, .int .i64 0, .bool false], .slice FA fn fc, .slice none 0 0] w fun e w' => e = .returned (.tuple #[.agg #[.string ⟨#[]⟩, .slice none 0 0, .slice none 0 0, .slice none 0 0, .slice none 0 0, .slice none 0 0, .int .i64 0, .int .i64 0, .int .i64 0, .int .i64 0, .string ⟨#[]⟩, .int .i64 0, .int .i64 0, .int .i64 0, .bool false, .string ⟨#[]⟩, .string ⟨#[]⟩, .int .i64 0, .int .i64 0, .int .i64 0, .string ⟨#[]⟩, .slice none 0 0], .bool false]) ∧ Below w.heap.size w w' := by
  obtain ⟨X, hX⟩ : ∃ X, X = (w.alloc (.cells #[.string ⟨#[]⟩, .slice none 0 0, .slice PA pn pc, .slice none 0 0, .slice none 0 0, .slice none 0 0, .int .i64 0, .int .i64 0, .int .i64 0, .int .i64 0, .string ⟨#[47]⟩, .int .i64 1, .int .i64 0, .int .i64 0, .bool false] 31)).alloc (.cells #[.string ⟨#[]⟩, .slice none 0 0, .slice none 0 0, .slice none 0 0, .slice none 0 0, .slice none 0 0, .int .i64 0, .int .i64 0, .int .i64 0, .int .i64 0, .string ⟨#[]⟩, .int .i64 0, .int .i64 0, .int .i64 0, .bool false, .string ⟨#[]⟩, .string ⟨#[]⟩, .int .i64 0, .int .i64 0, .int .i64 0, .string ⟨#[]⟩, .slice none 0 0] 33) := ⟨_, rfl⟩
  have HX := Lib.hid hX
  have HB := Lib.hid (show Below w.heap.size w X by rw [hX]; exact btr (balloc _ _) (balloc _ _))
  have HX1 := Lib.hid (show X.heap[w.heap.size + 1]? = some (.cells #[.string ⟨#[]⟩, .slice none 0 0, .slice none 0 0, .slice none 0 0, .slice none 0 0, .slice none 0 0, .int .i64 0, .int .i64 0, .int .i64 0, .int .i64 0, .string ⟨#[]⟩, .int .i64 0, .int .i64 0, .int .i64 0, .bool false, .string ⟨#[]⟩, .string ⟨#[]⟩, .int .i64 0, .int .i64 0, .int .i64 0, .string ⟨#[]⟩, .slice none 0 0] 33 (0, 0)) by rw [hX]; exact al_new' _ _ _ (by simp))
  have hiR : (Tryz.prog.info? 33).map (·.size) = some 22 := by kernel_rfl
  have hR1 : (#[.string ⟨#[]⟩, .slice none 0 0, .slice none 0 0, .slice none 0 0, .slice none 0 0, .slice none 0 0, .int .i64 0, .int .i64 0, .int .i64 0, .int .i64 0, .string ⟨#[]⟩, .int .i64 0, .int .i64 0, .int .i64 0, .bool false, .string ⟨#[]⟩, .string ⟨#[]⟩, .int .i64 0, .int .i64 0, .int .i64 0, .string ⟨#[]⟩, .slice none 0 0] : Array Value).all (·.oneCell') = true := by simp [Value.oneCell']
  have HR1 := Lib.hid hR1
  have HRS := Lib.hid hiR
  obtain ⟨Z2, hZ2⟩ : ∃ Z2, Z2 = X.setRow (w.heap.size + 1) #[.string ⟨#[]⟩, .slice none 0 0, .slice none 0 0, .slice none 0 0, .slice none 0 0, .slice none 0 0, .int .i64 0, .int .i64 0, .int .i64 0, .int .i64 0, .string ⟨#[]⟩, .int .i64 0, .int .i64 0, .int .i64 0, .bool false, .string ⟨#[]⟩, .string ⟨#[]⟩, .int .i64 0, .int .i64 0, .int .i64 0, .string ⟨#[]⟩, .slice none 0 0] := ⟨_, rfl⟩
  have HZ2 := Lib.hid hZ2
  have hz2 : Z2.heap[w.heap.size + 1]? = some (.cells #[.string ⟨#[]⟩, .slice none 0 0, .slice none 0 0, .slice none 0 0, .slice none 0 0, .slice none 0 0, .int .i64 0, .int .i64 0, .int .i64 0, .int .i64 0, .string ⟨#[]⟩, .int .i64 0, .int .i64 0, .int .i64 0, .bool false, .string ⟨#[]⟩, .string ⟨#[]⟩, .int .i64 0, .int .i64 0, .int .i64 0, .string ⟨#[]⟩, .slice none 0 0] 33 (0, 0)) := by rw [hZ2]; exact setRow_heap X _ _ _ _ _ HX1.out
  have HL2 := Lib.hid (show (loadVar 33 ⟨w.heap.size + 1, 0, none⟩).run Tryz.prog Z2 =   .ok (.agg #[.string ⟨#[]⟩, .slice none 0 0, .slice none 0 0, .slice none 0 0, .slice none 0 0, .slice none 0 0, .int .i64 0, .int .i64 0, .int .i64 0, .int .i64 0, .string ⟨#[]⟩, .int .i64 0, .int .i64 0, .int .i64 0, .bool false, .string ⟨#[]⟩, .string ⟨#[]⟩, .int .i64 0, .int .i64 0, .int .i64 0, .string ⟨#[]⟩, .slice none 0 0]) Z2 from run_loadVar_row Z2 (w.heap.size + 1) _ 33 _ (0, 0) _ hz2 Tryz.underlying33 rfl hiR)
  have HP := Lib.hid (show Below w.heap.size w Z2 by rw [hZ2]; exact rowB HB.out (by omega) _)
  clear hX hR1 hZ2 hz2 hiR
  go_enter Tryz.func5, Tryz.ntmps5
  go_upto_region 1 with (fail)
  rw [← HX.out]
  go_upto_region 2 with (fail)
  go_wp2_with (refine wpList_store_row rfl 33 _ _ rfl (w.heap.size + 1) #[.string ⟨#[]⟩, .slice none 0 0, .slice none 0 0, .slice none 0 0, .slice none 0 0, .slice none 0 0, .int .i64 0, .int .i64 0, .int .i64 0, .int .i64 0, .string ⟨#[]⟩, .int .i64 0, .int .i64 0, .int .i64 0, .bool false, .string ⟨#[]⟩, .string ⟨#[]⟩, .int .i64 0, .int .i64 0, .int .i64 0, .string ⟨#[]⟩, .slice none 0 0] rfl rfl _ _ HX1.out HRS.out rfl HR1.out ?_)
  rw [← HZ2.out]
  refine bodyPost_ret (results_cell2 Tryz.results5 _ _ _ _ _ rfl HL2.out) rfl ?_
  exact ⟨rfl, HP.out⟩
end
end W
end Go.Proofs.YtcbebkeakkahgaaGreatDoor
