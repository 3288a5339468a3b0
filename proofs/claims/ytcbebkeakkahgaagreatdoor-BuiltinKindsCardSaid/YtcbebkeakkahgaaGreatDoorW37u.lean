/- Built-in commands: Run; printed by gen37u.py. -/
import Derived.Test.YtcbebkeakkahgaaGreatDoorW37t
import Derived.Deep.RegionHeld3
import Derived.Deep.DeepCutAuto
namespace Go.Proofs.YtcbebkeakkahgaaGreatDoor
open Go.RowKit K
namespace W
set_option maxRecDepth 100000
theorem split22 : ∀ l : List Value, l.length = 40 → ∃ r0 r1 r2 r3 r4 r5 r6 r7 r8 r9 r10 r11 r12 r13 r14 r15 r16 r17 r18 r19 r20 r21 rest, l = r0 :: r1 :: r2 :: r3 :: r4 :: r5 :: r6 :: r7 :: r8 :: r9 :: r10 :: r11 :: r12 :: r13 :: r14 :: r15 :: r16 :: r17 :: r18 :: r19 :: r20 :: r21 :: rest
  | r0 :: r1 :: r2 :: r3 :: r4 :: r5 :: r6 :: r7 :: r8 :: r9 :: r10 :: r11 :: r12 :: r13 :: r14 :: r15 :: r16 :: r17 :: r18 :: r19 :: r20 :: r21 :: rest, _ => ⟨r0, r1, r2, r3, r4, r5, r6, r7, r8, r9, r10, r11, r12, r13, r14, r15, r16, r17, r18, r19, r20, r21, rest, rfl⟩
  | [], h => by simp at h
  | [r0], h => by simp at h
  | [r0, r1], h => by simp at h
  | [r0, r1, r2], h => by simp at h
  | [r0, r1, r2, r3], h => by simp at h
  | [r0, r1, r2, r3, r4], h => by simp at h
  | [r0, r1, r2, r3, r4, r5], h => by simp at h
  | [r0, r1, r2, r3, r4, r5, r6], h => by simp at h
  | [r0, r1, r2, r3, r4, r5, r6, r7], h => by simp at h
  | [r0, r1, r2, r3, r4, r5, r6, r7, r8], h => by simp at h
  | [r0, r1, r2, r3, r4, r5, r6, r7, r8, r9], h => by simp at h
  | [r0, r1, r2, r3, r4, r5, r6, r7, r8, r9, r10], h => by simp at h
  | [r0, r1, r2, r3, r4, r5, r6, r7, r8, r9, r10, r11], h => by simp at h
  | [r0, r1, r2, r3, r4, r5, r6, r7, r8, r9, r10, r11, r12], h => by simp at h
  | [r0, r1, r2, r3, r4, r5, r6, r7, r8, r9, r10, r11, r12, r13], h => by simp at h
  | [r0, r1, r2, r3, r4, r5, r6, r7, r8, r9, r10, r11, r12, r13, r14], h => by simp at h
  | [r0, r1, r2, r3, r4, r5, r6, r7, r8, r9, r10, r11, r12, r13, r14, r15], h => by simp at h
  | [r0, r1, r2, r3, r4, r5, r6, r7, r8, r9, r10, r11, r12, r13, r14, r15, r16], h => by simp at h
  | [r0, r1, r2, r3, r4, r5, r6, r7, r8, r9, r10, r11, r12, r13, r14, r15, r16, r17], h => by simp at h
  | [r0, r1, r2, r3, r4, r5, r6, r7, r8, r9, r10, r11, r12, r13, r14, r15, r16, r17, r18], h => by simp at h
  | [r0, r1, r2, r3, r4, r5, r6, r7, r8, r9, r10, r11, r12, r13, r14, r15, r16, r17, r18, r19], h => by simp at h
  | [r0, r1, r2, r3, r4, r5, r6, r7, r8, r9, r10, r11, r12, r13, r14, r15, r16, r17, r18, r19, r20], h => by simp at h
attribute [-go_sem] storeVar
section
variable {PA : Option Addr} {pn pc : Nat} {ps : List (List UInt8)} {FA : Option Addr} {fn fc : Nat} {b off n c : Nat} {nm : List UInt8} {w : World}
set_option maxHeartbeats 16000000 in
theorem Run_unknown (hb : b < w.heap.size) (hc : w.cell? ⟨b, off, none⟩ = some (.string ⟨nm.toArray⟩)) (hk : BK.knB nm = false) :
    Calls Tryz.prog 5 #[.agg #[.string ⟨#[]⟩, .slice none 0 0, .slice PA pn pc, .slice none 0 0, .slice none 0 0, .slice none 0 0, .int .i64 0, .int .i64 0, .int .i64 0, .int .i64 0, .string ⟨#[47]⟩, .int .i64 1, .int .i64 0, .int .i64 0, .bool false], .slice FA fn fc, .slice (some ⟨b, off, none⟩) (n + 1) (c + 1)] w fun e w' => e = .returned (.tuple #[.agg #[.string ⟨#[]⟩, .slice none 0 0, .slice none 0 0, .slice none 0 0, .slice none 0 0, .slice none 0 0, .int .i64 0, .int .i64 0, .int .i64 0, .int .i64 0, .string ⟨#[]⟩, .int .i64 0, .int .i64 0, .int .i64 0, .bool false, .string ⟨#[]⟩, .string ⟨#[]⟩, .int .i64 0, .int .i64 0, .int .i64 0, .string ⟨#[]⟩, .slice none 0 0], .bool false]) ∧ Below w.heap.size w w' := by
  have HKN := Lib.hid (fun V => show Calls Tryz.prog 7 #[.string ⟨nm.toArray⟩] V fun e w' => e = .returned (.bool false) ∧ w' = V from by rw [← hk]; exact Known_any nm V)
  obtain ⟨X, hX⟩ : ∃ X, X = (w.alloc (.cells #[.string ⟨#[]⟩, .slice none 0 0, .slice PA pn pc, .slice none 0 0, .slice none 0 0, .slice none 0 0, .int .i64 0, .int .i64 0, .int .i64 0, .int .i64 0, .string ⟨#[47]⟩, .int .i64 1, .int .i64 0, .int .i64 0, .bool false] 31)).alloc (.cells #[.string ⟨#[]⟩, .slice none 0 0, .slice none 0 0, .slice none 0 0, .slice none 0 0, .slice none 0 0, .int .i64 0, .int .i64 0, .int .i64 0, .int .i64 0, .string ⟨#[]⟩, .int .i64 0, .int .i64 0, .int .i64 0, .bool false, .string ⟨#[]⟩, .string ⟨#[]⟩, .int .i64 0, .int .i64 0, .int .i64 0, .string ⟨#[]⟩, .slice none 0 0] 33) := ⟨_, rfl⟩
  have HX := Lib.hid hX
  have HB := Lib.hid (show Below w.heap.size w X by rw [hX]; exact btr (balloc _ _) (balloc _ _))
  have HX1 := Lib.hid (show X.heap[w.heap.size + 1]? = some (.cells #[.string ⟨#[]⟩, .slice none 0 0, .slice none 0 0, .slice none 0 0, .slice none 0 0, .slice none 0 0, .int .i64 0, .int .i64 0, .int .i64 0, .int .i64 0, .string ⟨#[]⟩, .int .i64 0, .int .i64 0, .int .i64 0, .bool false, .string ⟨#[]⟩, .string ⟨#[]⟩, .int .i64 0, .int .i64 0, .int .i64 0, .string ⟨#[]⟩, .slice none 0 0] 33 (0, 0)) by rw [hX]; exact al_new' _ _ _ (by simp))
  have hcx : X.cell? ⟨b, off, none⟩ = some (.string ⟨nm.toArray⟩) := (HB.out.cell (p := ⟨b, off, none⟩) hb).trans hc
  have hiR : (Tryz.prog.info? 33).map (·.size) = some 22 := by kernel_rfl
  have q1 : ((n : Int) + 1 == 0) = false := by rw [beq_eq_false_iff_ne]; omega
  have q2 : 0 < n + 1 := by omega
  have hR1 : (#[.string ⟨#[]⟩, .slice none 0 0, .slice none 0 0, .slice none 0 0, .slice none 0 0, .slice none 0 0, .int .i64 0, .int .i64 0, .int .i64 0, .int .i64 0, .string ⟨#[]⟩, .int .i64 0, .int .i64 0, .int .i64 0, .bool false, .string ⟨#[]⟩, .string ⟨#[]⟩, .int .i64 0, .int .i64 0, .int .i64 0, .string ⟨#[]⟩, .slice none 0 0] : Array Value).all (·.oneCell') = true := by simp [Value.oneCell']
  have HR1 := Lib.hid hR1
  have HRS := Lib.hid hiR
  obtain ⟨Z2, hZ2⟩ : ∃ Z2, Z2 = X.setRow (w.heap.size + 1) #[.string ⟨#[]⟩, .slice none 0 0, .slice none 0 0, .slice none 0 0, .slice none 0 0, .slice none 0 0, .int .i64 0, .int .i64 0, .int .i64 0, .int .i64 0, .string ⟨#[]⟩, .int .i64 0, .int .i64 0, .int .i64 0, .bool false, .string ⟨#[]⟩, .string ⟨#[]⟩, .int .i64 0, .int .i64 0, .int .i64 0, .string ⟨#[]⟩, .slice none 0 0] := ⟨_, rfl⟩
  have HZ2 := Lib.hid hZ2
  have hz2 : Z2.heap[w.heap.size + 1]? = some (.cells #[.string ⟨#[]⟩, .slice none 0 0, .slice none 0 0, .slice none 0 0, .slice none 0 0, .slice none 0 0, .int .i64 0, .int .i64 0, .int .i64 0, .int .i64 0, .string ⟨#[]⟩, .int .i64 0, .int .i64 0, .int .i64 0, .bool false, .string ⟨#[]⟩, .string ⟨#[]⟩, .int .i64 0, .int .i64 0, .int .i64 0, .string ⟨#[]⟩, .slice none 0 0] 33 (0, 0)) := by rw [hZ2]; exact setRow_heap X _ _ _ _ _ HX1.out
  have HL2 := Lib.hid (show (loadVar 33 ⟨w.heap.size + 1, 0, none⟩).run Tryz.prog Z2 =   .ok (.agg #[.string ⟨#[]⟩, .slice none 0 0, .slice none 0 0, .slice none 0 0, .slice none 0 0, .slice none 0 0, .int .i64 0, .int .i64 0, .int .i64 0, .int .i64 0, .string ⟨#[]⟩, .int .i64 0, .int .i64 0, .int .i64 0, .bool false, .string ⟨#[]⟩, .string ⟨#[]⟩, .int .i64 0, .int .i64 0, .int .i64 0, .string ⟨#[]⟩, .slice none 0 0]) Z2 from run_loadVar_row Z2 (w.heap.size + 1) _ 33 _ (0, 0) _ hz2 Tryz.underlying33 rfl hiR)
  have HP := Lib.hid (show Below w.heap.size w Z2 by rw [hZ2]; exact rowB HB.out (by omega) _)
  clear hX hc hk hR1 hZ2 hz2 hiR
  go_enter Tryz.func5, Tryz.ntmps5
  go_upto_region 1 with (fail)
  rw [← HX.out]
  go_wp2_with fail
  refine (HKN.out _).mono ?_
  rintro e Y ⟨rfl, hY⟩
  obtain rfl : X = Y := hY.symm
  go_upto_region 2 with (fail)
  go_wp2_with (refine wpList_store_row rfl 33 _ _ rfl (w.heap.size + 1) #[.string ⟨#[]⟩, .slice none 0 0, .slice none 0 0, .slice none 0 0, .slice none 0 0, .slice none 0 0, .int .i64 0, .int .i64 0, .int .i64 0, .int .i64 0, .string ⟨#[]⟩, .int .i64 0, .int .i64 0, .int .i64 0, .bool false, .string ⟨#[]⟩, .string ⟨#[]⟩, .int .i64 0, .int .i64 0, .int .i64 0, .string ⟨#[]⟩, .slice none 0 0] rfl rfl _ _ HX1.out HRS.out rfl HR1.out ?_)
  rw [← HZ2.out]
  refine bodyPost_ret (results_cell2 Tryz.results5 _ _ _ _ _ rfl HL2.out) rfl ?_
  exact ⟨rfl, HP.out⟩
set_option maxHeartbeats 16000000 in
theorem Run_any (G : Option Addr → Nat → Prop) (hC : ∀ V, Below w.heap.size w V → Calls Tryz.prog 12 #[.agg #[.string ⟨#[]⟩, .slice none 0 0, .slice PA pn pc, .slice none 0 0, .slice none 0 0, .slice none 0 0, .int .i64 0, .int .i64 0, .int .i64 0, .int .i64 0, .string ⟨#[47]⟩, .int .i64 1, .int .i64 0, .int .i64 0, .bool false]] V fun e w' => ∃ A1 c1, e = .returned (.agg #[.string ⟨#[]⟩, .slice none 0 0, .slice A1 pn c1, .slice none 0 0, .slice none 0 0, .slice none 0 0, .int .i64 0, .int .i64 0, .int .i64 0, .int .i64 0, .string ⟨#[47]⟩, .int .i64 1, .int .i64 0, .int .i64 0, .bool false]) ∧ (SV w' (.slice A1 pn c1) ps ∧ G A1 c1) ∧ Below V.heap.size V w') (hnc : n ≤ c) (hb : b < w.heap.size) (hc : w.cell? ⟨b, off, none⟩ = some (.string ⟨nm.toArray⟩)) (hk : BK.knB nm = true) (Q : World → Array Value → Prop)
    (hrun : ∀ (W1 : World) (g : Nat) (A1 : Option Addr) (c1 : Nat) (GA : Option Addr) (gc : Nat), CB W1 g (.slice none 0 0) (.slice A1 pn c1) 0 [] [] 0 0 0 [] (.slice none 0 0) (.slice PA pn pc) (.slice FA fn fc) nm (.slice GA n gc) → n ≤ gc → (0 < n → GA = some ⟨b, off + 1, none⟩) → w.heap.size + 2 ≤ g → SV W1 (.slice A1 pn c1) ps ∧ G A1 c1 → Below w.heap.size w W1 →
      Calls Tryz.prog 13 #[.pointer (some ⟨g, 0, none⟩)] W1 fun e w' => e = .returned (.tuple #[]) ∧ (∃ cs : Array Value, w'.heap[g]? = some (.cells cs 45 (0, 0)) ∧ cs.size = 40 ∧ cs.all (·.oneCell') = true ∧ Q w' cs) ∧ OneBox g W1 w') :
    Calls Tryz.prog 5 #[.agg #[.string ⟨#[]⟩, .slice none 0 0, .slice PA pn pc, .slice none 0 0, .slice none 0 0, .slice none 0 0, .int .i64 0, .int .i64 0, .int .i64 0, .int .i64 0, .string ⟨#[47]⟩, .int .i64 1, .int .i64 0, .int .i64 0, .bool false], .slice FA fn fc, .slice (some ⟨b, off, none⟩) (n + 1) (c + 1)] w fun e w' => ∃ (cs : Array Value) (w1 : World), e = .returned (.tuple #[.agg (cs.toList.take 22).toArray, .bool true]) ∧ Q w1 cs ∧ Below w.heap.size w w' ∧ ∀ k, k ≠ w.heap.size + 1 → w'.heap[k]? = w1.heap[k]? := by
  have HKN := Lib.hid (fun V => show Calls Tryz.prog 7 #[.string ⟨nm.toArray⟩] V fun e w' => e = .returned (.bool true) ∧ w' = V from by rw [← hk]; exact Known_any nm V)
  obtain ⟨X, hX⟩ : ∃ X, X = (w.alloc (.cells #[.string ⟨#[]⟩, .slice none 0 0, .slice PA pn pc, .slice none 0 0, .slice none 0 0, .slice none 0 0, .int .i64 0, .int .i64 0, .int .i64 0, .int .i64 0, .string ⟨#[47]⟩, .int .i64 1, .int .i64 0, .int .i64 0, .bool false] 31)).alloc (.cells #[.string ⟨#[]⟩, .slice none 0 0, .slice none 0 0, .slice none 0 0, .slice none 0 0, .slice none 0 0, .int .i64 0, .int .i64 0, .int .i64 0, .int .i64 0, .string ⟨#[]⟩, .int .i64 0, .int .i64 0, .int .i64 0, .bool false, .string ⟨#[]⟩, .string ⟨#[]⟩, .int .i64 0, .int .i64 0, .int .i64 0, .string ⟨#[]⟩, .slice none 0 0] 33) := ⟨_, rfl⟩
  have HX := Lib.hid hX
  have HB := Lib.hid (show Below w.heap.size w X by rw [hX]; exact btr (balloc _ _) (balloc _ _))
  have HX0 := Lib.hid (show X.heap[w.heap.size]? = some (.cells #[.string ⟨#[]⟩, .slice none 0 0, .slice PA pn pc, .slice none 0 0, .slice none 0 0, .slice none 0 0, .int .i64 0, .int .i64 0, .int .i64 0, .int .i64 0, .string ⟨#[47]⟩, .int .i64 1, .int .i64 0, .int .i64 0, .bool false] 31 (0, 0)) by rw [hX, (balloc _ _).block _ (by simp)]; exact al_new w _)
  have HX1 := Lib.hid (show X.heap[w.heap.size + 1]? = some (.cells #[.string ⟨#[]⟩, .slice none 0 0, .slice none 0 0, .slice none 0 0, .slice none 0 0, .slice none 0 0, .int .i64 0, .int .i64 0, .int .i64 0, .int .i64 0, .string ⟨#[]⟩, .int .i64 0, .int .i64 0, .int .i64 0, .bool false, .string ⟨#[]⟩, .string ⟨#[]⟩, .int .i64 0, .int .i64 0, .int .i64 0, .string ⟨#[]⟩, .slice none 0 0] 33 (0, 0)) by rw [hX]; exact al_new' _ _ _ (by simp))
  have hsx : X.heap.size = w.heap.size + 2 := by rw [hX]; simp
  have hcx : X.cell? ⟨b, off, none⟩ = some (.string ⟨nm.toArray⟩) := (HB.out.cell (p := ⟨b, off, none⟩) hb).trans hc
  have HC := Lib.hid (fun V (hV : Below X.heap.size X V) => hC V (HB.out.trans (hV.mono (by omega))))
  have q1 : ((n : Int) + 1 == 0) = false := by rw [beq_eq_false_iff_ne]; omega
  have q2 : 0 < n + 1 := by omega
  have e0 : X.cell? ⟨w.heap.size, 0, none⟩ = some (.string ⟨#[]⟩) := Lib.cell_of_heap HX0.out 0
  have e1 : X.cell? ⟨w.heap.size, 1, none⟩ = some (.slice none 0 0) := Lib.cell_of_heap HX0.out 1
  have e2 : X.cell? ⟨w.heap.size, 2, none⟩ = some (.slice PA pn pc) := Lib.cell_of_heap HX0.out 2
  have e3 : X.cell? ⟨w.heap.size, 3, none⟩ = some (.slice none 0 0) := Lib.cell_of_heap HX0.out 3
  have e4 : X.cell? ⟨w.heap.size, 4, none⟩ = some (.slice none 0 0) := Lib.cell_of_heap HX0.out 4
  have e5 : X.cell? ⟨w.heap.size, 5, none⟩ = some (.slice none 0 0) := Lib.cell_of_heap HX0.out 5
  have e6 : X.cell? ⟨w.heap.size, 6, none⟩ = some (.int .i64 0) := Lib.cell_of_heap HX0.out 6
  have e7 : X.cell? ⟨w.heap.size, 7, none⟩ = some (.int .i64 0) := Lib.cell_of_heap HX0.out 7
  have e8 : X.cell? ⟨w.heap.size, 8, none⟩ = some (.int .i64 0) := Lib.cell_of_heap HX0.out 8
  have e9 : X.cell? ⟨w.heap.size, 9, none⟩ = some (.int .i64 0) := Lib.cell_of_heap HX0.out 9
  have e10 : X.cell? ⟨w.heap.size, 10, none⟩ = some (.string ⟨#[47]⟩) := Lib.cell_of_heap HX0.out 10
  have e11 : X.cell? ⟨w.heap.size, 11, none⟩ = some (.int .i64 1) := Lib.cell_of_heap HX0.out 11
  have e12 : X.cell? ⟨w.heap.size, 12, none⟩ = some (.int .i64 0) := Lib.cell_of_heap HX0.out 12
  have e13 : X.cell? ⟨w.heap.size, 13, none⟩ = some (.int .i64 0) := Lib.cell_of_heap HX0.out 13
  have e14 : X.cell? ⟨w.heap.size, 14, none⟩ = some (.bool false) := Lib.cell_of_heap HX0.out 14
  have HSL := Lib.hid (fun V (hV : Below X.heap.size X V) => show (V.cell? ⟨w.heap.size, 0, none⟩ = some (.string ⟨#[]⟩) ∧ V.cell? ⟨w.heap.size, 1, none⟩ = some (.slice none 0 0) ∧ V.cell? ⟨w.heap.size, 2, none⟩ = some (.slice PA pn pc) ∧ V.cell? ⟨w.heap.size, 3, none⟩ = some (.slice none 0 0) ∧ V.cell? ⟨w.heap.size, 4, none⟩ = some (.slice none 0 0) ∧ V.cell? ⟨w.heap.size, 5, none⟩ = some (.slice none 0 0) ∧ V.cell? ⟨w.heap.size, 6, none⟩ = some (.int .i64 0) ∧ V.cell? ⟨w.heap.size, 7, none⟩ = some (.int .i64 0) ∧ V.cell? ⟨w.heap.size, 8, none⟩ = some (.int .i64 0) ∧ V.cell? ⟨w.heap.size, 9, none⟩ = some (.int .i64 0) ∧ V.cell? ⟨w.heap.size, 10, none⟩ = some (.string ⟨#[47]⟩) ∧ V.cell? ⟨w.heap.size, 11, none⟩ = some (.int .i64 1) ∧ V.cell? ⟨w.heap.size, 12, none⟩ = some (.int .i64 0) ∧ V.cell? ⟨w.heap.size, 13, none⟩ = some (.int .i64 0) ∧ V.cell? ⟨w.heap.size, 14, none⟩ = some (.bool false) ∧ V.cell? ⟨b, off, none⟩ = some (.string ⟨nm.toArray⟩)) ∧ Below X.heap.size X V from by
    have hw0 : w.heap.size < X.heap.size := by omega
    have hb0 : b < X.heap.size := by omega
    exact ⟨⟨(hV.cell (p := ⟨w.heap.size, 0, none⟩) hw0).trans e0, (hV.cell (p := ⟨w.heap.size, 1, none⟩) hw0).trans e1, (hV.cell (p := ⟨w.heap.size, 2, none⟩) hw0).trans e2, (hV.cell (p := ⟨w.heap.size, 3, none⟩) hw0).trans e3, (hV.cell (p := ⟨w.heap.size, 4, none⟩) hw0).trans e4, (hV.cell (p := ⟨w.heap.size, 5, none⟩) hw0).trans e5, (hV.cell (p := ⟨w.heap.size, 6, none⟩) hw0).trans e6, (hV.cell (p := ⟨w.heap.size, 7, none⟩) hw0).trans e7, (hV.cell (p := ⟨w.heap.size, 8, none⟩) hw0).trans e8, (hV.cell (p := ⟨w.heap.size, 9, none⟩) hw0).trans e9, (hV.cell (p := ⟨w.heap.size, 10, none⟩) hw0).trans e10, (hV.cell (p := ⟨w.heap.size, 11, none⟩) hw0).trans e11, (hV.cell (p := ⟨w.heap.size, 12, none⟩) hw0).trans e12, (hV.cell (p := ⟨w.heap.size, 13, none⟩) hw0).trans e13, (hV.cell (p := ⟨w.heap.size, 14, none⟩) hw0).trans e14, (hV.cell (p := ⟨b, off, none⟩) hb0).trans hcx⟩, hV⟩)
  have HRUN := Lib.hid hrun
  clear hX hC hk hc hrun
  go_enter Tryz.func5, Tryz.ntmps5
  go_upto_region 1 with (fail)
  rw [← HX.out]
  go_wp2_with fail
  refine (HKN.out _).mono ?_
  rintro e Y ⟨rfl, hY⟩
  obtain rfl : X = Y := hY.symm
  go_upto_region 3 with (fail)
  have w1 : IntKind.i64.wrap 1 = 1 := by decide
  by_cases hc0 : c = 0
  · subst hc0
    obtain rfl : n = 0 := by omega
    go_cut [8] (fun x wx => ∃ (g : Nat) (A1 : Option Addr) (c1 : Nat) (GA : Option Addr) (gc : Nat), x = .pointer (some ⟨g, 0, none⟩) ∧ Hid (CB wx g (.slice none 0 0) (.slice A1 pn c1) 0 [] [] 0 0 0 [] (.slice none 0 0) (.slice PA pn pc) (.slice FA fn fc) nm (.slice GA 0 gc)) ∧ Hid (0 ≤ gc ∧ (0 < 0 → GA = some ⟨b, off + 1, none⟩)) ∧ Hid (X.heap.size ≤ g ∧ g < wx.heap.size ∧ (SV wx (.slice A1 pn c1) ps ∧ G A1 c1) ∧ Below X.heap.size X wx))
    case first =>
      go_region_held3 (fun w' => (w'.cell? ⟨w.heap.size, 0, none⟩ = some (.string ⟨#[]⟩) ∧ w'.cell? ⟨w.heap.size, 1, none⟩ = some (.slice none 0 0) ∧ w'.cell? ⟨w.heap.size, 2, none⟩ = some (.slice PA pn pc) ∧ w'.cell? ⟨w.heap.size, 3, none⟩ = some (.slice none 0 0) ∧ w'.cell? ⟨w.heap.size, 4, none⟩ = some (.slice none 0 0) ∧ w'.cell? ⟨w.heap.size, 5, none⟩ = some (.slice none 0 0) ∧ w'.cell? ⟨w.heap.size, 6, none⟩ = some (.int .i64 0) ∧ w'.cell? ⟨w.heap.size, 7, none⟩ = some (.int .i64 0) ∧ w'.cell? ⟨w.heap.size, 8, none⟩ = some (.int .i64 0) ∧ w'.cell? ⟨w.heap.size, 9, none⟩ = some (.int .i64 0) ∧ w'.cell? ⟨w.heap.size, 10, none⟩ = some (.string ⟨#[47]⟩) ∧ w'.cell? ⟨w.heap.size, 11, none⟩ = some (.int .i64 1) ∧ w'.cell? ⟨w.heap.size, 12, none⟩ = some (.int .i64 0) ∧ w'.cell? ⟨w.heap.size, 13, none⟩ = some (.int .i64 0) ∧ w'.cell? ⟨w.heap.size, 14, none⟩ = some (.bool false) ∧ w'.cell? ⟨b, off, none⟩ = some (.string ⟨nm.toArray⟩)) ∧ Below X.heap.size X w')
        (first | exact HSL.out _ (Below.refl _ _).drew | (go_split_ands; exact HSL.out _ (btr ‹Below X.heap.size X _› ‹_›)) | (go_split_ands; exact HSL.out _ (btr ‹Below X.heap.size X _› (balloc _ _))) | go_keep)
        ((go_at_call 12; go_split_ands; refine (HC.out _ (by first | exact (Below.refl _ _).drew | assumption)).mono ?_; rintro e Y ⟨A1, c1, rfl, hsv, hby⟩; have HSV := Lib.hid hsv; clear hsv))
      all_goals (repeat go_step)
      all_goals go_meet
      have HSY := ‹Hid (SV _ _ _ ∧ G _ _)›
      go_split_ands
      have hxy : Below X.heap.size X Y := btr (Below.refl _ _).drew hby
      have hbx := fun o => btr hxy (balloc Y o)
      exact ⟨_, A1, c1, some ⟨b, off, none⟩, 0, rfl, Lib.hid (by unfold CB; exact al_new _ _), Lib.hid ⟨Nat.le_refl _, fun h => absurd h (Nat.lt_irrefl 0)⟩, Lib.hid ⟨by have := hxy.size; omega, by simp, ⟨HSY.out.1.below (balloc _ _), HSY.out.2⟩, hbx _⟩⟩
    case rest =>
      obtain ⟨g, A1, c1, GA, gc, rfl, HCB, HGA, HW⟩ := hcut
      obtain ⟨hg1, hg2, hsv, hbx⟩ := HW.out
      have HR := Lib.hid (HRUN.out wc g A1 c1 GA gc HCB.out HGA.out.1 HGA.out.2 (by omega) hsv (btr HB.out hbx))
      have hx1 : wc.heap[w.heap.size + 1]? = some (.cells #[.string ⟨#[]⟩, .slice none 0 0, .slice none 0 0, .slice none 0 0, .slice none 0 0, .slice none 0 0, .int .i64 0, .int .i64 0, .int .i64 0, .int .i64 0, .string ⟨#[]⟩, .int .i64 0, .int .i64 0, .int .i64 0, .bool false, .string ⟨#[]⟩, .string ⟨#[]⟩, .int .i64 0, .int .i64 0, .int .i64 0, .string ⟨#[]⟩, .slice none 0 0] 33 (0, 0)) := (hbx.block _ (by omega)).trans HX1.out
      have HX3 := Lib.hid hx1
      have hszw := hbx.size
      clear hsv hbx hx1 e0 e1 e2 e3 e4 e5 e6 e7 e8 e9 e10 e11 e12 e13 e14 hcx
      go_wp2_with fail
      refine HR.out.mono ?_
      rintro e Z ⟨rfl, ⟨cs, hz, hcs, hall, hq⟩, ho⟩
      obtain ⟨R, hR⟩ : ∃ R, R = (cs.toList.take 22).toArray := ⟨_, rfl⟩
      have hrs : R.size = 22 := by rw [hR]; simp; omega
      have hr1 : R.all (·.oneCell') = true := by
        rw [hR]
        simp only [List.all_toArray, List.all_eq_true]
        intro x hx
        exact (Array.all_eq_true_iff_forall_mem.1 hall) x (by have := List.mem_of_mem_take hx; simpa using this)
      have hiR : (Tryz.prog.info? 33).map (·.size) = some 22 := by kernel_rfl
      have hrl : R.toList.length = 22 := by simpa using hrs
      have hra : Z.rangeAt g 0 R.toList := fun j v hj => by
        rw [Nat.zero_add, Lib.cell_of_heap hz j]
        rw [hR] at hj
        obtain ⟨h1, h2⟩ := List.getElem?_eq_some_iff.1 hj
        simp at h1 h2
        rw [← h2]
        simp
      have hz1 : Z.heap[w.heap.size + 1]? = some (.cells #[.string ⟨#[]⟩, .slice none 0 0, .slice none 0 0, .slice none 0 0, .slice none 0 0, .slice none 0 0, .int .i64 0, .int .i64 0, .int .i64 0, .int .i64 0, .string ⟨#[]⟩, .int .i64 0, .int .i64 0, .int .i64 0, .bool false, .string ⟨#[]⟩, .string ⟨#[]⟩, .int .i64 0, .int .i64 0, .int .i64 0, .string ⟨#[]⟩, .slice none 0 0] 33 (0, 0)) := (ho.2.1 _ (by omega) (by omega)).trans HX3.out
      obtain ⟨Z2, hZ2⟩ : ∃ Z2, Z2 = Z.setRow (w.heap.size + 1) R := ⟨_, rfl⟩
      have HZ2 := Lib.hid hZ2
      have hz2 : Z2.heap[w.heap.size + 1]? = some (.cells R 33 (0, 0)) := by rw [hZ2]; exact setRow_heap Z _ _ _ _ _ hz1
      have hl2 : (loadVar 33 ⟨w.heap.size + 1, 0, none⟩).run Tryz.prog Z2 = .ok (.agg R) Z2 := run_loadVar_row Z2 (w.heap.size + 1) _ 33 R (0, 0) _ hz2 Tryz.underlying33 rfl (by rw [hiR, hrs])
      have HP := Lib.hid (show Below w.heap.size w Z2 ∧ ∀ k, k ≠ w.heap.size + 1 → Z2.heap[k]? = Z.heap[k]? from by
        rw [hZ2]
        exact ⟨rowB ((HB.out.trans (HW.out.2.2.2.mono (by omega))).trans (ho.2.2.mono (by omega))) (by omega) _, fun k hk => setRow_other _ _ _ _ hk⟩)
      have HQ := Lib.hid (show ∃ cs' : Array Value, R = (cs'.toList.take 22).toArray ∧ Q Z cs' from ⟨cs, hR, hq⟩)
      have HRA := Lib.hid hra
      have HR1 := Lib.hid hr1
      have HZ1 := Lib.hid hz1
      have HL2 := Lib.hid hl2
      have HRL := Lib.hid (show (Tryz.prog.info? 33).map (·.size) = some R.toList.length by rw [hrl]; exact hiR)
      have HRS := Lib.hid (show (Tryz.prog.info? 33).map (·.size) = some R.size by rw [hrs]; exact hiR)
      clear hz hcs hall hq ho hR hr1 hz1 hz2 hZ2 hra hl2 hrl hiR
      go_upto_region 5 with (fail)
      go_wp2_with (first | refine wpList_load_mid rfl 33 _ rfl g 0 rfl R.toList _ HRA.out Tryz.underlying33 rfl HRL.out ?_ | refine wpList_store_row rfl 33 _ _ rfl (w.heap.size + 1) R rfl rfl _ _ HZ1.out HRS.out (by rw [hrs]; rfl) HR1.out ?_)
      rw [← HZ2.out]
      obtain ⟨cs', hcs', hq'⟩ := HQ.out
      refine bodyPost_ret (results_cell2 Tryz.results5 _ _ _ _ _ rfl HL2.out) rfl ?_
      exact ⟨cs', Z, by rw [hcs']; rfl, hq', HP.out.1, HP.out.2⟩
  · have k1 : ¬ c + 1 = 1 := by omega
    have k2 : (1 : Int) ≤ (n : Int) + 1 := by omega
    go_cut [8] (fun x wx => ∃ (g : Nat) (A1 : Option Addr) (c1 : Nat) (GA : Option Addr) (gc : Nat), x = .pointer (some ⟨g, 0, none⟩) ∧ Hid (CB wx g (.slice none 0 0) (.slice A1 pn c1) 0 [] [] 0 0 0 [] (.slice none 0 0) (.slice PA pn pc) (.slice FA fn fc) nm (.slice GA n gc)) ∧ Hid (n ≤ gc ∧ (0 < n → GA = some ⟨b, off + 1, none⟩)) ∧ Hid (X.heap.size ≤ g ∧ g < wx.heap.size ∧ (SV wx (.slice A1 pn c1) ps ∧ G A1 c1) ∧ Below X.heap.size X wx))
    case first =>
      go_region_held3 (fun w' => (w'.cell? ⟨w.heap.size, 0, none⟩ = some (.string ⟨#[]⟩) ∧ w'.cell? ⟨w.heap.size, 1, none⟩ = some (.slice none 0 0) ∧ w'.cell? ⟨w.heap.size, 2, none⟩ = some (.slice PA pn pc) ∧ w'.cell? ⟨w.heap.size, 3, none⟩ = some (.slice none 0 0) ∧ w'.cell? ⟨w.heap.size, 4, none⟩ = some (.slice none 0 0) ∧ w'.cell? ⟨w.heap.size, 5, none⟩ = some (.slice none 0 0) ∧ w'.cell? ⟨w.heap.size, 6, none⟩ = some (.int .i64 0) ∧ w'.cell? ⟨w.heap.size, 7, none⟩ = some (.int .i64 0) ∧ w'.cell? ⟨w.heap.size, 8, none⟩ = some (.int .i64 0) ∧ w'.cell? ⟨w.heap.size, 9, none⟩ = some (.int .i64 0) ∧ w'.cell? ⟨w.heap.size, 10, none⟩ = some (.string ⟨#[47]⟩) ∧ w'.cell? ⟨w.heap.size, 11, none⟩ = some (.int .i64 1) ∧ w'.cell? ⟨w.heap.size, 12, none⟩ = some (.int .i64 0) ∧ w'.cell? ⟨w.heap.size, 13, none⟩ = some (.int .i64 0) ∧ w'.cell? ⟨w.heap.size, 14, none⟩ = some (.bool false) ∧ w'.cell? ⟨b, off, none⟩ = some (.string ⟨nm.toArray⟩)) ∧ Below X.heap.size X w')
        (first | exact HSL.out _ (Below.refl _ _).drew | (go_split_ands; exact HSL.out _ (btr ‹Below X.heap.size X _› ‹_›)) | (go_split_ands; exact HSL.out _ (btr ‹Below X.heap.size X _› (balloc _ _))) | go_keep)
        ((go_at_call 12; go_split_ands; refine (HC.out _ (by first | exact (Below.refl _ _).drew | assumption)).mono ?_; rintro e Y ⟨A1, c1, rfl, hsv, hby⟩; have HSV := Lib.hid hsv; clear hsv))
      all_goals (repeat go_step)
      all_goals go_meet
      have HSY := ‹Hid (SV _ _ _ ∧ G _ _)›
      go_split_ands
      have hxy : Below X.heap.size X Y := btr (Below.refl _ _).drew hby
      have hbx := fun o => btr hxy (balloc Y o)
      exact ⟨_, A1, c1, some ⟨b, off + 1, none⟩, c, rfl, Lib.hid (by unfold CB; exact al_new _ _), Lib.hid ⟨hnc, fun _ => rfl⟩, Lib.hid ⟨by have := hxy.size; omega, by simp, ⟨HSY.out.1.below (balloc _ _), HSY.out.2⟩, hbx _⟩⟩
    case rest =>
      obtain ⟨g, A1, c1, GA, gc, rfl, HCB, HGA, HW⟩ := hcut
      obtain ⟨hg1, hg2, hsv, hbx⟩ := HW.out
      have HR := Lib.hid (HRUN.out wc g A1 c1 GA gc HCB.out HGA.out.1 HGA.out.2 (by omega) hsv (btr HB.out hbx))
      have hx1 : wc.heap[w.heap.size + 1]? = some (.cells #[.string ⟨#[]⟩, .slice none 0 0, .slice none 0 0, .slice none 0 0, .slice none 0 0, .slice none 0 0, .int .i64 0, .int .i64 0, .int .i64 0, .int .i64 0, .string ⟨#[]⟩, .int .i64 0, .int .i64 0, .int .i64 0, .bool false, .string ⟨#[]⟩, .string ⟨#[]⟩, .int .i64 0, .int .i64 0, .int .i64 0, .string ⟨#[]⟩, .slice none 0 0] 33 (0, 0)) := (hbx.block _ (by omega)).trans HX1.out
      have HX3 := Lib.hid hx1
      have hszw := hbx.size
      clear hsv hbx hx1 e0 e1 e2 e3 e4 e5 e6 e7 e8 e9 e10 e11 e12 e13 e14 hcx
      go_wp2_with fail
      refine HR.out.mono ?_
      rintro e Z ⟨rfl, ⟨cs, hz, hcs, hall, hq⟩, ho⟩
      obtain ⟨R, hR⟩ : ∃ R, R = (cs.toList.take 22).toArray := ⟨_, rfl⟩
      have hrs : R.size = 22 := by rw [hR]; simp; omega
      have hr1 : R.all (·.oneCell') = true := by
        rw [hR]
        simp only [List.all_toArray, List.all_eq_true]
        intro x hx
        exact (Array.all_eq_true_iff_forall_mem.1 hall) x (by have := List.mem_of_mem_take hx; simpa using this)
      have hiR : (Tryz.prog.info? 33).map (·.size) = some 22 := by kernel_rfl
      have hrl : R.toList.length = 22 := by simpa using hrs
      have hra : Z.rangeAt g 0 R.toList := fun j v hj => by
        rw [Nat.zero_add, Lib.cell_of_heap hz j]
        rw [hR] at hj
        obtain ⟨h1, h2⟩ := List.getElem?_eq_some_iff.1 hj
        simp at h1 h2
        rw [← h2]
        simp
      have hz1 : Z.heap[w.heap.size + 1]? = some (.cells #[.string ⟨#[]⟩, .slice none 0 0, .slice none 0 0, .slice none 0 0, .slice none 0 0, .slice none 0 0, .int .i64 0, .int .i64 0, .int .i64 0, .int .i64 0, .string ⟨#[]⟩, .int .i64 0, .int .i64 0, .int .i64 0, .bool false, .string ⟨#[]⟩, .string ⟨#[]⟩, .int .i64 0, .int .i64 0, .int .i64 0, .string ⟨#[]⟩, .slice none 0 0] 33 (0, 0)) := (ho.2.1 _ (by omega) (by omega)).trans HX3.out
      obtain ⟨Z2, hZ2⟩ : ∃ Z2, Z2 = Z.setRow (w.heap.size + 1) R := ⟨_, rfl⟩
      have HZ2 := Lib.hid hZ2
      have hz2 : Z2.heap[w.heap.size + 1]? = some (.cells R 33 (0, 0)) := by rw [hZ2]; exact setRow_heap Z _ _ _ _ _ hz1
      have hl2 : (loadVar 33 ⟨w.heap.size + 1, 0, none⟩).run Tryz.prog Z2 = .ok (.agg R) Z2 := run_loadVar_row Z2 (w.heap.size + 1) _ 33 R (0, 0) _ hz2 Tryz.underlying33 rfl (by rw [hiR, hrs])
      have HP := Lib.hid (show Below w.heap.size w Z2 ∧ ∀ k, k ≠ w.heap.size + 1 → Z2.heap[k]? = Z.heap[k]? from by
        rw [hZ2]
        exact ⟨rowB ((HB.out.trans (HW.out.2.2.2.mono (by omega))).trans (ho.2.2.mono (by omega))) (by omega) _, fun k hk => setRow_other _ _ _ _ hk⟩)
      have HQ := Lib.hid (show ∃ cs' : Array Value, R = (cs'.toList.take 22).toArray ∧ Q Z cs' from ⟨cs, hR, hq⟩)
      have HRA := Lib.hid hra
      have HR1 := Lib.hid hr1
      have HZ1 := Lib.hid hz1
      have HL2 := Lib.hid hl2
      have HRL := Lib.hid (show (Tryz.prog.info? 33).map (·.size) = some R.toList.length by rw [hrl]; exact hiR)
      have HRS := Lib.hid (show (Tryz.prog.info? 33).map (·.size) = some R.size by rw [hrs]; exact hiR)
      clear hz hcs hall hq ho hR hr1 hz1 hz2 hZ2 hra hl2 hrl hiR
      go_upto_region 5 with (fail)
      go_wp2_with (first | refine wpList_load_mid rfl 33 _ rfl g 0 rfl R.toList _ HRA.out Tryz.underlying33 rfl HRL.out ?_ | refine wpList_store_row rfl 33 _ _ rfl (w.heap.size + 1) R rfl rfl _ _ HZ1.out HRS.out (by rw [hrs]; rfl) HR1.out ?_)
      rw [← HZ2.out]
      obtain ⟨cs', hcs', hq'⟩ := HQ.out
      refine bodyPost_ret (results_cell2 Tryz.results5 _ _ _ _ _ rfl HL2.out) rfl ?_
      exact ⟨cs', Z, by rw [hcs']; rfl, hq', HP.out.1, HP.out.2⟩
end
end W
end Go.Proofs.YtcbebkeakkahgaaGreatDoor
