/- Built-in commands: the law BuiltinKinds walked; printed by gen39y.py. -/
import Derived.Test.YtcbebkeakkahgaaGreatDoorW38z
import Derived.Test.YtcbebkeakkahgaaGreatDoorW37x
import Derived.Deep.RegionHeld3
import Derived.Deep.DeepCutAuto
namespace Go.Proofs.YtcbebkeakkahgaaGreatDoor
open Go.RowKit K
namespace W
set_option maxRecDepth 100000
/-- A load of a whole row by an operation behind a guard. -/
theorem wpList_load_row_g {P : Program} {ops : Array Oper} {rest : List Oper} {o : Oper} {a : Act} {w : World} {Q : Exit → Act → World → Prop} (hgd : Region.wanted o (yielded ops a.tmps) = true) (ty : TypeId) (x : Operand) (ho : o.op = .load ty x)
    (g : Nat) (hx : a.eval x = .pointer (some ⟨g, 0, none⟩)) (t : TypeId) (cs : Array Value) (fr : Nat × Nat) (d : TypeDesc) (hg : w.heap[g]? = some (.cells cs t fr))
    (hu : P.underlying ty = some d) (hd : (match d with | .struct _ | .array _ _ => true | _ => false) = true) (hi : (P.info? ty).map (·.size) = some cs.size)
    (h : wpList P ops Q rest (a.put o.dst (.agg cs)) w) : wpList P ops Q (o :: rest) a w :=
  wpList_step fun K hK => by
    rw [if_pos hgd]
    exact wp_load_row ty x ho g hx t cs fr d hg hu hd hi (hK _ _ h)
attribute [-go_sem] storeVar
set_option maxHeartbeats 8000000 in
theorem Kinds_known (nm : List UInt8) (hk : BK.knB nm = true) (hn : nm.length ≤ 100) (w : World) (hw : Env w) : Calls Tryz.prog 3 #[.string ⟨nm.toArray⟩] w fun e w' => e = .returned (.bool true) ∧ Below w.heap.size w w' := by
  have hiE : (Tryz.prog.info? 31).map (·.size) = some 15 := by kernel_rfl
  have hiR : (Tryz.prog.info? 33).map (·.size) = some 22 := by kernel_rfl
  have HIE := Lib.hid hiE
  have HIR := Lib.hid hiR
  have HA := Lib.hid (fun (V : World) (hV : Below w.heap.size w V) => awake_any V (hw.below hV))
  have HZ1 := Lib.hid (show (#[.string ⟨#[]⟩, .slice none 0 0, .slice none 0 0, .slice none 0 0, .slice none 0 0, .slice none 0 0, .int .i64 0, .int .i64 0, .int .i64 0, .int .i64 0, .string ⟨#[]⟩, .int .i64 0, .int .i64 0, .int .i64 0, .bool false, .string ⟨#[]⟩, .string ⟨#[]⟩, .int .i64 0, .int .i64 0, .int .i64 0, .string ⟨#[]⟩, .slice none 0 0] : Array Value).all (·.oneCell') = true by simp [Value.oneCell'])
  have HRUN := Lib.hid (fun (V : World) (FA : Option Addr) (fn fc b off c : Nat) (hb : b < V.heap.size) (hc : V.cell? ⟨b, off, none⟩ = some (.string ⟨nm.toArray⟩)) => Run_known (FA := FA) (fn := fn) (fc := fc) (c := c) hb hc hk)
  have HNONE := Lib.hid (fun (V : World) (FA : Option Addr) (fn fc : Nat) => Run_none (w := V) (FA := FA) (fn := fn) (fc := fc) (PA := none) (pn := 0) (pc := 0))
  have HK1 := Lib.hid (fun V => show Calls Tryz.prog 7 #[.string ⟨nm.toArray⟩] V fun e w' => e = .returned (.bool true) ∧ w' = V from by rw [← hk]; exact Known_any nm V)
  have HK2 := Lib.hid (fun V => show Calls Tryz.prog 8 #[.string ⟨nm.toArray⟩] V fun e w' => e = .returned (.bool true) ∧ Below V.heap.size V w' from by rw [← hk]; exact Known_ref nm V)
  have HZR := Lib.hid (fun (Z : World) (p : Nat) (R : Array Value) (hz : Z.heap[p]? = some (.cells #[.string ⟨#[]⟩, .slice none 0 0, .slice none 0 0, .slice none 0 0, .slice none 0 0, .slice none 0 0, .int .i64 0, .int .i64 0, .int .i64 0, .int .i64 0, .string ⟨#[]⟩, .int .i64 0, .int .i64 0, .int .i64 0, .bool false, .string ⟨#[]⟩, .string ⟨#[]⟩, .int .i64 0, .int .i64 0, .int .i64 0, .string ⟨#[]⟩, .slice none 0 0] 33 (0, 0))) (h1 : R.size = 22) (h2 : R.all (·.oneCell') = true) => run_storeVar_row (P := Tryz.prog) Z p 33 33 _ R hz (by rw [HIR.out, h1]) (by rw [h1]; rfl) h2)
  have HN := Lib.hid (fun V => newF_any V)
  have q1 : ((100 : Int) < (nm.length : Int)) = False := eq_false (by omega)
  obtain ⟨sb, hsb⟩ : ∃ sb, BK.spB nm = sb := ⟨_, rfl⟩
  have HS1 := Lib.hid (fun V => show Calls Tryz.prog 9 #[.string ⟨nm.toArray⟩] V fun e w' => e = .returned (.bool sb) ∧ w' = V from by rw [← hsb]; exact Special_any nm V)
  have HS2 := Lib.hid (fun V => show Calls Tryz.prog 10 #[.string ⟨nm.toArray⟩] V fun e w' => e = .returned (.bool sb) ∧ Below V.heap.size V w' from by rw [← hsb]; exact Special_ref nm V)
  clear hk hsb
  have hx9 : (w.alloc (.cells #[.string ⟨#[]⟩, .slice none 0 0, .slice none 0 0, .slice none 0 0, .slice none 0 0, .slice none 0 0, .int .i64 0, .int .i64 0, .int .i64 0, .int .i64 0, .string ⟨#[]⟩, .int .i64 0, .int .i64 0, .int .i64 0, .bool false] 31)).heap[w.heap.size]? = some (.cells #[.string ⟨#[]⟩, .slice none 0 0, .slice none 0 0, .slice none 0 0, .slice none 0 0, .slice none 0 0, .int .i64 0, .int .i64 0, .int .i64 0, .int .i64 0, .string ⟨#[]⟩, .int .i64 0, .int .i64 0, .int .i64 0, .bool false] 31 (0, 0)) := al_new w _
  obtain ⟨X, hX⟩ : ∃ X, X = (w.alloc (.cells #[.string ⟨#[]⟩, .slice none 0 0, .slice none 0 0, .slice none 0 0, .slice none 0 0, .slice none 0 0, .int .i64 0, .int .i64 0, .int .i64 0, .int .i64 0, .string ⟨#[]⟩, .int .i64 0, .int .i64 0, .int .i64 0, .bool false] 31)).setRow w.heap.size #[.string ⟨#[]⟩, .slice none 0 0, .slice none 0 0, .slice none 0 0, .slice none 0 0, .slice none 0 0, .int .i64 0, .int .i64 0, .int .i64 0, .int .i64 0, .string ⟨#[47]⟩, .int .i64 1, .int .i64 0, .int .i64 0, .bool false] := ⟨_, rfl⟩
  have hst := run_storeVar_row (P := Tryz.prog) (w.alloc (.cells #[.string ⟨#[]⟩, .slice none 0 0, .slice none 0 0, .slice none 0 0, .slice none 0 0, .slice none 0 0, .int .i64 0, .int .i64 0, .int .i64 0, .int .i64 0, .string ⟨#[]⟩, .int .i64 0, .int .i64 0, .int .i64 0, .bool false] 31)) w.heap.size 31 31 _ #[.string ⟨#[]⟩, .slice none 0 0, .slice none 0 0, .slice none 0 0, .slice none 0 0, .slice none 0 0, .int .i64 0, .int .i64 0, .int .i64 0, .int .i64 0, .string ⟨#[47]⟩, .int .i64 1, .int .i64 0, .int .i64 0, .bool false] hx9 (by rw [HIE.out]; rfl) rfl (by simp [Value.oneCell'])
  rw [← hX] at hst
  have HB := Lib.hid (show Below w.heap.size w X by rw [hX]; exact rowB (balloc _ _) (Nat.le_refl _) _)
  have hx0 : X.heap[w.heap.size]? = some (.cells #[.string ⟨#[]⟩, .slice none 0 0, .slice none 0 0, .slice none 0 0, .slice none 0 0, .slice none 0 0, .int .i64 0, .int .i64 0, .int .i64 0, .int .i64 0, .string ⟨#[47]⟩, .int .i64 1, .int .i64 0, .int .i64 0, .bool false] 31 (0, 0)) := by rw [hX]; exact setRow_heap _ _ _ _ _ _ hx9
  have HXL := Lib.hid (Array.getElem?_eq_some_iff.1 hx0).1
  have e0 : X.cell? ⟨w.heap.size, 0, none⟩ = some (.string ⟨#[]⟩) := Lib.cell_of_heap hx0 0
  have e1 : X.cell? ⟨w.heap.size, 1, none⟩ = some (.slice none 0 0) := Lib.cell_of_heap hx0 1
  have e2 : X.cell? ⟨w.heap.size, 2, none⟩ = some (.slice none 0 0) := Lib.cell_of_heap hx0 2
  have e3 : X.cell? ⟨w.heap.size, 3, none⟩ = some (.slice none 0 0) := Lib.cell_of_heap hx0 3
  have e4 : X.cell? ⟨w.heap.size, 4, none⟩ = some (.slice none 0 0) := Lib.cell_of_heap hx0 4
  have e5 : X.cell? ⟨w.heap.size, 5, none⟩ = some (.slice none 0 0) := Lib.cell_of_heap hx0 5
  have e6 : X.cell? ⟨w.heap.size, 6, none⟩ = some (.int .i64 0) := Lib.cell_of_heap hx0 6
  have e7 : X.cell? ⟨w.heap.size, 7, none⟩ = some (.int .i64 0) := Lib.cell_of_heap hx0 7
  have e8 : X.cell? ⟨w.heap.size, 8, none⟩ = some (.int .i64 0) := Lib.cell_of_heap hx0 8
  have e9 : X.cell? ⟨w.heap.size, 9, none⟩ = some (.int .i64 0) := Lib.cell_of_heap hx0 9
  have e10 : X.cell? ⟨w.heap.size, 10, none⟩ = some (.string ⟨#[47]⟩) := Lib.cell_of_heap hx0 10
  have e11 : X.cell? ⟨w.heap.size, 11, none⟩ = some (.int .i64 1) := Lib.cell_of_heap hx0 11
  have e12 : X.cell? ⟨w.heap.size, 12, none⟩ = some (.int .i64 0) := Lib.cell_of_heap hx0 12
  have e13 : X.cell? ⟨w.heap.size, 13, none⟩ = some (.int .i64 0) := Lib.cell_of_heap hx0 13
  have e14 : X.cell? ⟨w.heap.size, 14, none⟩ = some (.bool false) := Lib.cell_of_heap hx0 14
  have HSL := Lib.hid (fun V (hV : Below X.heap.size X V) => show (V.cell? ⟨w.heap.size, 0, none⟩ = some (.string ⟨#[]⟩) ∧ V.cell? ⟨w.heap.size, 1, none⟩ = some (.slice none 0 0) ∧ V.cell? ⟨w.heap.size, 2, none⟩ = some (.slice none 0 0) ∧ V.cell? ⟨w.heap.size, 3, none⟩ = some (.slice none 0 0) ∧ V.cell? ⟨w.heap.size, 4, none⟩ = some (.slice none 0 0) ∧ V.cell? ⟨w.heap.size, 5, none⟩ = some (.slice none 0 0) ∧ V.cell? ⟨w.heap.size, 6, none⟩ = some (.int .i64 0) ∧ V.cell? ⟨w.heap.size, 7, none⟩ = some (.int .i64 0) ∧ V.cell? ⟨w.heap.size, 8, none⟩ = some (.int .i64 0) ∧ V.cell? ⟨w.heap.size, 9, none⟩ = some (.int .i64 0) ∧ V.cell? ⟨w.heap.size, 10, none⟩ = some (.string ⟨#[47]⟩) ∧ V.cell? ⟨w.heap.size, 11, none⟩ = some (.int .i64 1) ∧ V.cell? ⟨w.heap.size, 12, none⟩ = some (.int .i64 0) ∧ V.cell? ⟨w.heap.size, 13, none⟩ = some (.int .i64 0) ∧ V.cell? ⟨w.heap.size, 14, none⟩ = some (.bool false)) ∧ Below X.heap.size X V from ⟨⟨(hV.cell (p := ⟨w.heap.size, 0, none⟩) HXL.out).trans e0, (hV.cell (p := ⟨w.heap.size, 1, none⟩) HXL.out).trans e1, (hV.cell (p := ⟨w.heap.size, 2, none⟩) HXL.out).trans e2, (hV.cell (p := ⟨w.heap.size, 3, none⟩) HXL.out).trans e3, (hV.cell (p := ⟨w.heap.size, 4, none⟩) HXL.out).trans e4, (hV.cell (p := ⟨w.heap.size, 5, none⟩) HXL.out).trans e5, (hV.cell (p := ⟨w.heap.size, 6, none⟩) HXL.out).trans e6, (hV.cell (p := ⟨w.heap.size, 7, none⟩) HXL.out).trans e7, (hV.cell (p := ⟨w.heap.size, 8, none⟩) HXL.out).trans e8, (hV.cell (p := ⟨w.heap.size, 9, none⟩) HXL.out).trans e9, (hV.cell (p := ⟨w.heap.size, 10, none⟩) HXL.out).trans e10, (hV.cell (p := ⟨w.heap.size, 11, none⟩) HXL.out).trans e11, (hV.cell (p := ⟨w.heap.size, 12, none⟩) HXL.out).trans e12, (hV.cell (p := ⟨w.heap.size, 13, none⟩) HXL.out).trans e13, (hV.cell (p := ⟨w.heap.size, 14, none⟩) HXL.out).trans e14⟩, hV⟩)
  clear hX hx9 hx0 hiE hiR
  go_enter Tryz.func3, Tryz.ntmps3
  go_upto_region 4 with (fail)
  clear hst
  go_cut [4, 5] (fun x y wx => ∃ (p : Nat), x = .pointer (some ⟨p, 0, none⟩) ∧ y = .bool true ∧ Hid ((∃ R, wx.heap[p]? = some (.cells R 33 (0, 0))) ∧ Below X.heap.size X wx))
  case first =>
    go_region_held3 (fun w' => (w'.cell? ⟨w.heap.size, 0, none⟩ = some (.string ⟨#[]⟩) ∧ w'.cell? ⟨w.heap.size, 1, none⟩ = some (.slice none 0 0) ∧ w'.cell? ⟨w.heap.size, 2, none⟩ = some (.slice none 0 0) ∧ w'.cell? ⟨w.heap.size, 3, none⟩ = some (.slice none 0 0) ∧ w'.cell? ⟨w.heap.size, 4, none⟩ = some (.slice none 0 0) ∧ w'.cell? ⟨w.heap.size, 5, none⟩ = some (.slice none 0 0) ∧ w'.cell? ⟨w.heap.size, 6, none⟩ = some (.int .i64 0) ∧ w'.cell? ⟨w.heap.size, 7, none⟩ = some (.int .i64 0) ∧ w'.cell? ⟨w.heap.size, 8, none⟩ = some (.int .i64 0) ∧ w'.cell? ⟨w.heap.size, 9, none⟩ = some (.int .i64 0) ∧ w'.cell? ⟨w.heap.size, 10, none⟩ = some (.string ⟨#[47]⟩) ∧ w'.cell? ⟨w.heap.size, 11, none⟩ = some (.int .i64 1) ∧ w'.cell? ⟨w.heap.size, 12, none⟩ = some (.int .i64 0) ∧ w'.cell? ⟨w.heap.size, 13, none⟩ = some (.int .i64 0) ∧ w'.cell? ⟨w.heap.size, 14, none⟩ = some (.bool false)) ∧ Below X.heap.size X w')
      (first | exact HSL.out _ (Below.refl _ _).drew | (go_split_ands; exact HSL.out _ (btr ‹Below X.heap.size X _› ‹_›)) | (go_split_ands; exact HSL.out _ (btr ‹Below X.heap.size X _› (balloc _ _))) | exact HSL.out _ HZB.out | exact HSL.out _ (btr HZB.out (balloc _ _)) | exact HSL.out _ (rowB (btr HZB.out (balloc _ _)) HZB.out.size _) | exact HSL.out _ (rowB HZB.out (by omega) _) | go_keep)
      (first | (go_at_call 6; go_split_ands; refine (HN.out _).mono ?_; rintro e Y ⟨rfl, rfl⟩) | (go_at_call 5; go_split_ands; refine (HRUN.out _ _ _ _ _ _ 0 ?_ ?_).mono ?_; (focus (first | omega | (simp; done) | (simp; omega) | fail)); (focus (first | exact Lib.cell_of_heap (al_new' _ _ _ (by simp)) 0 | exact Lib.cell_of_heap (hblk_a (al_new' _ _ _ (by simp))) 0 | exact Lib.cell_of_heap (hblk_a (hblk_a (al_new _ _))) 0 | fail)); rintro e Z ⟨⟨R, rfl, hrs, hr1⟩, hz⟩; have HZB := Lib.hid (btr ‹Below X.heap.size X _› hz); have HRR := Lib.hid (And.intro hrs hr1); first | (have hy0 : Z.heap[X.heap.size + 1 + 1]? = some (.cells #[.string ⟨#[]⟩, .slice none 0 0, .slice none 0 0, .slice none 0 0, .slice none 0 0, .slice none 0 0, .int .i64 0, .int .i64 0, .int .i64 0, .int .i64 0, .string ⟨#[]⟩, .int .i64 0, .int .i64 0, .int .i64 0, .bool false, .string ⟨#[]⟩, .string ⟨#[]⟩, .int .i64 0, .int .i64 0, .int .i64 0, .string ⟨#[]⟩, .slice none 0 0] 33 (0, 0)) := (hz.block _ (by first | (simp; done) | (simp; omega))).trans (al_new' _ _ _ (by simp)); have hst := HZR.out Z _ R hy0 hrs hr1; have HY0 := Lib.hid hy0; clear hy0) | (have hy0 : Z.heap[X.heap.size + 1]? = some (.cells #[.string ⟨#[]⟩, .slice none 0 0, .slice none 0 0, .slice none 0 0, .slice none 0 0, .slice none 0 0, .int .i64 0, .int .i64 0, .int .i64 0, .int .i64 0, .string ⟨#[]⟩, .int .i64 0, .int .i64 0, .int .i64 0, .bool false, .string ⟨#[]⟩, .string ⟨#[]⟩, .int .i64 0, .int .i64 0, .int .i64 0, .string ⟨#[]⟩, .slice none 0 0] 33 (0, 0)) := (hz.block _ (by first | (simp; done) | (simp; omega))).trans (hblk_a (al_new' _ _ _ (by simp))); have hst := HZR.out Z _ R hy0 hrs hr1; have HY0 := Lib.hid hy0; clear hy0) | (have hy0 : Z.heap[X.heap.size]? = some (.cells #[.string ⟨#[]⟩, .slice none 0 0, .slice none 0 0, .slice none 0 0, .slice none 0 0, .slice none 0 0, .int .i64 0, .int .i64 0, .int .i64 0, .int .i64 0, .string ⟨#[]⟩, .int .i64 0, .int .i64 0, .int .i64 0, .bool false, .string ⟨#[]⟩, .string ⟨#[]⟩, .int .i64 0, .int .i64 0, .int .i64 0, .string ⟨#[]⟩, .slice none 0 0] 33 (0, 0)) := (hz.block _ (by first | (simp; done) | (simp; omega))).trans (hblk_a (hblk_a (al_new _ _))); have hst := HZR.out Z _ R hy0 hrs hr1; have HY0 := Lib.hid hy0; clear hy0) | (have hst := HZR.out (Z.alloc (.cells #[.string ⟨#[]⟩, .slice none 0 0, .slice none 0 0, .slice none 0 0, .slice none 0 0, .slice none 0 0, .int .i64 0, .int .i64 0, .int .i64 0, .int .i64 0, .string ⟨#[]⟩, .int .i64 0, .int .i64 0, .int .i64 0, .bool false, .string ⟨#[]⟩, .string ⟨#[]⟩, .int .i64 0, .int .i64 0, .int .i64 0, .string ⟨#[]⟩, .slice none 0 0] 33)) Z.heap.size R (al_new Z _) hrs hr1) | fail) | fail)
    all_goals (repeat go_step)
    all_goals go_meet
    all_goals first
      | exact ⟨_, rfl, rfl, Lib.hid ⟨⟨_, setRow_heap _ _ _ _ _ _ (al_new Z _)⟩, rowB (btr HZB.out (balloc _ _)) HZB.out.size _⟩⟩
      | exact ⟨_, rfl, rfl, Lib.hid ⟨⟨_, setRow_heap _ _ _ _ _ _ HY0.out⟩, rowB HZB.out (by omega) _⟩⟩
  case rest =>
    obtain ⟨p, rfl, rfl, HP⟩ := hcut
    generalize wc = wa at *
    have HWL := Lib.hid (Nat.lt_of_lt_of_le HXL.out HP.out.2.size)
    clear e0 e1 e2 e3 e4 e5 e6 e7 e8 e9 e10 e11 e12 e13 e14
    obtain ⟨⟨e0, e1, e2, e3, e4, e5, e6, e7, e8, e9, e10, e11, e12, e13, e14⟩, -⟩ := HSL.out wa HP.out.2
    have HSM := Lib.hid (fun V (hV : Below wa.heap.size wa V) => show (V.cell? ⟨w.heap.size, 0, none⟩ = some (.string ⟨#[]⟩) ∧ V.cell? ⟨w.heap.size, 1, none⟩ = some (.slice none 0 0) ∧ V.cell? ⟨w.heap.size, 2, none⟩ = some (.slice none 0 0) ∧ V.cell? ⟨w.heap.size, 3, none⟩ = some (.slice none 0 0) ∧ V.cell? ⟨w.heap.size, 4, none⟩ = some (.slice none 0 0) ∧ V.cell? ⟨w.heap.size, 5, none⟩ = some (.slice none 0 0) ∧ V.cell? ⟨w.heap.size, 6, none⟩ = some (.int .i64 0) ∧ V.cell? ⟨w.heap.size, 7, none⟩ = some (.int .i64 0) ∧ V.cell? ⟨w.heap.size, 8, none⟩ = some (.int .i64 0) ∧ V.cell? ⟨w.heap.size, 9, none⟩ = some (.int .i64 0) ∧ V.cell? ⟨w.heap.size, 10, none⟩ = some (.string ⟨#[47]⟩) ∧ V.cell? ⟨w.heap.size, 11, none⟩ = some (.int .i64 1) ∧ V.cell? ⟨w.heap.size, 12, none⟩ = some (.int .i64 0) ∧ V.cell? ⟨w.heap.size, 13, none⟩ = some (.int .i64 0) ∧ V.cell? ⟨w.heap.size, 14, none⟩ = some (.bool false)) ∧ Below wa.heap.size wa V from ⟨(HSL.out V (btr HP.out.2 hV)).1, hV⟩)
    go_upto_region 5 with (fail)
    go_cut [6, 7] (fun x y wx => ∃ (p2 : Nat), x = .pointer (some ⟨p2, 0, none⟩) ∧ y = .bool false ∧ Hid (Below wa.heap.size wa wx))
    case first =>
      go_region_held3 (fun w' => (w'.cell? ⟨w.heap.size, 0, none⟩ = some (.string ⟨#[]⟩) ∧ w'.cell? ⟨w.heap.size, 1, none⟩ = some (.slice none 0 0) ∧ w'.cell? ⟨w.heap.size, 2, none⟩ = some (.slice none 0 0) ∧ w'.cell? ⟨w.heap.size, 3, none⟩ = some (.slice none 0 0) ∧ w'.cell? ⟨w.heap.size, 4, none⟩ = some (.slice none 0 0) ∧ w'.cell? ⟨w.heap.size, 5, none⟩ = some (.slice none 0 0) ∧ w'.cell? ⟨w.heap.size, 6, none⟩ = some (.int .i64 0) ∧ w'.cell? ⟨w.heap.size, 7, none⟩ = some (.int .i64 0) ∧ w'.cell? ⟨w.heap.size, 8, none⟩ = some (.int .i64 0) ∧ w'.cell? ⟨w.heap.size, 9, none⟩ = some (.int .i64 0) ∧ w'.cell? ⟨w.heap.size, 10, none⟩ = some (.string ⟨#[47]⟩) ∧ w'.cell? ⟨w.heap.size, 11, none⟩ = some (.int .i64 1) ∧ w'.cell? ⟨w.heap.size, 12, none⟩ = some (.int .i64 0) ∧ w'.cell? ⟨w.heap.size, 13, none⟩ = some (.int .i64 0) ∧ w'.cell? ⟨w.heap.size, 14, none⟩ = some (.bool false)) ∧ Below wa.heap.size wa w')
        (first | exact HSM.out _ (Below.refl _ _).drew | (go_split_ands; exact HSM.out _ (btr ‹Below wa.heap.size wa _› ‹_›)) | (go_split_ands; exact HSM.out _ (btr ‹Below wa.heap.size wa _› (balloc _ _))) | exact HSM.out _ HZB.out | exact HSM.out _ (btr HZB.out (balloc _ _)) | exact HSM.out _ (rowB (btr HZB.out (balloc _ _)) HZB.out.size _) | exact HSM.out _ (rowB HZB.out (by omega) _) | go_keep)
        (first | (go_at_call 6; go_split_ands; refine (HN.out _).mono ?_; rintro e Y ⟨rfl, rfl⟩) | (go_at_call 5; go_split_ands; refine (HNONE.out _ _ _ _).mono ?_; rintro e Z ⟨rfl, hz⟩; have HZB := Lib.hid (btr ‹Below wa.heap.size wa _› hz); first | (have hy0 : Z.heap[wa.heap.size + 1]? = some (.cells #[.string ⟨#[]⟩, .slice none 0 0, .slice none 0 0, .slice none 0 0, .slice none 0 0, .slice none 0 0, .int .i64 0, .int .i64 0, .int .i64 0, .int .i64 0, .string ⟨#[]⟩, .int .i64 0, .int .i64 0, .int .i64 0, .bool false, .string ⟨#[]⟩, .string ⟨#[]⟩, .int .i64 0, .int .i64 0, .int .i64 0, .string ⟨#[]⟩, .slice none 0 0] 33 (0, 0)) := (hz.block _ (by first | (simp; done) | (simp; omega))).trans (al_new' _ _ _ (by simp)); have hst := HZR.out Z _ #[.string ⟨#[]⟩, .slice none 0 0, .slice none 0 0, .slice none 0 0, .slice none 0 0, .slice none 0 0, .int .i64 0, .int .i64 0, .int .i64 0, .int .i64 0, .string ⟨#[]⟩, .int .i64 0, .int .i64 0, .int .i64 0, .bool false, .string ⟨#[]⟩, .string ⟨#[]⟩, .int .i64 0, .int .i64 0, .int .i64 0, .string ⟨#[]⟩, .slice none 0 0] hy0 rfl HZ1.out; have HY0 := Lib.hid hy0; clear hy0) | (have hy0 : Z.heap[wa.heap.size]? = some (.cells #[.string ⟨#[]⟩, .slice none 0 0, .slice none 0 0, .slice none 0 0, .slice none 0 0, .slice none 0 0, .int .i64 0, .int .i64 0, .int .i64 0, .int .i64 0, .string ⟨#[]⟩, .int .i64 0, .int .i64 0, .int .i64 0, .bool false, .string ⟨#[]⟩, .string ⟨#[]⟩, .int .i64 0, .int .i64 0, .int .i64 0, .string ⟨#[]⟩, .slice none 0 0] 33 (0, 0)) := (hz.block _ (by first | (simp; done) | (simp; omega))).trans (hblk_a (al_new _ _)); have hst := HZR.out Z _ #[.string ⟨#[]⟩, .slice none 0 0, .slice none 0 0, .slice none 0 0, .slice none 0 0, .slice none 0 0, .int .i64 0, .int .i64 0, .int .i64 0, .int .i64 0, .string ⟨#[]⟩, .int .i64 0, .int .i64 0, .int .i64 0, .bool false, .string ⟨#[]⟩, .string ⟨#[]⟩, .int .i64 0, .int .i64 0, .int .i64 0, .string ⟨#[]⟩, .slice none 0 0] hy0 rfl HZ1.out; have HY0 := Lib.hid hy0; clear hy0) | (have hst := HZR.out (Z.alloc (.cells #[.string ⟨#[]⟩, .slice none 0 0, .slice none 0 0, .slice none 0 0, .slice none 0 0, .slice none 0 0, .int .i64 0, .int .i64 0, .int .i64 0, .int .i64 0, .string ⟨#[]⟩, .int .i64 0, .int .i64 0, .int .i64 0, .bool false, .string ⟨#[]⟩, .string ⟨#[]⟩, .int .i64 0, .int .i64 0, .int .i64 0, .string ⟨#[]⟩, .slice none 0 0] 33)) Z.heap.size #[.string ⟨#[]⟩, .slice none 0 0, .slice none 0 0, .slice none 0 0, .slice none 0 0, .slice none 0 0, .int .i64 0, .int .i64 0, .int .i64 0, .int .i64 0, .string ⟨#[]⟩, .int .i64 0, .int .i64 0, .int .i64 0, .bool false, .string ⟨#[]⟩, .string ⟨#[]⟩, .int .i64 0, .int .i64 0, .int .i64 0, .string ⟨#[]⟩, .slice none 0 0] (al_new Z _) rfl HZ1.out) | fail) | fail)
      all_goals (repeat go_step)
      all_goals go_meet
      all_goals first
        | exact ⟨_, rfl, rfl, Lib.hid (rowB (btr HZB.out (balloc _ _)) HZB.out.size _)⟩
        | exact ⟨_, rfl, rfl, Lib.hid (rowB HZB.out (by omega) _)⟩
    case rest =>
      obtain ⟨p2, rfl, rfl, HP2⟩ := hcut
      have HW2 := Lib.hid (show Below w.heap.size w wc from btr HB.out (btr HP.out.2 HP2.out))
      clear e0 e1 e2 e3 e4 e5 e6 e7 e8 e9 e10 e11 e12 e13 e14
      cases sb
      · go_wp2_with (fail)
        refine (HK1.out _).mono ?_
        rintro e U1 ⟨rfl, hu⟩
        obtain rfl : wc = U1 := hu.symm
        go_wp2_with (fail)
        refine (HK2.out _).mono ?_
        rintro e U1 ⟨rfl, hu1⟩
        have HU1 := Lib.hid hu1
        clear hu1
        go_wp2_with (fail)
        refine (HS1.out _).mono ?_
        rintro e U2 ⟨rfl, hu⟩
        obtain rfl : U1 = U2 := hu.symm
        go_wp2_with (fail)
        refine (HS2.out _).mono ?_
        rintro e U2 ⟨rfl, hu2⟩
        have HU2 := Lib.hid (btr HU1.out hu2)
        clear hu2
        go_wp2_with (fail)
        refine (HK1.out _).mono ?_
        rintro e U3 ⟨rfl, hu⟩
        obtain rfl : U2 = U3 := hu.symm
        have HAW := Lib.hid (HA.out U2 (btr HW2.out HU2.out))
        go_wp2_with (fail)
        refine (HS1.out _).mono ?_
        rintro e U3 ⟨rfl, hu⟩
        obtain rfl : U2 = U3 := hu.symm
        go_wp2_with (fail)
        refine HAW.out.mono ?_
        rintro e U4 ⟨rfl, hu4⟩
        have HU4 := Lib.hid hu4
        clear hu4
        go_wp2
        go_ret
        exact ⟨rfl, btr HW2.out (btr HU2.out HU4.out)⟩
      · go_wp2_with (fail)
        refine (HK1.out _).mono ?_
        rintro e U1 ⟨rfl, hu⟩
        obtain rfl : wc = U1 := hu.symm
        go_wp2_with (fail)
        refine (HK2.out _).mono ?_
        rintro e U1 ⟨rfl, hu1⟩
        have HU1 := Lib.hid hu1
        clear hu1
        go_wp2_with (fail)
        refine (HS1.out _).mono ?_
        rintro e U2 ⟨rfl, hu⟩
        obtain rfl : U1 = U2 := hu.symm
        go_wp2_with (fail)
        refine (HS2.out _).mono ?_
        rintro e U2 ⟨rfl, hu2⟩
        have HU2 := Lib.hid (btr HU1.out hu2)
        clear hu2
        go_wp2_with (fail)
        refine (HK1.out _).mono ?_
        rintro e U3 ⟨rfl, hu⟩
        obtain rfl : U2 = U3 := hu.symm
        have HAW := Lib.hid (HA.out U2 (btr HW2.out HU2.out))
        go_wp2_with (fail)
        refine (HS1.out _).mono ?_
        rintro e U3 ⟨rfl, hu⟩
        obtain rfl : U2 = U3 := hu.symm
        go_wp2_with (fail)
        refine (HK1.out _).mono ?_
        rintro e U3 ⟨rfl, hu⟩
        obtain rfl : U2 = U3 := hu.symm
        go_wp2_with (fail)
        refine HAW.out.mono ?_
        rintro e U4 ⟨rfl, hu4⟩
        have HU4 := Lib.hid hu4
        clear hu4
        go_wp2
        go_ret
        exact ⟨rfl, btr HW2.out (btr HU2.out HU4.out)⟩
set_option maxHeartbeats 8000000 in
theorem Kinds_unknown (nm : List UInt8) (hk : BK.knB nm = false) (hn : nm.length ≤ 100) (w : World) (hw : Env w) : Calls Tryz.prog 3 #[.string ⟨nm.toArray⟩] w fun e w' => e = .returned (.bool true) ∧ Below w.heap.size w w' := by
  have hiE : (Tryz.prog.info? 31).map (·.size) = some 15 := by kernel_rfl
  have hiR : (Tryz.prog.info? 33).map (·.size) = some 22 := by kernel_rfl
  have HIE := Lib.hid hiE
  have HIR := Lib.hid hiR
  have HA := Lib.hid (fun (V : World) (hV : Below w.heap.size w V) => awake_any V (hw.below hV))
  have HZ1 := Lib.hid (show (#[.string ⟨#[]⟩, .slice none 0 0, .slice none 0 0, .slice none 0 0, .slice none 0 0, .slice none 0 0, .int .i64 0, .int .i64 0, .int .i64 0, .int .i64 0, .string ⟨#[]⟩, .int .i64 0, .int .i64 0, .int .i64 0, .bool false, .string ⟨#[]⟩, .string ⟨#[]⟩, .int .i64 0, .int .i64 0, .int .i64 0, .string ⟨#[]⟩, .slice none 0 0] : Array Value).all (·.oneCell') = true by simp [Value.oneCell'])
  have HRUN := Lib.hid (fun (V : World) (FA : Option Addr) (fn fc b off c : Nat) (hb : b < V.heap.size) (hc : V.cell? ⟨b, off, none⟩ = some (.string ⟨nm.toArray⟩)) => (Run_unknown (FA := FA) (fn := fn) (fc := fc) (PA := none) (pn := 0) (pc := 0) (n := 0) (c := c) hb hc hk).mono (R' := fun e w1 => (∃ R : Array Value, e = .returned (.tuple #[.agg R, .bool false]) ∧ Hid (R = #[.string ⟨#[]⟩, .slice none 0 0, .slice none 0 0, .slice none 0 0, .slice none 0 0, .slice none 0 0, .int .i64 0, .int .i64 0, .int .i64 0, .int .i64 0, .string ⟨#[]⟩, .int .i64 0, .int .i64 0, .int .i64 0, .bool false, .string ⟨#[]⟩, .string ⟨#[]⟩, .int .i64 0, .int .i64 0, .int .i64 0, .string ⟨#[]⟩, .slice none 0 0]) ∧ R.size = 22 ∧ R.all (·.oneCell') = true) ∧ Below V.heap.size V w1) (fun _ _ ⟨h1, h2⟩ => ⟨⟨_, h1, rfl, rfl, HZ1.out⟩, h2⟩))
  have HNONE := Lib.hid (fun (V : World) (FA : Option Addr) (fn fc : Nat) => Run_none (w := V) (FA := FA) (fn := fn) (fc := fc) (PA := none) (pn := 0) (pc := 0))
  have HK1 := Lib.hid (fun V => show Calls Tryz.prog 7 #[.string ⟨nm.toArray⟩] V fun e w' => e = .returned (.bool false) ∧ w' = V from by rw [← hk]; exact Known_any nm V)
  have HK2 := Lib.hid (fun V => show Calls Tryz.prog 8 #[.string ⟨nm.toArray⟩] V fun e w' => e = .returned (.bool false) ∧ Below V.heap.size V w' from by rw [← hk]; exact Known_ref nm V)
  have HZR := Lib.hid (fun (Z : World) (p : Nat) (R : Array Value) (hz : Z.heap[p]? = some (.cells #[.string ⟨#[]⟩, .slice none 0 0, .slice none 0 0, .slice none 0 0, .slice none 0 0, .slice none 0 0, .int .i64 0, .int .i64 0, .int .i64 0, .int .i64 0, .string ⟨#[]⟩, .int .i64 0, .int .i64 0, .int .i64 0, .bool false, .string ⟨#[]⟩, .string ⟨#[]⟩, .int .i64 0, .int .i64 0, .int .i64 0, .string ⟨#[]⟩, .slice none 0 0] 33 (0, 0))) (h1 : R.size = 22) (h2 : R.all (·.oneCell') = true) => run_storeVar_row (P := Tryz.prog) Z p 33 33 _ R hz (by rw [HIR.out, h1]) (by rw [h1]; rfl) h2)
  have HN := Lib.hid (fun V => newF_any V)
  have q1 : ((100 : Int) < (nm.length : Int)) = False := eq_false (by omega)
  obtain ⟨sb, hsb⟩ : ∃ sb, sb = false ∧ BK.spB nm = sb := ⟨false, rfl, by
    unfold BK.knB at hk
    unfold BK.spB
    rw [decide_eq_false_iff_not] at hk ⊢
    exact fun h => hk (.inl h)⟩
  obtain ⟨rfl, hsb⟩ := hsb
  have HS1 := Lib.hid (fun V => show Calls Tryz.prog 9 #[.string ⟨nm.toArray⟩] V fun e w' => e = .returned (.bool false) ∧ w' = V from by rw [← hsb]; exact Special_any nm V)
  have HS2 := Lib.hid (fun V => show Calls Tryz.prog 10 #[.string ⟨nm.toArray⟩] V fun e w' => e = .returned (.bool false) ∧ Below V.heap.size V w' from by rw [← hsb]; exact Special_ref nm V)
  clear hk hsb
  have hx9 : (w.alloc (.cells #[.string ⟨#[]⟩, .slice none 0 0, .slice none 0 0, .slice none 0 0, .slice none 0 0, .slice none 0 0, .int .i64 0, .int .i64 0, .int .i64 0, .int .i64 0, .string ⟨#[]⟩, .int .i64 0, .int .i64 0, .int .i64 0, .bool false] 31)).heap[w.heap.size]? = some (.cells #[.string ⟨#[]⟩, .slice none 0 0, .slice none 0 0, .slice none 0 0, .slice none 0 0, .slice none 0 0, .int .i64 0, .int .i64 0, .int .i64 0, .int .i64 0, .string ⟨#[]⟩, .int .i64 0, .int .i64 0, .int .i64 0, .bool false] 31 (0, 0)) := al_new w _
  obtain ⟨X, hX⟩ : ∃ X, X = (w.alloc (.cells #[.string ⟨#[]⟩, .slice none 0 0, .slice none 0 0, .slice none 0 0, .slice none 0 0, .slice none 0 0, .int .i64 0, .int .i64 0, .int .i64 0, .int .i64 0, .string ⟨#[]⟩, .int .i64 0, .int .i64 0, .int .i64 0, .bool false] 31)).setRow w.heap.size #[.string ⟨#[]⟩, .slice none 0 0, .slice none 0 0, .slice none 0 0, .slice none 0 0, .slice none 0 0, .int .i64 0, .int .i64 0, .int .i64 0, .int .i64 0, .string ⟨#[47]⟩, .int .i64 1, .int .i64 0, .int .i64 0, .bool false] := ⟨_, rfl⟩
  have hst := run_storeVar_row (P := Tryz.prog) (w.alloc (.cells #[.string ⟨#[]⟩, .slice none 0 0, .slice none 0 0, .slice none 0 0, .slice none 0 0, .slice none 0 0, .int .i64 0, .int .i64 0, .int .i64 0, .int .i64 0, .string ⟨#[]⟩, .int .i64 0, .int .i64 0, .int .i64 0, .bool false] 31)) w.heap.size 31 31 _ #[.string ⟨#[]⟩, .slice none 0 0, .slice none 0 0, .slice none 0 0, .slice none 0 0, .slice none 0 0, .int .i64 0, .int .i64 0, .int .i64 0, .int .i64 0, .string ⟨#[47]⟩, .int .i64 1, .int .i64 0, .int .i64 0, .bool false] hx9 (by rw [HIE.out]; rfl) rfl (by simp [Value.oneCell'])
  rw [← hX] at hst
  have HB := Lib.hid (show Below w.heap.size w X by rw [hX]; exact rowB (balloc _ _) (Nat.le_refl _) _)
  have hx0 : X.heap[w.heap.size]? = some (.cells #[.string ⟨#[]⟩, .slice none 0 0, .slice none 0 0, .slice none 0 0, .slice none 0 0, .slice none 0 0, .int .i64 0, .int .i64 0, .int .i64 0, .int .i64 0, .string ⟨#[47]⟩, .int .i64 1, .int .i64 0, .int .i64 0, .bool false] 31 (0, 0)) := by rw [hX]; exact setRow_heap _ _ _ _ _ _ hx9
  have HXL := Lib.hid (Array.getElem?_eq_some_iff.1 hx0).1
  have e0 : X.cell? ⟨w.heap.size, 0, none⟩ = some (.string ⟨#[]⟩) := Lib.cell_of_heap hx0 0
  have e1 : X.cell? ⟨w.heap.size, 1, none⟩ = some (.slice none 0 0) := Lib.cell_of_heap hx0 1
  have e2 : X.cell? ⟨w.heap.size, 2, none⟩ = some (.slice none 0 0) := Lib.cell_of_heap hx0 2
  have e3 : X.cell? ⟨w.heap.size, 3, none⟩ = some (.slice none 0 0) := Lib.cell_of_heap hx0 3
  have e4 : X.cell? ⟨w.heap.size, 4, none⟩ = some (.slice none 0 0) := Lib.cell_of_heap hx0 4
  have e5 : X.cell? ⟨w.heap.size, 5, none⟩ = some (.slice none 0 0) := Lib.cell_of_heap hx0 5
  have e6 : X.cell? ⟨w.heap.size, 6, none⟩ = some (.int .i64 0) := Lib.cell_of_heap hx0 6
  have e7 : X.cell? ⟨w.heap.size, 7, none⟩ = some (.int .i64 0) := Lib.cell_of_heap hx0 7
  have e8 : X.cell? ⟨w.heap.size, 8, none⟩ = some (.int .i64 0) := Lib.cell_of_heap hx0 8
  have e9 : X.cell? ⟨w.heap.size, 9, none⟩ = some (.int .i64 0) := Lib.cell_of_heap hx0 9
  have e10 : X.cell? ⟨w.heap.size, 10, none⟩ = some (.string ⟨#[47]⟩) := Lib.cell_of_heap hx0 10
  have e11 : X.cell? ⟨w.heap.size, 11, none⟩ = some (.int .i64 1) := Lib.cell_of_heap hx0 11
  have e12 : X.cell? ⟨w.heap.size, 12, none⟩ = some (.int .i64 0) := Lib.cell_of_heap hx0 12
  have e13 : X.cell? ⟨w.heap.size, 13, none⟩ = some (.int .i64 0) := Lib.cell_of_heap hx0 13
  have e14 : X.cell? ⟨w.heap.size, 14, none⟩ = some (.bool false) := Lib.cell_of_heap hx0 14
  have HSL := Lib.hid (fun V (hV : Below X.heap.size X V) => show (V.cell? ⟨w.heap.size, 0, none⟩ = some (.string ⟨#[]⟩) ∧ V.cell? ⟨w.heap.size, 1, none⟩ = some (.slice none 0 0) ∧ V.cell? ⟨w.heap.size, 2, none⟩ = some (.slice none 0 0) ∧ V.cell? ⟨w.heap.size, 3, none⟩ = some (.slice none 0 0) ∧ V.cell? ⟨w.heap.size, 4, none⟩ = some (.slice none 0 0) ∧ V.cell? ⟨w.heap.size, 5, none⟩ = some (.slice none 0 0) ∧ V.cell? ⟨w.heap.size, 6, none⟩ = some (.int .i64 0) ∧ V.cell? ⟨w.heap.size, 7, none⟩ = some (.int .i64 0) ∧ V.cell? ⟨w.heap.size, 8, none⟩ = some (.int .i64 0) ∧ V.cell? ⟨w.heap.size, 9, none⟩ = some (.int .i64 0) ∧ V.cell? ⟨w.heap.size, 10, none⟩ = some (.string ⟨#[47]⟩) ∧ V.cell? ⟨w.heap.size, 11, none⟩ = some (.int .i64 1) ∧ V.cell? ⟨w.heap.size, 12, none⟩ = some (.int .i64 0) ∧ V.cell? ⟨w.heap.size, 13, none⟩ = some (.int .i64 0) ∧ V.cell? ⟨w.heap.size, 14, none⟩ = some (.bool false)) ∧ Below X.heap.size X V from ⟨⟨(hV.cell (p := ⟨w.heap.size, 0, none⟩) HXL.out).trans e0, (hV.cell (p := ⟨w.heap.size, 1, none⟩) HXL.out).trans e1, (hV.cell (p := ⟨w.heap.size, 2, none⟩) HXL.out).trans e2, (hV.cell (p := ⟨w.heap.size, 3, none⟩) HXL.out).trans e3, (hV.cell (p := ⟨w.heap.size, 4, none⟩) HXL.out).trans e4, (hV.cell (p := ⟨w.heap.size, 5, none⟩) HXL.out).trans e5, (hV.cell (p := ⟨w.heap.size, 6, none⟩) HXL.out).trans e6, (hV.cell (p := ⟨w.heap.size, 7, none⟩) HXL.out).trans e7, (hV.cell (p := ⟨w.heap.size, 8, none⟩) HXL.out).trans e8, (hV.cell (p := ⟨w.heap.size, 9, none⟩) HXL.out).trans e9, (hV.cell (p := ⟨w.heap.size, 10, none⟩) HXL.out).trans e10, (hV.cell (p := ⟨w.heap.size, 11, none⟩) HXL.out).trans e11, (hV.cell (p := ⟨w.heap.size, 12, none⟩) HXL.out).trans e12, (hV.cell (p := ⟨w.heap.size, 13, none⟩) HXL.out).trans e13, (hV.cell (p := ⟨w.heap.size, 14, none⟩) HXL.out).trans e14⟩, hV⟩)
  clear hX hx9 hx0 hiE hiR
  go_enter Tryz.func3, Tryz.ntmps3
  go_upto_region 4 with (fail)
  clear hst
  go_cut [4, 5] (fun x y wx => ∃ (p : Nat), x = .pointer (some ⟨p, 0, none⟩) ∧ y = .bool false ∧ Hid ((∃ R, wx.heap[p]? = some (.cells R 33 (0, 0)) ∧ Hid (R = #[.string ⟨#[]⟩, .slice none 0 0, .slice none 0 0, .slice none 0 0, .slice none 0 0, .slice none 0 0, .int .i64 0, .int .i64 0, .int .i64 0, .int .i64 0, .string ⟨#[]⟩, .int .i64 0, .int .i64 0, .int .i64 0, .bool false, .string ⟨#[]⟩, .string ⟨#[]⟩, .int .i64 0, .int .i64 0, .int .i64 0, .string ⟨#[]⟩, .slice none 0 0])) ∧ Below X.heap.size X wx))
  case first =>
    go_region_held3 (fun w' => (w'.cell? ⟨w.heap.size, 0, none⟩ = some (.string ⟨#[]⟩) ∧ w'.cell? ⟨w.heap.size, 1, none⟩ = some (.slice none 0 0) ∧ w'.cell? ⟨w.heap.size, 2, none⟩ = some (.slice none 0 0) ∧ w'.cell? ⟨w.heap.size, 3, none⟩ = some (.slice none 0 0) ∧ w'.cell? ⟨w.heap.size, 4, none⟩ = some (.slice none 0 0) ∧ w'.cell? ⟨w.heap.size, 5, none⟩ = some (.slice none 0 0) ∧ w'.cell? ⟨w.heap.size, 6, none⟩ = some (.int .i64 0) ∧ w'.cell? ⟨w.heap.size, 7, none⟩ = some (.int .i64 0) ∧ w'.cell? ⟨w.heap.size, 8, none⟩ = some (.int .i64 0) ∧ w'.cell? ⟨w.heap.size, 9, none⟩ = some (.int .i64 0) ∧ w'.cell? ⟨w.heap.size, 10, none⟩ = some (.string ⟨#[47]⟩) ∧ w'.cell? ⟨w.heap.size, 11, none⟩ = some (.int .i64 1) ∧ w'.cell? ⟨w.heap.size, 12, none⟩ = some (.int .i64 0) ∧ w'.cell? ⟨w.heap.size, 13, none⟩ = some (.int .i64 0) ∧ w'.cell? ⟨w.heap.size, 14, none⟩ = some (.bool false)) ∧ Below X.heap.size X w')
      (first | exact HSL.out _ (Below.refl _ _).drew | (go_split_ands; exact HSL.out _ (btr ‹Below X.heap.size X _› ‹_›)) | (go_split_ands; exact HSL.out _ (btr ‹Below X.heap.size X _› (balloc _ _))) | exact HSL.out _ HZB.out | exact HSL.out _ (btr HZB.out (balloc _ _)) | exact HSL.out _ (rowB (btr HZB.out (balloc _ _)) HZB.out.size _) | exact HSL.out _ (rowB HZB.out (by omega) _) | go_keep)
      (first | (go_at_call 6; go_split_ands; refine (HN.out _).mono ?_; rintro e Y ⟨rfl, rfl⟩) | (go_at_call 5; go_split_ands; refine (HRUN.out _ _ _ _ _ _ 0 ?_ ?_).mono ?_; (focus (first | omega | (simp; done) | (simp; omega) | fail)); (focus (first | exact Lib.cell_of_heap (al_new' _ _ _ (by simp)) 0 | exact Lib.cell_of_heap (hblk_a (al_new' _ _ _ (by simp))) 0 | exact Lib.cell_of_heap (hblk_a (hblk_a (al_new _ _))) 0 | fail)); rintro e Z ⟨⟨R, rfl, hrz, hrs, hr1⟩, hz⟩; have HZB := Lib.hid (btr ‹Below X.heap.size X _› hz); have HRR := Lib.hid (And.intro hrs hr1); first | (have hy0 : Z.heap[X.heap.size + 1 + 1]? = some (.cells #[.string ⟨#[]⟩, .slice none 0 0, .slice none 0 0, .slice none 0 0, .slice none 0 0, .slice none 0 0, .int .i64 0, .int .i64 0, .int .i64 0, .int .i64 0, .string ⟨#[]⟩, .int .i64 0, .int .i64 0, .int .i64 0, .bool false, .string ⟨#[]⟩, .string ⟨#[]⟩, .int .i64 0, .int .i64 0, .int .i64 0, .string ⟨#[]⟩, .slice none 0 0] 33 (0, 0)) := (hz.block _ (by first | (simp; done) | (simp; omega))).trans (al_new' _ _ _ (by simp)); have hst := HZR.out Z _ R hy0 hrs hr1; have HY0 := Lib.hid hy0; clear hy0) | (have hy0 : Z.heap[X.heap.size + 1]? = some (.cells #[.string ⟨#[]⟩, .slice none 0 0, .slice none 0 0, .slice none 0 0, .slice none 0 0, .slice none 0 0, .int .i64 0, .int .i64 0, .int .i64 0, .int .i64 0, .string ⟨#[]⟩, .int .i64 0, .int .i64 0, .int .i64 0, .bool false, .string ⟨#[]⟩, .string ⟨#[]⟩, .int .i64 0, .int .i64 0, .int .i64 0, .string ⟨#[]⟩, .slice none 0 0] 33 (0, 0)) := (hz.block _ (by first | (simp; done) | (simp; omega))).trans (hblk_a (al_new' _ _ _ (by simp))); have hst := HZR.out Z _ R hy0 hrs hr1; have HY0 := Lib.hid hy0; clear hy0) | (have hy0 : Z.heap[X.heap.size]? = some (.cells #[.string ⟨#[]⟩, .slice none 0 0, .slice none 0 0, .slice none 0 0, .slice none 0 0, .slice none 0 0, .int .i64 0, .int .i64 0, .int .i64 0, .int .i64 0, .string ⟨#[]⟩, .int .i64 0, .int .i64 0, .int .i64 0, .bool false, .string ⟨#[]⟩, .string ⟨#[]⟩, .int .i64 0, .int .i64 0, .int .i64 0, .string ⟨#[]⟩, .slice none 0 0] 33 (0, 0)) := (hz.block _ (by first | (simp; done) | (simp; omega))).trans (hblk_a (hblk_a (al_new _ _))); have hst := HZR.out Z _ R hy0 hrs hr1; have HY0 := Lib.hid hy0; clear hy0) | (have hst := HZR.out (Z.alloc (.cells #[.string ⟨#[]⟩, .slice none 0 0, .slice none 0 0, .slice none 0 0, .slice none 0 0, .slice none 0 0, .int .i64 0, .int .i64 0, .int .i64 0, .int .i64 0, .string ⟨#[]⟩, .int .i64 0, .int .i64 0, .int .i64 0, .bool false, .string ⟨#[]⟩, .string ⟨#[]⟩, .int .i64 0, .int .i64 0, .int .i64 0, .string ⟨#[]⟩, .slice none 0 0] 33)) Z.heap.size R (al_new Z _) hrs hr1) | fail) | fail)
    all_goals (repeat go_step)
    all_goals go_meet
    all_goals first
      | exact ⟨_, rfl, rfl, Lib.hid ⟨⟨_, setRow_heap _ _ _ _ _ _ (al_new Z _), hrz⟩, rowB (btr HZB.out (balloc _ _)) HZB.out.size _⟩⟩
      | exact ⟨_, rfl, rfl, Lib.hid ⟨⟨_, setRow_heap _ _ _ _ _ _ HY0.out, hrz⟩, rowB HZB.out (by omega) _⟩⟩
  case rest =>
    obtain ⟨p, rfl, rfl, HP⟩ := hcut
    generalize wc = wa at *
    have HWL := Lib.hid (Nat.lt_of_lt_of_le HXL.out HP.out.2.size)
    clear e0 e1 e2 e3 e4 e5 e6 e7 e8 e9 e10 e11 e12 e13 e14
    obtain ⟨⟨e0, e1, e2, e3, e4, e5, e6, e7, e8, e9, e10, e11, e12, e13, e14⟩, -⟩ := HSL.out wa HP.out.2
    have HSM := Lib.hid (fun V (hV : Below wa.heap.size wa V) => show (V.cell? ⟨w.heap.size, 0, none⟩ = some (.string ⟨#[]⟩) ∧ V.cell? ⟨w.heap.size, 1, none⟩ = some (.slice none 0 0) ∧ V.cell? ⟨w.heap.size, 2, none⟩ = some (.slice none 0 0) ∧ V.cell? ⟨w.heap.size, 3, none⟩ = some (.slice none 0 0) ∧ V.cell? ⟨w.heap.size, 4, none⟩ = some (.slice none 0 0) ∧ V.cell? ⟨w.heap.size, 5, none⟩ = some (.slice none 0 0) ∧ V.cell? ⟨w.heap.size, 6, none⟩ = some (.int .i64 0) ∧ V.cell? ⟨w.heap.size, 7, none⟩ = some (.int .i64 0) ∧ V.cell? ⟨w.heap.size, 8, none⟩ = some (.int .i64 0) ∧ V.cell? ⟨w.heap.size, 9, none⟩ = some (.int .i64 0) ∧ V.cell? ⟨w.heap.size, 10, none⟩ = some (.string ⟨#[47]⟩) ∧ V.cell? ⟨w.heap.size, 11, none⟩ = some (.int .i64 1) ∧ V.cell? ⟨w.heap.size, 12, none⟩ = some (.int .i64 0) ∧ V.cell? ⟨w.heap.size, 13, none⟩ = some (.int .i64 0) ∧ V.cell? ⟨w.heap.size, 14, none⟩ = some (.bool false)) ∧ Below wa.heap.size wa V from ⟨(HSL.out V (btr HP.out.2 hV)).1, hV⟩)
    go_upto_region 5 with (fail)
    go_cut [6, 7] (fun x y wx => ∃ (p2 : Nat), x = .pointer (some ⟨p2, 0, none⟩) ∧ y = .bool false ∧ Hid (Below wa.heap.size wa wx))
    case first =>
      go_region_held3 (fun w' => (w'.cell? ⟨w.heap.size, 0, none⟩ = some (.string ⟨#[]⟩) ∧ w'.cell? ⟨w.heap.size, 1, none⟩ = some (.slice none 0 0) ∧ w'.cell? ⟨w.heap.size, 2, none⟩ = some (.slice none 0 0) ∧ w'.cell? ⟨w.heap.size, 3, none⟩ = some (.slice none 0 0) ∧ w'.cell? ⟨w.heap.size, 4, none⟩ = some (.slice none 0 0) ∧ w'.cell? ⟨w.heap.size, 5, none⟩ = some (.slice none 0 0) ∧ w'.cell? ⟨w.heap.size, 6, none⟩ = some (.int .i64 0) ∧ w'.cell? ⟨w.heap.size, 7, none⟩ = some (.int .i64 0) ∧ w'.cell? ⟨w.heap.size, 8, none⟩ = some (.int .i64 0) ∧ w'.cell? ⟨w.heap.size, 9, none⟩ = some (.int .i64 0) ∧ w'.cell? ⟨w.heap.size, 10, none⟩ = some (.string ⟨#[47]⟩) ∧ w'.cell? ⟨w.heap.size, 11, none⟩ = some (.int .i64 1) ∧ w'.cell? ⟨w.heap.size, 12, none⟩ = some (.int .i64 0) ∧ w'.cell? ⟨w.heap.size, 13, none⟩ = some (.int .i64 0) ∧ w'.cell? ⟨w.heap.size, 14, none⟩ = some (.bool false)) ∧ Below wa.heap.size wa w')
        (first | exact HSM.out _ (Below.refl _ _).drew | (go_split_ands; exact HSM.out _ (btr ‹Below wa.heap.size wa _› ‹_›)) | (go_split_ands; exact HSM.out _ (btr ‹Below wa.heap.size wa _› (balloc _ _))) | exact HSM.out _ HZB.out | exact HSM.out _ (btr HZB.out (balloc _ _)) | exact HSM.out _ (rowB (btr HZB.out (balloc _ _)) HZB.out.size _) | exact HSM.out _ (rowB HZB.out (by omega) _) | go_keep)
        (first | (go_at_call 6; go_split_ands; refine (HN.out _).mono ?_; rintro e Y ⟨rfl, rfl⟩) | (go_at_call 5; go_split_ands; refine (HNONE.out _ _ _ _).mono ?_; rintro e Z ⟨rfl, hz⟩; have HZB := Lib.hid (btr ‹Below wa.heap.size wa _› hz); first | (have hy0 : Z.heap[wa.heap.size + 1]? = some (.cells #[.string ⟨#[]⟩, .slice none 0 0, .slice none 0 0, .slice none 0 0, .slice none 0 0, .slice none 0 0, .int .i64 0, .int .i64 0, .int .i64 0, .int .i64 0, .string ⟨#[]⟩, .int .i64 0, .int .i64 0, .int .i64 0, .bool false, .string ⟨#[]⟩, .string ⟨#[]⟩, .int .i64 0, .int .i64 0, .int .i64 0, .string ⟨#[]⟩, .slice none 0 0] 33 (0, 0)) := (hz.block _ (by first | (simp; done) | (simp; omega))).trans (al_new' _ _ _ (by simp)); have hst := HZR.out Z _ #[.string ⟨#[]⟩, .slice none 0 0, .slice none 0 0, .slice none 0 0, .slice none 0 0, .slice none 0 0, .int .i64 0, .int .i64 0, .int .i64 0, .int .i64 0, .string ⟨#[]⟩, .int .i64 0, .int .i64 0, .int .i64 0, .bool false, .string ⟨#[]⟩, .string ⟨#[]⟩, .int .i64 0, .int .i64 0, .int .i64 0, .string ⟨#[]⟩, .slice none 0 0] hy0 rfl HZ1.out; have HY0 := Lib.hid hy0; clear hy0) | (have hy0 : Z.heap[wa.heap.size]? = some (.cells #[.string ⟨#[]⟩, .slice none 0 0, .slice none 0 0, .slice none 0 0, .slice none 0 0, .slice none 0 0, .int .i64 0, .int .i64 0, .int .i64 0, .int .i64 0, .string ⟨#[]⟩, .int .i64 0, .int .i64 0, .int .i64 0, .bool false, .string ⟨#[]⟩, .string ⟨#[]⟩, .int .i64 0, .int .i64 0, .int .i64 0, .string ⟨#[]⟩, .slice none 0 0] 33 (0, 0)) := (hz.block _ (by first | (simp; done) | (simp; omega))).trans (hblk_a (al_new _ _)); have hst := HZR.out Z _ #[.string ⟨#[]⟩, .slice none 0 0, .slice none 0 0, .slice none 0 0, .slice none 0 0, .slice none 0 0, .int .i64 0, .int .i64 0, .int .i64 0, .int .i64 0, .string ⟨#[]⟩, .int .i64 0, .int .i64 0, .int .i64 0, .bool false, .string ⟨#[]⟩, .string ⟨#[]⟩, .int .i64 0, .int .i64 0, .int .i64 0, .string ⟨#[]⟩, .slice none 0 0] hy0 rfl HZ1.out; have HY0 := Lib.hid hy0; clear hy0) | (have hst := HZR.out (Z.alloc (.cells #[.string ⟨#[]⟩, .slice none 0 0, .slice none 0 0, .slice none 0 0, .slice none 0 0, .slice none 0 0, .int .i64 0, .int .i64 0, .int .i64 0, .int .i64 0, .string ⟨#[]⟩, .int .i64 0, .int .i64 0, .int .i64 0, .bool false, .string ⟨#[]⟩, .string ⟨#[]⟩, .int .i64 0, .int .i64 0, .int .i64 0, .string ⟨#[]⟩, .slice none 0 0] 33)) Z.heap.size #[.string ⟨#[]⟩, .slice none 0 0, .slice none 0 0, .slice none 0 0, .slice none 0 0, .slice none 0 0, .int .i64 0, .int .i64 0, .int .i64 0, .int .i64 0, .string ⟨#[]⟩, .int .i64 0, .int .i64 0, .int .i64 0, .bool false, .string ⟨#[]⟩, .string ⟨#[]⟩, .int .i64 0, .int .i64 0, .int .i64 0, .string ⟨#[]⟩, .slice none 0 0] (al_new Z _) rfl HZ1.out) | fail) | fail)
      all_goals (repeat go_step)
      all_goals go_meet
      all_goals first
        | exact ⟨_, rfl, rfl, Lib.hid (rowB (btr HZB.out (balloc _ _)) HZB.out.size _)⟩
        | exact ⟨_, rfl, rfl, Lib.hid (rowB HZB.out (by omega) _)⟩
    case rest =>
      obtain ⟨p2, rfl, rfl, HP2⟩ := hcut
      have HW2 := Lib.hid (show Below w.heap.size w wc from btr HB.out (btr HP.out.2 HP2.out))
      clear e0 e1 e2 e3 e4 e5 e6 e7 e8 e9 e10 e11 e12 e13 e14
      go_wp2_with (fail)
      refine (HK1.out _).mono ?_
      rintro e U1 ⟨rfl, hu⟩
      obtain rfl : wc = U1 := hu.symm
      go_wp2_with (fail)
      refine (HK2.out _).mono ?_
      rintro e U1 ⟨rfl, hu1⟩
      have HU1 := Lib.hid hu1
      clear hu1
      go_wp2_with (fail)
      refine (HS1.out _).mono ?_
      rintro e U2 ⟨rfl, hu⟩
      obtain rfl : U1 = U2 := hu.symm
      go_wp2_with (fail)
      refine (HS2.out _).mono ?_
      rintro e U2 ⟨rfl, hu2⟩
      have HU2 := Lib.hid (btr HU1.out hu2)
      clear hu2
      go_wp2_with (fail)
      refine (HK1.out _).mono ?_
      rintro e U3 ⟨rfl, hu⟩
      obtain rfl : U2 = U3 := hu.symm
      obtain ⟨R, hpb, hrz⟩ := HP.out.1
      have hpb2 := (HU2.out.block _ (Array.getElem?_eq_some_iff.1 ((HP2.out.block _ (Array.getElem?_eq_some_iff.1 hpb).1).trans hpb)).1).trans ((HP2.out.block _ (Array.getElem?_eq_some_iff.1 hpb).1).trans hpb)
      obtain rfl := hrz.out
      have HPB2 := Lib.hid hpb2
      have HSAME := Lib.hid (sameResult_zero U2)
      clear hpb hpb2 hrz
      go_wp2_with (refine wpList_load_row_g rfl 33 _ rfl p rfl 33 _ (0, 0) _ HPB2.out Tryz.underlying33 rfl (by rw [HIR.out]; rfl) ?_)
      refine HSAME.out.mono ?_
      rintro e U3 ⟨rfl, hu3⟩
      have HU3 := Lib.hid (btr HU2.out hu3)
      have HAX := Lib.hid (HA.out U3 (btr HW2.out HU3.out))
      clear hu3
      go_wp2_with (fail)
      refine (HS1.out _).mono ?_
      rintro e U4 ⟨rfl, hu⟩
      obtain rfl : U3 = U4 := hu.symm
      go_wp2_with (fail)
      refine HAX.out.mono ?_
      rintro e U4 ⟨rfl, hu4⟩
      have HU4 := Lib.hid hu4
      clear hu4
      go_wp2
      go_ret
      exact ⟨rfl, btr HW2.out (btr HU3.out HU4.out)⟩
end W
end Go.Proofs.YtcbebkeakkahgaaGreatDoor
