/- Built-in commands: the chapter's examples; printed by gen38z.py. -/
import Derived.Test.YtcbebkeakkahgaaGreatDoorW38r
import Derived.Test.YtcbebkeakkahgaaGreatDoorW37w
namespace Go.Proofs.YtcbebkeakkahgaaGreatDoor
open Go.RowKit K
namespace W
set_option maxRecDepth 100000
theorem sv_abc (w : World) (T : TypeId) (X : World) (hx : X.heap[w.heap.size]? = some (.cells #[.string ⟨#[97]⟩, .string ⟨#[98]⟩, .string ⟨#[99]⟩] T (0, 0))) : SV X (.slice (some ⟨w.heap.size, 0, none⟩) 3 3) [[97], [98], [99]] := by
  refine ⟨_, 3, rfl, by decide, .inr ⟨w.heap.size, 0, rfl, (Array.getElem?_eq_some_iff.1 hx).1, ?_⟩⟩
  intro i x hi j u hu
  match j, hu with
  | 0, hu =>
    injection hu with hu
    subst hu
    match i, hi with
    | 0, hi => injection hi with hi; subst hi; exact Lib.cell_of_heap hx 0
    | 1, hi => injection hi with hi; subst hi; exact Lib.cell_of_heap hx 1
    | 2, hi => injection hi with hi; subst hi; exact Lib.cell_of_heap hx 2
theorem box_cell {X : World} {p : Nat} {R : Array Value} {T : TypeId} (h : X.heap[p]? = some (.cells R T (0, 0))) {i : Nat} {v : Value} (hv : R[i]? = some v) : X.cell? ⟨p, i, none⟩ = some v := by
  rw [cell_of_row X p i _ T (0, 0) h, hv]
attribute [-go_sem] storeVar
set_option maxHeartbeats 8000000 in
theorem awake_any (w : World) (hw : Env w) : Calls Tryz.prog 4 #[] w fun e w' => e = .returned (.bool true) ∧ Below w.heap.size w w' := by
  have hiE : (Tryz.prog.info? 31).map (·.size) = some 15 := by kernel_rfl
  have hiR : (Tryz.prog.info? 33).map (·.size) = some 22 := by kernel_rfl
  have HIE := Lib.hid hiE
  have HIR := Lib.hid hiR
  have hx9 : ((w.alloc (.cells #[.string ⟨#[97]⟩, .string ⟨#[98]⟩, .string ⟨#[99]⟩] 9)).alloc (.cells #[.string ⟨#[]⟩, .slice none 0 0, .slice none 0 0, .slice none 0 0, .slice none 0 0, .slice none 0 0, .int .i64 0, .int .i64 0, .int .i64 0, .int .i64 0, .string ⟨#[]⟩, .int .i64 0, .int .i64 0, .int .i64 0, .bool false] 31)).heap[w.heap.size + 1]? = some (.cells #[.string ⟨#[]⟩, .slice none 0 0, .slice none 0 0, .slice none 0 0, .slice none 0 0, .slice none 0 0, .int .i64 0, .int .i64 0, .int .i64 0, .int .i64 0, .string ⟨#[]⟩, .int .i64 0, .int .i64 0, .int .i64 0, .bool false] 31 (0, 0)) := al_new' _ _ _ (by simp)
  obtain ⟨X, hX⟩ : ∃ X, X = ((w.alloc (.cells #[.string ⟨#[97]⟩, .string ⟨#[98]⟩, .string ⟨#[99]⟩] 9)).alloc (.cells #[.string ⟨#[]⟩, .slice none 0 0, .slice none 0 0, .slice none 0 0, .slice none 0 0, .slice none 0 0, .int .i64 0, .int .i64 0, .int .i64 0, .int .i64 0, .string ⟨#[]⟩, .int .i64 0, .int .i64 0, .int .i64 0, .bool false] 31)).setRow (w.heap.size + 1) #[.string ⟨#[]⟩, .slice none 0 0, .slice (some ⟨w.heap.size, 0, none⟩) 3 3, .slice none 0 0, .slice none 0 0, .slice none 0 0, .int .i64 0, .int .i64 0, .int .i64 0, .int .i64 0, .string ⟨#[47]⟩, .int .i64 1, .int .i64 0, .int .i64 0, .bool false] := ⟨_, rfl⟩
  have hst := run_storeVar_row (P := Tryz.prog) ((w.alloc (.cells #[.string ⟨#[97]⟩, .string ⟨#[98]⟩, .string ⟨#[99]⟩] 9)).alloc (.cells #[.string ⟨#[]⟩, .slice none 0 0, .slice none 0 0, .slice none 0 0, .slice none 0 0, .slice none 0 0, .int .i64 0, .int .i64 0, .int .i64 0, .int .i64 0, .string ⟨#[]⟩, .int .i64 0, .int .i64 0, .int .i64 0, .bool false] 31)) (w.heap.size + 1) 31 31 _ #[.string ⟨#[]⟩, .slice none 0 0, .slice (some ⟨w.heap.size, 0, none⟩) 3 3, .slice none 0 0, .slice none 0 0, .slice none 0 0, .int .i64 0, .int .i64 0, .int .i64 0, .int .i64 0, .string ⟨#[47]⟩, .int .i64 1, .int .i64 0, .int .i64 0, .bool false] hx9 (by rw [HIE.out]; rfl) rfl (by simp [Value.oneCell'])
  rw [← hX] at hst
  have HBX := Lib.hid (show Below w.heap.size w X by rw [hX]; exact rowB (btr (balloc _ _) (balloc _ _)) (Nat.le_succ _) _)
  have HX0 := Lib.hid (show X.heap[w.heap.size]? = some (.cells #[.string ⟨#[97]⟩, .string ⟨#[98]⟩, .string ⟨#[99]⟩] 9 (0, 0)) by rw [hX, setRow_other _ _ _ _ (by omega)]; exact hblk_a (al_new w _))
  have HX1 := Lib.hid (show X.heap[w.heap.size + 1]? = some (.cells #[.string ⟨#[]⟩, .slice none 0 0, .slice (some ⟨w.heap.size, 0, none⟩) 3 3, .slice none 0 0, .slice none 0 0, .slice none 0 0, .int .i64 0, .int .i64 0, .int .i64 0, .int .i64 0, .string ⟨#[47]⟩, .int .i64 1, .int .i64 0, .int .i64 0, .bool false] 31 (0, 0)) by rw [hX]; exact setRow_heap _ _ _ _ _ _ hx9)
  have HSV := Lib.hid (fun U (hU : Below X.heap.size X U) => (sv_abc w _ X HX0.out).below hU)
  have HEV := Lib.hid (fun U (hU : Below X.heap.size X U) => (hw.below HBX.out).below hU)
  have HEN := Lib.hid (fun U (hU : Below X.heap.size X U) => (hU.block _ (Array.getElem?_eq_some_iff.1 HX1.out).1).trans HX1.out)
  have HNF := Lib.hid (newF_any X)
  have HZR := Lib.hid (fun (Z : World) (R : Array Value) (h1 : R.size = 22) (h2 : R.all (·.oneCell') = true) => run_storeVar_row (P := Tryz.prog) (Z.alloc (.cells #[.string ⟨#[]⟩, .slice none 0 0, .slice none 0 0, .slice none 0 0, .slice none 0 0, .slice none 0 0, .int .i64 0, .int .i64 0, .int .i64 0, .int .i64 0, .string ⟨#[]⟩, .int .i64 0, .int .i64 0, .int .i64 0, .bool false, .string ⟨#[]⟩, .string ⟨#[]⟩, .int .i64 0, .int .i64 0, .int .i64 0, .string ⟨#[]⟩, .slice none 0 0] 33)) Z.heap.size 33 33 _ R (al_new Z _) (by rw [HIR.out, h1]) (by rw [h1]; rfl) h2)
  clear hX hx9 hiE hiR hw
  go_enter Tryz.func4, Tryz.ntmps4
  go_upto_region 2 with (fail)
  clear hst
  go_wp2_with fail
  refine HNF.out.mono ?_
  rintro e X2 ⟨rfl, hx2⟩
  have B2 := Lib.hid (show Below X.heap.size X X2 by rw [hx2]; exact balloc _ _)
  clear hx2
  have HE3 := Lib.hid (HEN.out X2 B2.out)
  go_wp2_with (refine wpList_load_row rfl 31 _ rfl (w.heap.size + 1) rfl 31 _ (0, 0) _ HE3.out Tryz.underlying31 rfl (by rw [HIE.out]; rfl) ?_)
  refine (Run_shift2 (V := X2) (HEV.out X2 B2.out) (HSV.out X2 B2.out) rfl).mono ?_
  rintro e Z3 ⟨⟨R3, rfl, hs, ho, hf⟩, hb⟩
  have HF3 := Lib.hid hf
  obtain ⟨X3, hX3⟩ : ∃ X', X' = (Z3.alloc (.cells #[.string ⟨#[]⟩, .slice none 0 0, .slice none 0 0, .slice none 0 0, .slice none 0 0, .slice none 0 0, .int .i64 0, .int .i64 0, .int .i64 0, .int .i64 0, .string ⟨#[]⟩, .int .i64 0, .int .i64 0, .int .i64 0, .bool false, .string ⟨#[]⟩, .string ⟨#[]⟩, .int .i64 0, .int .i64 0, .int .i64 0, .string ⟨#[]⟩, .slice none 0 0] 33)).setRow Z3.heap.size R3 := ⟨_, rfl⟩
  have hst3 := HZR.out Z3 R3 hs ho
  rw [← hX3] at hst3
  have K3 := Lib.hid (show X3.heap[Z3.heap.size]? = some (.cells R3 33 (0, 0)) by rw [hX3]; exact setRow_heap _ _ _ _ _ _ (al_new _ _))
  have C3 := Lib.hid (show Below X2.heap.size X2 X3 by rw [hX3]; exact rowB (btr hb (balloc _ _)) hb.size _)
  have B3 := Lib.hid (btr B2.out C3.out)
  have D3 := Lib.hid (show Below Z3.heap.size Z3 X3 by rw [hX3]; exact rowB (balloc _ _) (Nat.le_refl _) _)
  clear hX3 hf hb hs ho
  go_upto_region 4 with (fail)
  clear hst3
  have HE4 := Lib.hid (HEN.out X3 B3.out)
  go_wp2_with (refine wpList_load_row rfl 31 _ rfl (w.heap.size + 1) rfl 31 _ (0, 0) _ HE4.out Tryz.underlying31 rfl (by rw [HIE.out]; rfl) ?_)
  refine (Run_shiftx (V := X3) (HEV.out X3 B3.out) (HSV.out X3 B3.out) rfl).mono ?_
  rintro e Z4 ⟨⟨R4, rfl, hs, ho, hf⟩, hb⟩
  have HF4 := Lib.hid hf
  obtain ⟨X4, hX4⟩ : ∃ X', X' = (Z4.alloc (.cells #[.string ⟨#[]⟩, .slice none 0 0, .slice none 0 0, .slice none 0 0, .slice none 0 0, .slice none 0 0, .int .i64 0, .int .i64 0, .int .i64 0, .int .i64 0, .string ⟨#[]⟩, .int .i64 0, .int .i64 0, .int .i64 0, .bool false, .string ⟨#[]⟩, .string ⟨#[]⟩, .int .i64 0, .int .i64 0, .int .i64 0, .string ⟨#[]⟩, .slice none 0 0] 33)).setRow Z4.heap.size R4 := ⟨_, rfl⟩
  have hst4 := HZR.out Z4 R4 hs ho
  rw [← hX4] at hst4
  have K4 := Lib.hid (show X4.heap[Z4.heap.size]? = some (.cells R4 33 (0, 0)) by rw [hX4]; exact setRow_heap _ _ _ _ _ _ (al_new _ _))
  have C4 := Lib.hid (show Below X3.heap.size X3 X4 by rw [hX4]; exact rowB (btr hb (balloc _ _)) hb.size _)
  have B4 := Lib.hid (btr B3.out C4.out)
  have D4 := Lib.hid (show Below Z4.heap.size Z4 X4 by rw [hX4]; exact rowB (balloc _ _) (Nat.le_refl _) _)
  clear hX4 hf hb hs ho
  go_upto_region 5 with (fail)
  clear hst4
  have HE5 := Lib.hid (HEN.out X4 B4.out)
  go_wp2_with (refine wpList_load_row rfl 31 _ rfl (w.heap.size + 1) rfl 31 _ (0, 0) _ HE5.out Tryz.underlying31 rfl (by rw [HIE.out]; rfl) ?_)
  refine (Run_set (V := X4) (HEV.out X4 B4.out) (HSV.out X4 B4.out) rfl).mono ?_
  rintro e Z5 ⟨⟨R5, rfl, hs, ho, hf⟩, hb⟩
  have HF5 := Lib.hid hf
  obtain ⟨X5, hX5⟩ : ∃ X', X' = (Z5.alloc (.cells #[.string ⟨#[]⟩, .slice none 0 0, .slice none 0 0, .slice none 0 0, .slice none 0 0, .slice none 0 0, .int .i64 0, .int .i64 0, .int .i64 0, .int .i64 0, .string ⟨#[]⟩, .int .i64 0, .int .i64 0, .int .i64 0, .bool false, .string ⟨#[]⟩, .string ⟨#[]⟩, .int .i64 0, .int .i64 0, .int .i64 0, .string ⟨#[]⟩, .slice none 0 0] 33)).setRow Z5.heap.size R5 := ⟨_, rfl⟩
  have hst5 := HZR.out Z5 R5 hs ho
  rw [← hX5] at hst5
  have K5 := Lib.hid (show X5.heap[Z5.heap.size]? = some (.cells R5 33 (0, 0)) by rw [hX5]; exact setRow_heap _ _ _ _ _ _ (al_new _ _))
  have C5 := Lib.hid (show Below X4.heap.size X4 X5 by rw [hX5]; exact rowB (btr hb (balloc _ _)) hb.size _)
  have B5 := Lib.hid (btr B4.out C5.out)
  have D5 := Lib.hid (show Below Z5.heap.size Z5 X5 by rw [hX5]; exact rowB (balloc _ _) (Nat.le_refl _) _)
  clear hX5 hf hb hs ho
  go_upto_region 6 with (fail)
  clear hst5
  have HE6 := Lib.hid (HEN.out X5 B5.out)
  go_wp2_with (refine wpList_load_row rfl 31 _ rfl (w.heap.size + 1) rfl 31 _ (0, 0) _ HE6.out Tryz.underlying31 rfl (by rw [HIE.out]; rfl) ?_)
  refine (Run_kill (V := X5) (HEV.out X5 B5.out) (HSV.out X5 B5.out) rfl).mono ?_
  rintro e Z6 ⟨⟨R6, rfl, hs, ho, hf⟩, hb⟩
  have HF6 := Lib.hid hf
  obtain ⟨X6, hX6⟩ : ∃ X', X' = (Z6.alloc (.cells #[.string ⟨#[]⟩, .slice none 0 0, .slice none 0 0, .slice none 0 0, .slice none 0 0, .slice none 0 0, .int .i64 0, .int .i64 0, .int .i64 0, .int .i64 0, .string ⟨#[]⟩, .int .i64 0, .int .i64 0, .int .i64 0, .bool false, .string ⟨#[]⟩, .string ⟨#[]⟩, .int .i64 0, .int .i64 0, .int .i64 0, .string ⟨#[]⟩, .slice none 0 0] 33)).setRow Z6.heap.size R6 := ⟨_, rfl⟩
  have hst6 := HZR.out Z6 R6 hs ho
  rw [← hX6] at hst6
  have K6 := Lib.hid (show X6.heap[Z6.heap.size]? = some (.cells R6 33 (0, 0)) by rw [hX6]; exact setRow_heap _ _ _ _ _ _ (al_new _ _))
  have C6 := Lib.hid (show Below X5.heap.size X5 X6 by rw [hX6]; exact rowB (btr hb (balloc _ _)) hb.size _)
  have B6 := Lib.hid (btr B5.out C6.out)
  have D6 := Lib.hid (show Below Z6.heap.size Z6 X6 by rw [hX6]; exact rowB (balloc _ _) (Nat.le_refl _) _)
  clear hX6 hf hb hs ho
  go_upto_region 7 with (fail)
  clear hst6
  have HE7 := Lib.hid (HEN.out X6 B6.out)
  go_wp2_with (refine wpList_load_row rfl 31 _ rfl (w.heap.size + 1) rfl 31 _ (0, 0) _ HE7.out Tryz.underlying31 rfl (by rw [HIE.out]; rfl) ?_)
  refine (Run_export (V := X6) (HEV.out X6 B6.out) (HSV.out X6 B6.out) rfl).mono ?_
  rintro e Z7 ⟨⟨R7, rfl, hs, ho, hf⟩, hb⟩
  have HF7 := Lib.hid hf
  obtain ⟨X7, hX7⟩ : ∃ X', X' = (Z7.alloc (.cells #[.string ⟨#[]⟩, .slice none 0 0, .slice none 0 0, .slice none 0 0, .slice none 0 0, .slice none 0 0, .int .i64 0, .int .i64 0, .int .i64 0, .int .i64 0, .string ⟨#[]⟩, .int .i64 0, .int .i64 0, .int .i64 0, .bool false, .string ⟨#[]⟩, .string ⟨#[]⟩, .int .i64 0, .int .i64 0, .int .i64 0, .string ⟨#[]⟩, .slice none 0 0] 33)).setRow Z7.heap.size R7 := ⟨_, rfl⟩
  have hst7 := HZR.out Z7 R7 hs ho
  rw [← hX7] at hst7
  have K7 := Lib.hid (show X7.heap[Z7.heap.size]? = some (.cells R7 33 (0, 0)) by rw [hX7]; exact setRow_heap _ _ _ _ _ _ (al_new _ _))
  have C7 := Lib.hid (show Below X6.heap.size X6 X7 by rw [hX7]; exact rowB (btr hb (balloc _ _)) hb.size _)
  have B7 := Lib.hid (btr B6.out C7.out)
  have D7 := Lib.hid (show Below Z7.heap.size Z7 X7 by rw [hX7]; exact rowB (balloc _ _) (Nat.le_refl _) _)
  clear hX7 hf hb hs ho
  go_upto_region 8 with (fail)
  clear hst7
  have HE8 := Lib.hid (HEN.out X7 B7.out)
  have HR8 := Lib.hid (fun (V : World) FA fn fc PA pn pc => Run_unknown (b := V.heap.size) (off := 0) (n := 0) (c := 0) (nm := [108, 115]) (w := V.alloc (.cells #[.string ⟨#[108, 115]⟩] 9)) (FA := FA) (fn := fn) (fc := fc) (PA := PA) (pn := pn) (pc := pc) (by simp) (Lib.cell_of_heap (al_new V _) 0) (by decide))
  go_wp2_with (refine wpList_load_row rfl 31 _ rfl (w.heap.size + 1) rfl 31 _ (0, 0) _ HE8.out Tryz.underlying31 rfl (by rw [HIE.out]; rfl) ?_)
  refine (HR8.out X7 _ _ _ _ _ _).mono ?_
  rintro e Z8 ⟨rfl, hb⟩
  have hb8 : Below X7.heap.size X7 Z8 := btr (balloc _ _) hb
  obtain ⟨X8, hX8⟩ : ∃ X', X' = (Z8.alloc (.cells #[.string ⟨#[]⟩, .slice none 0 0, .slice none 0 0, .slice none 0 0, .slice none 0 0, .slice none 0 0, .int .i64 0, .int .i64 0, .int .i64 0, .int .i64 0, .string ⟨#[]⟩, .int .i64 0, .int .i64 0, .int .i64 0, .bool false, .string ⟨#[]⟩, .string ⟨#[]⟩, .int .i64 0, .int .i64 0, .int .i64 0, .string ⟨#[]⟩, .slice none 0 0] 33)).setRow Z8.heap.size #[.string ⟨#[]⟩, .slice none 0 0, .slice none 0 0, .slice none 0 0, .slice none 0 0, .slice none 0 0, .int .i64 0, .int .i64 0, .int .i64 0, .int .i64 0, .string ⟨#[]⟩, .int .i64 0, .int .i64 0, .int .i64 0, .bool false, .string ⟨#[]⟩, .string ⟨#[]⟩, .int .i64 0, .int .i64 0, .int .i64 0, .string ⟨#[]⟩, .slice none 0 0] := ⟨_, rfl⟩
  have hst8 := HZR.out Z8 #[.string ⟨#[]⟩, .slice none 0 0, .slice none 0 0, .slice none 0 0, .slice none 0 0, .slice none 0 0, .int .i64 0, .int .i64 0, .int .i64 0, .int .i64 0, .string ⟨#[]⟩, .int .i64 0, .int .i64 0, .int .i64 0, .bool false, .string ⟨#[]⟩, .string ⟨#[]⟩, .int .i64 0, .int .i64 0, .int .i64 0, .string ⟨#[]⟩, .slice none 0 0] rfl (by simp [Value.oneCell'])
  rw [← hX8] at hst8
  have C8 := Lib.hid (show Below X7.heap.size X7 X8 by rw [hX8]; exact rowB (btr hb8 (balloc _ _)) hb8.size _)
  clear hX8 hb hb8
  go_upto_region 9 with (fail)
  clear hst8
  obtain ⟨A3, c3, h3⟩ := HF3.out
  obtain ⟨h4, k4⟩ := HF4.out
  obtain ⟨h5, A5, c5, k5⟩ := HF5.out
  obtain ⟨h6, k6, A6, c6, m6⟩ := HF6.out
  obtain ⟨b7, o7, c7, h7, k7⟩ := HF7.out
  have f3_2 : X8.cell? ⟨Z3.heap.size, 2, none⟩ = some (.slice A3 1 c3) := ((btr C4.out (btr C5.out (btr C6.out (btr C7.out C8.out)))).cell (p := ⟨Z3.heap.size, 2, none⟩) (Array.getElem?_eq_some_iff.1 K3.out).1).trans (box_cell K3.out h3)
  have f4_16 : X8.cell? ⟨Z4.heap.size, 16, none⟩ = some (.string ⟨#[115, 104, 105, 102, 116, 58, 32, 120, 58, 32, 98, 97, 100, 32, 110, 117, 109, 98, 101, 114, 10]⟩) := ((btr C5.out (btr C6.out (btr C7.out C8.out))).cell (p := ⟨Z4.heap.size, 16, none⟩) (Array.getElem?_eq_some_iff.1 K4.out).1).trans (box_cell K4.out h4)
  have f4_17 : X8.cell? ⟨Z4.heap.size, 17, none⟩ = some (.int .i64 2) := ((btr C5.out (btr C6.out (btr C7.out C8.out))).cell (p := ⟨Z4.heap.size, 17, none⟩) (Array.getElem?_eq_some_iff.1 K4.out).1).trans (box_cell K4.out k4)
  have f5_6 : X8.cell? ⟨Z5.heap.size, 6, none⟩ = some (.int .i64 3) := ((btr C6.out (btr C7.out C8.out)).cell (p := ⟨Z5.heap.size, 6, none⟩) (Array.getElem?_eq_some_iff.1 K5.out).1).trans (box_cell K5.out h5)
  have f5_2 : X8.cell? ⟨Z5.heap.size, 2, none⟩ = some (.slice A5 1 c5) := ((btr C6.out (btr C7.out C8.out)).cell (p := ⟨Z5.heap.size, 2, none⟩) (Array.getElem?_eq_some_iff.1 K5.out).1).trans (box_cell K5.out k5)
  have f6_18 : X8.cell? ⟨Z6.heap.size, 18, none⟩ = some (.int .i64 12) := ((btr C7.out C8.out).cell (p := ⟨Z6.heap.size, 18, none⟩) (Array.getElem?_eq_some_iff.1 K6.out).1).trans (box_cell K6.out h6)
  have f6_19 : X8.cell? ⟨Z6.heap.size, 19, none⟩ = some (.int .i64 1) := ((btr C7.out C8.out).cell (p := ⟨Z6.heap.size, 19, none⟩) (Array.getElem?_eq_some_iff.1 K6.out).1).trans (box_cell K6.out k6)
  have f6_21 : X8.cell? ⟨Z6.heap.size, 21, none⟩ = some (.slice A6 1 c6) := ((btr C7.out C8.out).cell (p := ⟨Z6.heap.size, 21, none⟩) (Array.getElem?_eq_some_iff.1 K6.out).1).trans (box_cell K6.out m6)
  have f7_1 : X8.cell? ⟨Z7.heap.size, 1, none⟩ = some (.slice (some ⟨b7, o7, none⟩) 1 c7) := (C8.out.cell (p := ⟨Z7.heap.size, 1, none⟩) (Array.getElem?_eq_some_iff.1 K7.out).1).trans (box_cell K7.out h7)
  have f7x : X8.cell? ⟨b7, o7 + 3, none⟩ = some (.bool true) := (C8.out.cell (p := ⟨b7, o7 + 3, none⟩) (lt_cell ((D7.out.cell (p := ⟨b7, o7 + 3, none⟩) (lt_cell k7)).trans k7))).trans ((D7.out.cell (p := ⟨b7, o7 + 3, none⟩) (lt_cell k7)).trans k7)
  have HFIN := Lib.hid (show Below w.heap.size w X8 from btr HBX.out (btr B7.out C8.out))
  have HK1 := Lib.hid (fun V => show Calls Tryz.prog 7 #[.string ⟨#[99, 100]⟩] V fun e w' => e = .returned (.bool true) ∧ w' = V from Known_any [99, 100] V)
  have HK2 := Lib.hid (fun V => show Calls Tryz.prog 9 #[.string ⟨#[99, 100]⟩] V fun e w' => e = .returned (.bool false) ∧ w' = V from Special_any [99, 100] V)
  have HK3 := Lib.hid (fun V => show Calls Tryz.prog 9 #[.string ⟨#[101, 120, 112, 111, 114, 116]⟩] V fun e w' => e = .returned (.bool true) ∧ w' = V from Special_any [101, 120, 112, 111, 114, 116] V)
  clear h3 h4 k4 h5 k5 h6 k6 m6 h7 k7
  go_upto_region 11 with (fail)
  go_wp2_with (fail)
  refine (HK1.out _).mono ?_
  rintro e w' ⟨rfl, hw'⟩
  obtain rfl : X8 = w' := hw'.symm
  go_wp2_with (fail)
  refine (HK2.out _).mono ?_
  rintro e w' ⟨rfl, hw'⟩
  obtain rfl : X8 = w' := hw'.symm
  go_wp2_with (fail)
  refine (HK3.out _).mono ?_
  rintro e w' ⟨rfl, hw'⟩
  obtain rfl : X8 = w' := hw'.symm
  go_wp2
  go_ret
  exact ⟨rfl, HFIN.out⟩
end W
end Go.Proofs.YtcbebkeakkahgaaGreatDoor
