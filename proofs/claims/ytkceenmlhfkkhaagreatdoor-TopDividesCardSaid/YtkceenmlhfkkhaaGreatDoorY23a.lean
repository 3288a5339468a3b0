/- Several texts in one: W23a W23b. -/
import Derived.Test.YtkceenmlhfkkhaaGreatDoorY21k
import Derived.Test.YtkceenmlhfkkhaaGreatDoorY15
namespace Go.Proofs.YtkceenmlhfkkhaaGreatDoor
open Go.RowKit K
namespace W
set_option maxRecDepth 100000
theorem run_storeVar_sl {P : Program} (w : World) (ad : Addr) (ty : TypeId) (A : Option Addr) (n c : Nat) (old : Value) (hi : (P.info? ty).map (·.size) = some 1) (hc : w.cell? ad = some old) (hf : w.frozen? ad = false) : (storeVar ty ad (.slice A n c)).run P w = .ok () (w.setCell ad (.slice A n c)) := by
  have h0 : ad.add 0 = ad := by obtain ⟨b, o, z⟩ := ad; cases z <;> rfl
  cases hq : P.info? ty with
  | none => simp [hq] at hi
  | some i =>
    have hs : i.size = 1 := by simpa [hq] using hi
    simp [storeVar, sizeOf, typeInfo, hq, hs, storeCells, h0, go_sem, hc, hf]
theorem run_storeVar_int {P : Program} (w : World) (ad : Addr) (ty : TypeId) (k : Int) (old : Value) (hi : (P.info? ty).map (·.size) = some 1) (hc : w.cell? ad = some old) (hf : w.frozen? ad = false) : (storeVar ty ad (.int .i64 k)).run P w = .ok () (w.setCell ad (.int .i64 k)) := by
  have h0 : ad.add 0 = ad := by obtain ⟨b, o, z⟩ := ad; cases z <;> rfl
  cases hq : P.info? ty with
  | none => simp [hq] at hi
  | some i =>
    have hs : i.size = 1 := by simpa [hq] using hi
    simp [storeVar, sizeOf, typeInfo, hq, hs, storeCells, h0, go_sem, hc, hf]
/-- A row whose block is a late one stays when only elder blocks change. -/
theorem OR.late {α : Type} {m : Nat} {enc : α → List Value} {T : TypeId} {B : Nat} {w w' : World} {v : Value} {l : List α} (h : OR m enc T B w v l) (hm : ∀ x, (enc x).length = m) (hz : w.heap.size ≤ w'.heap.size) (hb : ∀ k, B ≤ k → w'.heap[k]? = w.heap[k]?) : RV m enc w' v l := by
  obtain ⟨A, cap, rfl, hc, hr⟩ := h.rv hm
  refine ⟨A, cap, rfl, hc, ?_⟩
  rcases hr with hr | ⟨b, off, rfl, hlt, hat⟩
  · exact .inl hr
  · refine .inr ⟨b, off, rfl, Nat.lt_of_lt_of_le hlt hz, fun i x hx j u hj => ?_⟩
    have hge := own_ge h b rfl
    rw [← hat i x hx j u hj]
    unfold World.cell?
    rw [hb b hge]
theorem str_two (w : World) (T : TypeId) (q : Nat) (a b : List UInt8) (h : w.heap[q]? = some (.cells #[.string ⟨a.toArray⟩, .string ⟨b.toArray⟩] T (0, 0))) : SV w (.slice (some ⟨q, 0, none⟩) 2 2) [a, b] := by
  refine ⟨_, _, rfl, Nat.le_refl _, .inr ⟨q, 0, rfl, (Array.getElem?_eq_some_iff.1 h).1, ?_⟩⟩
  have c0 := Lib.cell_of_heap h 0
  have c1 := Lib.cell_of_heap h 1
  intro i x hx j u hj
  match j, hj with
  | 0, hj =>
    match i, hx with
    | 0, hx => simp [es] at hx hj; subst hx hj; simpa using c0
    | 1, hx => simp [es] at hx hj; subst hx hj; simpa using c1
  | j + 1, hj => simp [es] at hj
def ifsV : VR.Var := ⟨[73, 70, 83], [32, 9, 10], true, false, false⟩
def envVars (s : List UInt8) : List VR.Var := [ifsV, ⟨[120], s, true, false, false⟩]
theorem setv_x (s : List UInt8) : VR.setv [ifsV] [120] s = envVars s := by rfl
def EnvOut (w : World) (opt : Int) (s : List UInt8) (e : Ending) (w' : World) : Prop := ∃ VA vc PA pc, e = .returned (.tuple #[.agg #[.string ⟨shellName.toArray⟩, .slice VA 2 vc, .slice PA 2 pc, .slice none 0 0, .slice none 0 0, .slice none 0 0, .int .i64 opt, .int .i64 0, .int .i64 0, .int .i64 0, .string ⟨#[47]⟩, .int .i64 1, .int .i64 0, .int .i64 0, .bool false], .bool true]) ∧ VV w' (.slice VA 2 vc) (envVars s) ∧ SV w' (.slice PA 2 pc) [[112, 32, 113], [42]] ∧ Below w.heap.size w w'
attribute [-go_sem] storeVar
set_option maxHeartbeats 16000000 in
theorem environ_any (s : List UInt8) (hs : s.length ≤ 4096) (opt : Int) (w : World) : Calls Tryz.prog 8 #[.string ⟨s.toArray⟩, .int .i64 opt] w (EnvOut w opt s) := by
  have hiE : (Tryz.prog.info? 31).map (·.size) = some 15 := by kernel_rfl
  have hi1 : (Tryz.prog.info? 23).map (·.size) = some 1 := by kernel_rfl
  have hi2 : (Tryz.prog.info? 3).map (·.size) = some 1 := by kernel_rfl
  obtain ⟨X, hX⟩ : ∃ X, X = (((w.alloc (.cells #[.string ⟨#[]⟩, .slice none 0 0, .slice none 0 0, .slice none 0 0, .slice none 0 0, .slice none 0 0, .int .i64 0, .int .i64 0, .int .i64 0, .int .i64 0, .string ⟨#[]⟩, .int .i64 0, .int .i64 0, .int .i64 0, .bool false] 31)).alloc (.cells #[.string ⟨#[73, 70, 83]⟩, .string ⟨#[32, 9, 10]⟩, .bool true, .bool false, .bool false] 44)).alloc (.cells #[.string ⟨#[112, 32, 113]⟩, .string ⟨#[42]⟩] 9)).alloc (.cells #[.string ⟨#[]⟩, .slice none 0 0, .slice none 0 0, .slice none 0 0, .slice none 0 0, .slice none 0 0, .int .i64 0, .int .i64 0, .int .i64 0, .int .i64 0, .string ⟨#[]⟩, .int .i64 0, .int .i64 0, .int .i64 0, .bool false] 31) := ⟨_, rfl⟩
  have HBX := Lib.hid (show Below w.heap.size w X by rw [hX]; exact btr (btr (btr (balloc _ _) (balloc _ _)) (balloc _ _)) (balloc _ _))
  have x0 : X.heap[w.heap.size]? = some (.cells #[.string ⟨#[]⟩, .slice none 0 0, .slice none 0 0, .slice none 0 0, .slice none 0 0, .slice none 0 0, .int .i64 0, .int .i64 0, .int .i64 0, .int .i64 0, .string ⟨#[]⟩, .int .i64 0, .int .i64 0, .int .i64 0, .bool false] 31 (0, 0)) := by rw [hX]; exact (((Below.heap_alloc _ _ _ (by simp <;> omega)).trans (Below.heap_alloc _ _ _ (by simp <;> omega))).trans (Below.heap_alloc _ _ _ (by simp <;> omega))).trans (al_new w _)
  have x1 : X.heap[w.heap.size + 1]? = some (.cells #[.string ⟨#[73, 70, 83]⟩, .string ⟨#[32, 9, 10]⟩, .bool true, .bool false, .bool false] 44 (0, 0)) := by rw [hX]; exact ((Below.heap_alloc _ _ _ (by simp <;> omega)).trans (Below.heap_alloc _ _ _ (by simp <;> omega))).trans (al_new' _ _ _ (by simp))
  have x2 : X.heap[w.heap.size + 1 + 1]? = some (.cells #[.string ⟨#[112, 32, 113]⟩, .string ⟨#[42]⟩] 9 (0, 0)) := by rw [hX]; exact (Below.heap_alloc _ _ _ (by simp <;> omega)).trans (al_new' _ _ _ (by simp))
  have x3 : X.heap[w.heap.size + 1 + 1 + 1]? = some (.cells #[.string ⟨#[]⟩, .slice none 0 0, .slice none 0 0, .slice none 0 0, .slice none 0 0, .slice none 0 0, .int .i64 0, .int .i64 0, .int .i64 0, .int .i64 0, .string ⟨#[]⟩, .int .i64 0, .int .i64 0, .int .i64 0, .bool false] 31 (0, 0)) := by rw [hX]; exact al_new' _ _ _ (by simp)
  have hst := run_storeVar_row (P := Tryz.prog) X (w.heap.size + 1 + 1 + 1) 31 31 _ #[.string ⟨#[106, 111, 98, 115, 104, 101, 108, 108]⟩, .slice (some ⟨w.heap.size + 1, 0, none⟩) 1 1, .slice (some ⟨w.heap.size + 1 + 1, 0, none⟩) 2 2, .slice none 0 0, .slice none 0 0, .slice none 0 0, .int .i64 0, .int .i64 0, .int .i64 0, .int .i64 0, .string ⟨#[47]⟩, .int .i64 1, .int .i64 0, .int .i64 0, .bool false] x3 hiE rfl (by simp [Value.oneCell'])
  obtain ⟨W1, hW1⟩ : ∃ W1, W1 = X.setRow (w.heap.size + 1 + 1 + 1) #[.string ⟨#[106, 111, 98, 115, 104, 101, 108, 108]⟩, .slice (some ⟨w.heap.size + 1, 0, none⟩) 1 1, .slice (some ⟨w.heap.size + 1 + 1, 0, none⟩) 2 2, .slice none 0 0, .slice none 0 0, .slice none 0 0, .int .i64 0, .int .i64 0, .int .i64 0, .int .i64 0, .string ⟨#[47]⟩, .int .i64 1, .int .i64 0, .int .i64 0, .bool false] := ⟨_, rfl⟩
  have y3 : W1.heap[w.heap.size + 1 + 1 + 1]? = some (.cells #[.string ⟨#[106, 111, 98, 115, 104, 101, 108, 108]⟩, .slice (some ⟨w.heap.size + 1, 0, none⟩) 1 1, .slice (some ⟨w.heap.size + 1 + 1, 0, none⟩) 2 2, .slice none 0 0, .slice none 0 0, .slice none 0 0, .int .i64 0, .int .i64 0, .int .i64 0, .int .i64 0, .string ⟨#[47]⟩, .int .i64 1, .int .i64 0, .int .i64 0, .bool false] 31 (0, 0)) := by rw [hW1]; exact setRow_heap X _ _ _ _ (0, 0) x3
  have y0 : W1.heap[w.heap.size]? = some (.cells #[.string ⟨#[]⟩, .slice none 0 0, .slice none 0 0, .slice none 0 0, .slice none 0 0, .slice none 0 0, .int .i64 0, .int .i64 0, .int .i64 0, .int .i64 0, .string ⟨#[]⟩, .int .i64 0, .int .i64 0, .int .i64 0, .bool false] 31 (0, 0)) := by rw [hW1]; exact (setRow_other X _ _ _ (by omega)).trans x0
  have y1 : W1.heap[w.heap.size + 1]? = some (.cells #[.string ⟨#[73, 70, 83]⟩, .string ⟨#[32, 9, 10]⟩, .bool true, .bool false, .bool false] 44 (0, 0)) := by rw [hW1]; exact (setRow_other X _ _ _ (by omega)).trans x1
  have y2 : W1.heap[w.heap.size + 1 + 1]? = some (.cells #[.string ⟨#[112, 32, 113]⟩, .string ⟨#[42]⟩] 9 (0, 0)) := by rw [hW1]; exact (setRow_other X _ _ _ (by omega)).trans x2
  have HBW := Lib.hid (show Below w.heap.size w W1 by rw [hW1]; exact rowB HBX.out (by omega) _)
  have HVV : VV W1 (.slice (some ⟨w.heap.size + 1, 0, none⟩) 1 1) [ifsV] := ⟨_, _, rfl, Nat.le_refl _, .inr ⟨w.heap.size + 1, 0, rfl, (Array.getElem?_eq_some_iff.1 y1).1, rat_one W1 _ ifsV _ y1⟩⟩
  have HST := Lib.hid (Set_ok [ifsV] [120] s _ W1 HVV (by decide) (by simp) (by rfl) hs (by simp [ifsV]) (by decide))
  unfold SetOut at HST
  rw [setv_x] at HST
  obtain ⟨e0, e1, e2, e3, e4, e5, e6, e7, e8, e9, e10, e11, e12, e13, e14⟩ := blk15 y3
  have hl3 := (Array.getElem?_eq_some_iff.1 y3).1
  rw [hX] at hst hW1
  have HW1 := Lib.hid hW1
  have HY0 := Lib.hid y0
  have HY2 := Lib.hid y2
  have HY3 := Lib.hid y3
  clear hX hW1 x0 x1 x2 x3 y0 y1 y2 y3 HVV
  go_enter Tryz.func8, Tryz.ntmps8
  go_upto_region 2 with (fail)
  rw [← HW1.out]
  go_wp2_with fail
  refine HST.out.mono ?_
  rintro e Y ⟨v', rfl, hor, hb⟩
  obtain ⟨VA, vc, hv0⟩ := hor.val
  obtain rfl : v' = .slice VA 2 vc := hv0
  have HOR := Lib.hid hor
  have HB := Lib.hid hb
  have z3 := (hb.block _ (Array.getElem?_eq_some_iff.1 HY3.out).1).trans HY3.out
  have z2 := (hb.block _ (Array.getElem?_eq_some_iff.1 HY2.out).1).trans HY2.out
  have z0 := (hb.block _ (Array.getElem?_eq_some_iff.1 HY0.out).1).trans HY0.out
  clear hor hb hst e0 e1 e2 e3 e4 e5 e6 e7 e8 e9 e10 e11 e12 e13 e14
  obtain ⟨d0, d1, d2, d3, d4, d5, d6, d7, d8, d9, d10, d11, d12, d13, d14⟩ := blk15 z3
  obtain ⟨g0, g1, g2, g3, g4, g5, g6, g7, g8, g9, g10, g11, g12, g13, g14⟩ := frz15 z3
  have hs1 := run_storeVar_sl (P := Tryz.prog) Y ⟨w.heap.size + 1 + 1 + 1, 1, none⟩ 23 VA 2 vc _ hi1 d1 g1
  obtain ⟨Y1, hY1⟩ : ∃ Y1, Y1 = Y.setCell ⟨w.heap.size + 1 + 1 + 1, 1, none⟩ (.slice VA 2 vc) := ⟨_, rfl⟩
  have a3 : Y1.heap[w.heap.size + 1 + 1 + 1]? = some (.cells #[.string ⟨#[106, 111, 98, 115, 104, 101, 108, 108]⟩, .slice VA 2 vc, .slice (some ⟨w.heap.size + 1 + 1, 0, none⟩) 2 2, .slice none 0 0, .slice none 0 0, .slice none 0 0, .int .i64 0, .int .i64 0, .int .i64 0, .int .i64 0, .string ⟨#[47]⟩, .int .i64 1, .int .i64 0, .int .i64 0, .bool false] 31 (0, 0)) := by rw [hY1]; exact heap_setCell_same _ _ 1 _ _ _ z3
  obtain ⟨e0, e1, e2, e3, e4, e5, e6, e7, e8, e9, e10, e11, e12, e13, e14⟩ := blk15 a3
  obtain ⟨f0, f1, f2, f3, f4, f5, f6, f7, f8, f9, f10, f11, f12, f13, f14⟩ := frz15 a3
  have hs2 := run_storeVar_int (P := Tryz.prog) Y1 ⟨w.heap.size + 1 + 1 + 1, 6, none⟩ 3 opt _ hi2 e6 f6
  obtain ⟨Y2, hY2⟩ : ∃ Y2, Y2 = Y1.setCell ⟨w.heap.size + 1 + 1 + 1, 6, none⟩ (.int .i64 opt) := ⟨_, rfl⟩
  have b3 : Y2.heap[w.heap.size + 1 + 1 + 1]? = some (.cells #[.string ⟨#[106, 111, 98, 115, 104, 101, 108, 108]⟩, .slice VA 2 vc, .slice (some ⟨w.heap.size + 1 + 1, 0, none⟩) 2 2, .slice none 0 0, .slice none 0 0, .slice none 0 0, .int .i64 opt, .int .i64 0, .int .i64 0, .int .i64 0, .string ⟨#[47]⟩, .int .i64 1, .int .i64 0, .int .i64 0, .bool false] 31 (0, 0)) := by rw [hY2]; exact heap_setCell_same _ _ 6 _ _ _ a3
  have b0 : Y2.heap[w.heap.size]? = some (.cells #[.string ⟨#[]⟩, .slice none 0 0, .slice none 0 0, .slice none 0 0, .slice none 0 0, .slice none 0 0, .int .i64 0, .int .i64 0, .int .i64 0, .int .i64 0, .string ⟨#[]⟩, .int .i64 0, .int .i64 0, .int .i64 0, .bool false] 31 (0, 0)) := by rw [hY2, Below.heap_setCell _ _ _ _ (by dsimp only; omega), hY1, Below.heap_setCell _ _ _ _ (by dsimp only; omega)]; exact z0
  have hs3 := run_storeVar_row (P := Tryz.prog) Y2 w.heap.size 31 31 _ #[.string ⟨#[106, 111, 98, 115, 104, 101, 108, 108]⟩, .slice VA 2 vc, .slice (some ⟨w.heap.size + 1 + 1, 0, none⟩) 2 2, .slice none 0 0, .slice none 0 0, .slice none 0 0, .int .i64 opt, .int .i64 0, .int .i64 0, .int .i64 0, .string ⟨#[47]⟩, .int .i64 1, .int .i64 0, .int .i64 0, .bool false] b0 hiE rfl (by simp [Value.oneCell'])
  obtain ⟨Y3, hY3⟩ : ∃ Y3, Y3 = Y2.setRow w.heap.size #[.string ⟨#[106, 111, 98, 115, 104, 101, 108, 108]⟩, .slice VA 2 vc, .slice (some ⟨w.heap.size + 1 + 1, 0, none⟩) 2 2, .slice none 0 0, .slice none 0 0, .slice none 0 0, .int .i64 opt, .int .i64 0, .int .i64 0, .int .i64 0, .string ⟨#[47]⟩, .int .i64 1, .int .i64 0, .int .i64 0, .bool false] := ⟨_, rfl⟩
  have c0 : Y3.heap[w.heap.size]? = some (.cells #[.string ⟨#[106, 111, 98, 115, 104, 101, 108, 108]⟩, .slice VA 2 vc, .slice (some ⟨w.heap.size + 1 + 1, 0, none⟩) 2 2, .slice none 0 0, .slice none 0 0, .slice none 0 0, .int .i64 opt, .int .i64 0, .int .i64 0, .int .i64 0, .string ⟨#[47]⟩, .int .i64 1, .int .i64 0, .int .i64 0, .bool false] 31 (0, 0)) := by rw [hY3]; exact setRow_heap Y2 _ _ _ _ (0, 0) b0
  have HAG := Lib.hid (show ∀ k, k ≠ w.heap.size → k ≠ w.heap.size + 1 + 1 + 1 → Y3.heap[k]? = Y.heap[k]? from fun k h1 h2 => by rw [hY3, setRow_other _ _ _ _ h1, hY2, Below.heap_setCell _ _ _ _ h2, hY1, Below.heap_setCell _ _ _ _ h2])
  have HSZ := Lib.hid (show Y3.heap.size = Y.heap.size by rw [hY3, setRow_size, hY2, hY1]; simp [World.setCell])
  obtain ⟨d0, d1, d2, d3, d4, d5, d6, d7, d8, d9, d10, d11, d12, d13, d14⟩ := blk15 b3
  have hl3 := (Array.getElem?_eq_some_iff.1 b3).1
  have HB3 := Lib.hid (show Below w.heap.size w Y3 from ⟨by rw [hY3, hY2, hY1]; exact (btr HBW.out HB.out).os, by rw [hY3, hY2, hY1]; exact (btr HBW.out HB.out).tape, by rw [hY3, hY2, hY1]; exact (btr HBW.out HB.out).output, by rw [HSZ.out]; exact (btr HBW.out HB.out).size, fun k hk => by rw [HAG.out k (by omega) (by omega)]; exact (btr HBW.out HB.out).block k hk⟩)
  have HVF := Lib.hid (show VV Y3 (.slice VA 2 vc) (envVars s) from OR.late HOR.out vc_len (by rw [HSZ.out]; exact Nat.le_refl _) fun k hk => HAG.out k (by have := (Array.getElem?_eq_some_iff.1 HY3.out).1; omega) (by have := (Array.getElem?_eq_some_iff.1 HY3.out).1; omega))
  have HSF := Lib.hid (show SV Y3 (.slice (some ⟨w.heap.size + 1 + 1, 0, none⟩) 2 2) [[112, 32, 113], [42]] from str_two Y3 9 _ _ _ (by rw [HAG.out _ (by omega) (by omega)]; exact z2))
  have HC0 := Lib.hid c0
  have HY1 := Lib.hid hY1
  have HY2' := Lib.hid hY2
  have HY3' := Lib.hid hY3
  clear hY1 hY2 hY3 a3 b0 b3 c0 z0 z2 z3
  go_upto_region 6 with (fail)
  rw [← HY1.out]
  go_upto_region 7 with (fail)
  rw [← HY2'.out]
  go_wp2
  rw [← HY3'.out]
  have hld : (loadVar 31 ⟨w.heap.size, 0, none⟩).run Tryz.prog Y3 = .ok (.agg #[.string ⟨#[106, 111, 98, 115, 104, 101, 108, 108]⟩, .slice VA 2 vc, .slice (some ⟨w.heap.size + 1 + 1, 0, none⟩) 2 2, .slice none 0 0, .slice none 0 0, .slice none 0 0, .int .i64 opt, .int .i64 0, .int .i64 0, .int .i64 0, .string ⟨#[47]⟩, .int .i64 1, .int .i64 0, .int .i64 0, .bool false]) Y3 := run_loadVar_row Y3 w.heap.size _ 31 _ (0, 0) _ HC0.out Tryz.underlying31 rfl hiE
  exact bodyPost_ret (results_cell2 Tryz.results8 _ _ _ _ _ rfl hld) rfl ⟨_, _, _, _, rfl, HVF.out, HSF.out, HB3.out⟩
end W
end Go.Proofs.YtkceenmlhfkkhaaGreatDoor
namespace Go.Proofs.YtkceenmlhfkkhaaGreatDoor
open Go.RowKit K
namespace W
set_option maxRecDepth 100000
set_option maxHeartbeats 4000000 in
theorem sameT_any (l : List (List UInt8)) (v u : Value) (w : World) (hv : SV w v l) (hu : SV w u l) (hl : l.length ≤ 100000) : Calls Tryz.prog 11 #[v, u] w fun e w' => e = .returned (.bool true) ∧ Below w.heap.size w w' := by
  obtain ⟨A1, c1, rfl, -⟩ := hv.slice
  obtain ⟨A2, c2, rfl, -⟩ := hu.slice
  have HV := Lib.hid hv
  have HU := Lib.hid hu
  clear hv hu
  go_enter Tryz.func11, Tryz.ntmps11
  go_wp2
  go_loopw [13] (fun i wr => ∃ k : Nat, k ≤ l.length ∧ i = .int .i64 k ∧ Hid (Below w.heap.size w wr)) (fun i _ => l.length - (intOf i).toNat)
  case atStart => exact ⟨0, Nat.zero_le _, rfl, Lib.hid (Below.refl _ _)⟩
  case round =>
    obtain ⟨k, hk, rfl, HB⟩ := hrel
    by_cases hlt : k < l.length
    · obtain ⟨x, hx⟩ : ∃ x, l[k]? = some x := ⟨_, List.getElem?_eq_getElem hlt⟩
      obtain ⟨b1, o1, rfl, hb1, q1⟩ := SV.get (HV.out.below HB.out) hx
      obtain ⟨b2, o2, rfl, hb2, q2⟩ := SV.get (HU.out.below HB.out) hx
      clear hx
      go_wp2_with fail
      go_quiet (fail)
      go_wp2
      go_roundw
      case rel => exact ⟨k + 1, hlt, by go_num, Lib.hid (bdN HB.out _)⟩
      case measure => simp [intOf]; omega
    · go_wp2
      go_ret
      exact ⟨rfl, HB.out⟩
theorem newT_any (w : World) : Calls Tryz.prog 15 #[] w fun e w' => e = .returned (.slice (some ⟨w.heap.size, 0, none⟩) 1 1) ∧ w' = w.alloc (.cells #[.string ⟨#[47]⟩, .bool true, .string ⟨#[]⟩] 70) := by
  go_enter Tryz.func15, Tryz.ntmps15
  go_wp2
  go_ret
  exact ⟨rfl, rfl⟩
end W
end Go.Proofs.YtkceenmlhfkkhaaGreatDoor
