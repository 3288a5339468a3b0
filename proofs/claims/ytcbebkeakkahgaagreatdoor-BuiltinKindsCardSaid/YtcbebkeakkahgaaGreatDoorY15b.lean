/- Variables: Get, place. -/
import Derived.Test.YtcbebkeakkahgaaGreatDoorY15a
namespace Go.Proofs.YtcbebkeakkahgaaGreatDoor
open Go.RowKit K
namespace VR
theorem ix_find {α : Type} (p : α → Bool) : ∀ (l : List α) (k : Nat), (ix p l k = -1 ∧ l.find? p = none) ∨ ∃ i x, ix p l k = ((k + i : Nat) : Int) ∧ l[i]? = some x ∧ l.find? p = some x ∧ i < l.length
  | [], k => .inl ⟨rfl, rfl⟩
  | x :: l, k => by
    rw [ix]
    by_cases h : p x = true
    · exact .inr ⟨0, x, by rw [if_pos h]; rfl, rfl, by rw [List.find?_cons_of_pos h], by simp⟩
    · rw [if_neg h]
      rcases ix_find p l (k + 1) with ⟨h1, h2⟩ | ⟨i, y, h1, h2, h3, h4⟩
      · exact .inl ⟨h1, by rw [List.find?_cons_of_neg h]; exact h2⟩
      · exact .inr ⟨i + 1, y, by rw [h1]; congr 1; omega, by rw [List.getElem?_cons_succ]; exact h2, by rw [List.find?_cons_of_neg h]; exact h3, by simp; omega⟩
def get (l : List Var) (nm : Str) : Option Var := l.find? (fun x => x.name == nm)
def zero : Var := ⟨[], [], false, false, false⟩
/-- Where a variable is or belongs, and whether it is there. -/
def place (l : List Var) (nm : Str) : Nat × Bool :=
  if 0 ≤ ix (fun x => x.name == nm) l 0 then ((ix (fun x => x.name == nm) l 0).toNat, true)
  else if 0 ≤ ix (fun x => decide (nm < x.name)) l 0 then ((ix (fun x => decide (nm < x.name)) l 0).toNat, false)
  else (l.length, false)
theorem place_le (l : List Var) (nm : Str) : (place l nm).1 ≤ l.length ∧ ((place l nm).2 = true → (place l nm).1 < l.length) := by
  unfold place
  have h1 := ix_le (fun x : Var => x.name == nm) l 0
  have h2 := ix_le (fun x : Var => decide (nm < x.name)) l 0
  split
  · refine ⟨by dsimp only; omega, fun _ => by dsimp only; omega⟩
  · split
    · refine ⟨by dsimp only; omega, fun h => by cases h⟩
    · exact ⟨Nat.le_refl _, fun h => by cases h⟩
end VR
namespace W
set_option maxRecDepth 100000
theorem vblk {v : World} {b : Nat} {a0 a1 a2 a3 a4 : Value} {t : TypeId} (h : v.heap[b]? = some (.cells #[a0, a1, a2, a3, a4] t (0, 0))) :
    v.cell? ⟨b, 0, none⟩ = some a0 ∧ v.cell? ⟨b, 1, none⟩ = some a1 ∧ v.cell? ⟨b, 2, none⟩ = some a2 ∧ v.cell? ⟨b, 3, none⟩ = some a3 ∧ v.cell? ⟨b, 4, none⟩ = some a4 ∧ v.frozen? ⟨b, 0, none⟩ = false ∧ v.frozen? ⟨b, 1, none⟩ = false ∧ v.frozen? ⟨b, 2, none⟩ = false ∧ v.frozen? ⟨b, 3, none⟩ = false ∧ v.frozen? ⟨b, 4, none⟩ = false :=
  ⟨Lib.cell_of_heap h 0, Lib.cell_of_heap h 1, Lib.cell_of_heap h 2, Lib.cell_of_heap h 3, Lib.cell_of_heap h 4, Lib.frozen_of_heap h 0, Lib.frozen_of_heap h 1, Lib.frozen_of_heap h 2, Lib.frozen_of_heap h 3, Lib.frozen_of_heap h 4⟩
theorem below5s {B : Nat} {w v : World} (h : Below B w v) (b : Nat) (hb : B ≤ b) (v0 v1 v2 v3 v4 : Value) : Below B w (((((v.setCell ⟨b, 0, none⟩ v0).setCell ⟨b, 1, none⟩ v1).setCell ⟨b, 2, none⟩ v2).setCell ⟨b, 3, none⟩ v3).setCell ⟨b, 4, none⟩ v4) :=
  ((((h.setCell hb _).setCell hb _).setCell hb _).setCell hb _).setCell hb _
/-- What Get gives. -/
def GetOut (w : World) (o : Option VR.Var) (e : Ending) (w' : World) : Prop := e = .returned (.tuple #[aggV (o.getD VR.zero), .bool o.isSome]) ∧ Below w.heap.size w w'
set_option maxHeartbeats 2000000 in
theorem Get_any (l : List VR.Var) (nm : List UInt8) (v : Value) (w : World) (hv : VV w v l) (hl : l.length ≤ 100000) :
    Calls Tryz.prog 59 #[v, .string ⟨nm.toArray⟩] w (GetOut w (VR.get l nm)) := by
  obtain ⟨A, cap, rfl, -⟩ := hv.slice
  obtain ⟨V, hV⟩ : ∃ V, V = (w.alloc (.cells #[.string ⟨nm.toArray⟩] 9)).alloc (.cells #[.string ⟨#[]⟩, .string ⟨#[]⟩, .bool false, .bool false, .bool false] 41) := ⟨_, rfl⟩
  have HBV := Lib.hid (show Below w.heap.size w V by rw [hV]; exact btr (balloc _ _) (balloc _ _))
  have hb : V.cell? ⟨w.heap.size, 0, none⟩ = some (.string ⟨nm.toArray⟩) := by
    rw [hV]
    exact ((balloc (w.alloc _) _).cell (p := ⟨w.heap.size, 0, none⟩) (by simp)).trans (by simp)
  have hz : V.heap[w.heap.size + 1]? = some (.cells #[.string ⟨#[]⟩, .string ⟨#[]⟩, .bool false, .bool false, .bool false] 41 (0, 0)) := by
    rw [hV]; exact al_new' _ _ _ (by simp)
  have HZ := Lib.hid hz
  have HLT := Lib.hid (show w.heap.size + 1 < V.heap.size by rw [hV]; simp)
  have HV := Lib.hid hV
  have HF := Lib.hid (find_get l nm w.heap.size _ V (hv.below HBV.out) hl hb)
  have HVV := Lib.hid hv
  rcases VR.ix_find (fun x => x.name == nm) l 0 with ⟨h1, h2⟩ | ⟨i, x, h1, h2, h3, h4⟩
  · have HO := Lib.hid (show VR.get l nm = none from h2)
    rw [h1] at HF
    clear hV hv hb hz h1 h2
    go_enter Tryz.func59, Tryz.ntmps59
    go_upto_region 1 with (fail)
    rw [← HV.out]
    go_wp2_with fail
    refine HF.out.mono ?_
    rintro e Y ⟨rfl, hY⟩
    have HY := Lib.hid hY
    obtain ⟨c0, c1, c2, c3, c4, f0, f1, f2, f3, f4⟩ := vblk ((hY.block _ HLT.out).trans HZ.out)
    have hs := HLT.out
    have hsy := hY.size
    clear hY
    go_wp2
    exact bodyPost_ret (v := .tuple #[aggV VR.zero, .bool false]) (by simp [results, Tryz.results59, go_sem, c0, c1, c2, c3, c4, aggV, VR.zero]) rfl ⟨by rw [HO.out]; rfl, below5s (HBV.out.trans (HY.out.mono HBV.out.size)) _ (by omega) _ _ _ _ _⟩
  · have HO := Lib.hid (show VR.get l nm = some x from h3)
    rw [h1, Nat.zero_add] at HF
    have HX := Lib.hid h2
    clear hV hv hb hz h1 h2 h3
    go_enter Tryz.func59, Tryz.ntmps59
    go_upto_region 1 with (fail)
    rw [← HV.out]
    go_wp2_with fail
    refine HF.out.mono ?_
    rintro e Y ⟨rfl, hY⟩
    have HY := Lib.hid hY
    obtain ⟨c0, c1, c2, c3, c4, f0, f1, f2, f3, f4⟩ := vblk ((hY.block _ HLT.out).trans HZ.out)
    have hs := HLT.out
    have hsy := hY.size
    clear hY
    have HBY := Lib.hid (HBV.out.trans (HY.out.mono HBV.out.size))
    obtain ⟨b, off, rfl, hbl, g0, g1, g2, g3, g4⟩ := VV.get HVV.out HX.out
    have hne : ¬ b = w.heap.size + 1 := by omega
    have hby : b < Y.heap.size := by omega
    obtain ⟨g0, g1, g2, g3, g4⟩ := (⟨(HBY.out.cell (p := ⟨b, off + i * 5, none⟩) hbl).trans g0, (HBY.out.cell (p := ⟨b, off + i * 5 + 1, none⟩) hbl).trans g1, (HBY.out.cell (p := ⟨b, off + i * 5 + 2, none⟩) hbl).trans g2, (HBY.out.cell (p := ⟨b, off + i * 5 + 3, none⟩) hbl).trans g3, (HBY.out.cell (p := ⟨b, off + i * 5 + 4, none⟩) hbl).trans g4⟩ : Y.cell? ⟨b, off + i * 5, none⟩ = some (.string ⟨x.name.toArray⟩) ∧ Y.cell? ⟨b, off + i * 5 + 1, none⟩ = some (.string ⟨x.value.toArray⟩) ∧ Y.cell? ⟨b, off + i * 5 + 2, none⟩ = some (.bool x.set) ∧ Y.cell? ⟨b, off + i * 5 + 3, none⟩ = some (.bool x.exp) ∧ Y.cell? ⟨b, off + i * 5 + 4, none⟩ = some (.bool x.ro))
    go_wp2
    exact bodyPost_ret (v := .tuple #[aggV x, .bool true]) (by simp [results, Tryz.results59, go_sem, c0, c1, c2, c3, c4, aggV]) rfl ⟨by rw [HO.out]; rfl, below5s HBY.out _ (by omega) _ _ _ _ _⟩
end W
end Go.Proofs.YtcbebkeakkahgaaGreatDoor
