/- Variables: find, Get, place. -/
import Derived.Test.YtcbebkeakkahgaaGreatDoorE00
import Derived.Test.YtcbebkeakkahgaaGreatDoorP15
import Derived.Test.YtcbebkeakkahgaaGreatDoorK
import Derived.Laws.Cover1
import Derived.Sort.Walk0
namespace Go.Proofs.YtcbebkeakkahgaaGreatDoor
open Go.RowKit K
theorem P.bl_lt (a b : List UInt8) : Op.bytesLess a b = decide (a < b) := Go.Proofs.bytesLess_eq a b
theorem gtr_lists (t : TypeId) (a b : List UInt8) : binOp .gtr t (.string ⟨a.toArray⟩) (.string ⟨b.toArray⟩) = pure (.bool (decide (b < a))) := by
  rw [binOp_string_gtr, Lib.toList_data, Lib.toList_data, P.bl_lt]
  congr 2
  by_cases h : a < b
  · have : ¬ b < a := fun h' => List.lt_irrefl a (List.lt_trans h h')
    simp [h, this]
  · by_cases h2 : a = b
    · subst h2; simp
    · have : b < a := by
        rcases Classical.em (b < a) with h3 | h3
        · exact h3
        · exact absurd (List.le_antisymm h3 h) h2
      simp [h, h2, this]
namespace W
/-- The variables of a slice. -/
abbrev VV (w : World) (v : Value) (l : List VR.Var) : Prop := RV 5 VR.cells w v l
def aggV (x : VR.Var) : Value := .agg #[.string ⟨x.name.toArray⟩, .string ⟨x.value.toArray⟩, .bool x.set, .bool x.exp, .bool x.ro]
theorem VV.get {w : World} {A : Option Addr} {n cap : Nat} {l : List VR.Var} (h : VV w (.slice A n cap) l) {i : Nat} {x : VR.Var} (hi : l[i]? = some x) :
    ∃ b off, A = some ⟨b, off, none⟩ ∧ b < w.heap.size ∧ w.cell? ⟨b, off + i * 5, none⟩ = some (.string ⟨x.name.toArray⟩) ∧ w.cell? ⟨b, off + i * 5 + 1, none⟩ = some (.string ⟨x.value.toArray⟩) ∧ w.cell? ⟨b, off + i * 5 + 2, none⟩ = some (.bool x.set) ∧ w.cell? ⟨b, off + i * 5 + 3, none⟩ = some (.bool x.exp) ∧ w.cell? ⟨b, off + i * 5 + 4, none⟩ = some (.bool x.ro) := by
  obtain ⟨b, off, h1, h2, h3⟩ := RV.get h hi
  exact ⟨b, off, h1, h2, h3 0 _ rfl, h3 1 _ rfl, h3 2 _ rfl, h3 3 _ rfl, h3 4 _ rfl⟩
theorem find_get1 (x : VR.Var) (nm : List UInt8) (b : Nat) (w : World) (hb : w.cell? ⟨b, 0, none⟩ = some (.string ⟨nm.toArray⟩)) :
    Calls Tryz.prog 103 #[aggV x, .pointer (some ⟨b, 0, none⟩)] w fun e w' => e = .returned (.bool (x.name == nm)) ∧ Below w.heap.size w w' := by
  have hlt := lt_cell hb
  skip
  unfold aggV
  go_enter Tryz.func103, Tryz.ntmps103
  go_wp2
  go_ret
  exact ⟨rfl, balloc _ _⟩
set_option maxHeartbeats 1000000 in
theorem find_get (l : List VR.Var) (nm : List UInt8) (b : Nat) (v : Value) (w : World) (hv : VV w v l) (hl : l.length ≤ 100000) (hb : w.cell? ⟨b, 0, none⟩ = some (.string ⟨nm.toArray⟩)) :
    Calls Tryz.prog 102 #[v, .func (Fn.func 103) #[] #[.pointer (some ⟨b, 0, none⟩)]] w fun e w' => e = .returned (.int .i64 (VR.ix (fun x => x.name == nm) l 0)) ∧ Below w.heap.size w w' := by
  obtain ⟨A, cap, rfl, -⟩ := hv.slice
  obtain ⟨R, hR⟩ : ∃ R, VR.ix (fun x => x.name == nm) (l.drop 0) 0 = R := ⟨_, rfl⟩
  rw [show VR.ix (fun x => x.name == nm) l 0 = R from hR]
  have HR := Lib.hid hR
  have HV := Lib.hid hv
  have HB := Lib.hid hb
  have HLB := Lib.hid (lt_cell hb)
  clear hR hv hb
  go_enter Tryz.func102, Tryz.ntmps102
  go_wp2
  go_loopw [9] (fun i wr => ∃ k : Nat, k ≤ l.length ∧ i = .int .i64 k ∧ Hid (VR.ix (fun x => x.name == nm) (l.drop k) k = R) ∧ Hid (Below w.heap.size w wr)) (fun i _ => l.length - (intOf i).toNat)
  case atStart => exact ⟨0, Nat.zero_le _, rfl, HR, Lib.hid (Below.refl _ _)⟩
  case round =>
    obtain ⟨k, hk, rfl, HN, HW⟩ := hrel
    by_cases hlt : k < l.length
    · obtain ⟨x, hx⟩ : ∃ x, l[k]? = some x := ⟨_, List.getElem?_eq_getElem hlt⟩
      obtain ⟨bb, off, rfl, hbl, g0, g1, g2, g3, g4⟩ := VV.get (HV.out.below HW.out) hx
      have HD := Lib.hid (VR.ix_drop (fun x => x.name == nm) hx)
      clear hx
      obtain ⟨X, hX⟩ : ∃ X, X = wr.alloc (.cells #[.string ⟨x.name.toArray⟩, .string ⟨x.value.toArray⟩, .bool x.set, .bool x.exp, .bool x.ro] 41) := ⟨_, rfl⟩
      have HX := Lib.hid hX
      have HBX := Lib.hid (show Below wr.heap.size wr X by rw [hX]; exact balloc _ _)
      have HC := Lib.hid (find_get1 x nm b X ((HBX.out.cell (p := ⟨b, 0, none⟩) (Nat.lt_of_lt_of_le HLB.out HW.out.size)).trans ((HW.out.cell (p := ⟨b, 0, none⟩) HLB.out).trans HB.out)))
      unfold aggV at HC
      clear hX
      go_wp2_with fail
      rw [← HX.out]
      refine HC.out.mono ?_
      rintro e Y ⟨rfl, hY⟩
      have HY := Lib.hid ((HW.out.trans (HBX.out.mono HW.out.size)).trans (hY.mono (Nat.le_trans HW.out.size HBX.out.size)))
      clear hY
      cases hp : (x.name == nm : Bool) with
      | true =>
        have HF := Lib.hid (show (k : Int) = R by rw [← HN.out, HD.out]; exact (if_pos hp).symm)
        go_wp2
        go_ret
        exact ⟨ret_int HF.out, HY.out⟩
      | false =>
        have HF := Lib.hid (show VR.ix (fun x => x.name == nm) (l.drop (k + 1)) (k + 1) = R by rw [← HN.out, HD.out]; exact (if_neg (by rw [hp]; decide)).symm)
        clear hp
        go_wp2
        go_roundw
        case rel => exact ⟨k + 1, hlt, by go_num, HF, HY⟩
        case measure => simp [intOf]; omega
    · have HF := Lib.hid (show (-1 : Int) = R by rw [← HN.out, VR.ix_end _ hlt])
      go_wp2
      go_ret
      exact ⟨ret_int HF.out, HW.out⟩
theorem find_old1 (x : VR.Var) (nm : List UInt8) (b : Nat) (w : World) (hb : w.cell? ⟨b, 0, none⟩ = some (.string ⟨nm.toArray⟩)) :
    Calls Tryz.prog 153 #[aggV x, .pointer (some ⟨b, 0, none⟩)] w fun e w' => e = .returned (.bool (x.name == nm)) ∧ Below w.heap.size w w' := by
  have hlt := lt_cell hb
  skip
  unfold aggV
  go_enter Tryz.func153, Tryz.ntmps153
  go_wp2
  go_ret
  exact ⟨rfl, balloc _ _⟩
set_option maxHeartbeats 1000000 in
theorem find_old (l : List VR.Var) (nm : List UInt8) (b : Nat) (v : Value) (w : World) (hv : VV w v l) (hl : l.length ≤ 100000) (hb : w.cell? ⟨b, 0, none⟩ = some (.string ⟨nm.toArray⟩)) :
    Calls Tryz.prog 102 #[v, .func (Fn.func 153) #[] #[.pointer (some ⟨b, 0, none⟩)]] w fun e w' => e = .returned (.int .i64 (VR.ix (fun x => x.name == nm) l 0)) ∧ Below w.heap.size w w' := by
  obtain ⟨A, cap, rfl, -⟩ := hv.slice
  obtain ⟨R, hR⟩ : ∃ R, VR.ix (fun x => x.name == nm) (l.drop 0) 0 = R := ⟨_, rfl⟩
  rw [show VR.ix (fun x => x.name == nm) l 0 = R from hR]
  have HR := Lib.hid hR
  have HV := Lib.hid hv
  have HB := Lib.hid hb
  have HLB := Lib.hid (lt_cell hb)
  clear hR hv hb
  go_enter Tryz.func102, Tryz.ntmps102
  go_wp2
  go_loopw [9] (fun i wr => ∃ k : Nat, k ≤ l.length ∧ i = .int .i64 k ∧ Hid (VR.ix (fun x => x.name == nm) (l.drop k) k = R) ∧ Hid (Below w.heap.size w wr)) (fun i _ => l.length - (intOf i).toNat)
  case atStart => exact ⟨0, Nat.zero_le _, rfl, HR, Lib.hid (Below.refl _ _)⟩
  case round =>
    obtain ⟨k, hk, rfl, HN, HW⟩ := hrel
    by_cases hlt : k < l.length
    · obtain ⟨x, hx⟩ : ∃ x, l[k]? = some x := ⟨_, List.getElem?_eq_getElem hlt⟩
      obtain ⟨bb, off, rfl, hbl, g0, g1, g2, g3, g4⟩ := VV.get (HV.out.below HW.out) hx
      have HD := Lib.hid (VR.ix_drop (fun x => x.name == nm) hx)
      clear hx
      obtain ⟨X, hX⟩ : ∃ X, X = wr.alloc (.cells #[.string ⟨x.name.toArray⟩, .string ⟨x.value.toArray⟩, .bool x.set, .bool x.exp, .bool x.ro] 41) := ⟨_, rfl⟩
      have HX := Lib.hid hX
      have HBX := Lib.hid (show Below wr.heap.size wr X by rw [hX]; exact balloc _ _)
      have HC := Lib.hid (find_old1 x nm b X ((HBX.out.cell (p := ⟨b, 0, none⟩) (Nat.lt_of_lt_of_le HLB.out HW.out.size)).trans ((HW.out.cell (p := ⟨b, 0, none⟩) HLB.out).trans HB.out)))
      unfold aggV at HC
      clear hX
      go_wp2_with fail
      rw [← HX.out]
      refine HC.out.mono ?_
      rintro e Y ⟨rfl, hY⟩
      have HY := Lib.hid ((HW.out.trans (HBX.out.mono HW.out.size)).trans (hY.mono (Nat.le_trans HW.out.size HBX.out.size)))
      clear hY
      cases hp : (x.name == nm : Bool) with
      | true =>
        have HF := Lib.hid (show (k : Int) = R by rw [← HN.out, HD.out]; exact (if_pos hp).symm)
        go_wp2
        go_ret
        exact ⟨ret_int HF.out, HY.out⟩
      | false =>
        have HF := Lib.hid (show VR.ix (fun x => x.name == nm) (l.drop (k + 1)) (k + 1) = R by rw [← HN.out, HD.out]; exact (if_neg (by rw [hp]; decide)).symm)
        clear hp
        go_wp2
        go_roundw
        case rel => exact ⟨k + 1, hlt, by go_num, HF, HY⟩
        case measure => simp [intOf]; omega
    · have HF := Lib.hid (show (-1 : Int) = R by rw [← HN.out, VR.ix_end _ hlt])
      go_wp2
      go_ret
      exact ⟨ret_int HF.out, HW.out⟩
theorem find_more1 (x : VR.Var) (nm : List UInt8) (b : Nat) (w : World) (hb : w.cell? ⟨b, 0, none⟩ = some (.string ⟨nm.toArray⟩)) :
    Calls Tryz.prog 154 #[aggV x, .pointer (some ⟨b, 0, none⟩)] w fun e w' => e = .returned (.bool (decide (nm < x.name))) ∧ Below w.heap.size w w' := by
  have hlt := lt_cell hb
  have hg := fun t => gtr_lists t x.name nm
  unfold aggV
  go_enter Tryz.func154, Tryz.ntmps154
  go_wp2
  go_ret
  exact ⟨rfl, balloc _ _⟩
set_option maxHeartbeats 1000000 in
theorem find_more (l : List VR.Var) (nm : List UInt8) (b : Nat) (v : Value) (w : World) (hv : VV w v l) (hl : l.length ≤ 100000) (hb : w.cell? ⟨b, 0, none⟩ = some (.string ⟨nm.toArray⟩)) :
    Calls Tryz.prog 102 #[v, .func (Fn.func 154) #[] #[.pointer (some ⟨b, 0, none⟩)]] w fun e w' => e = .returned (.int .i64 (VR.ix (fun x => decide (nm < x.name)) l 0)) ∧ Below w.heap.size w w' := by
  obtain ⟨A, cap, rfl, -⟩ := hv.slice
  obtain ⟨R, hR⟩ : ∃ R, VR.ix (fun x => decide (nm < x.name)) (l.drop 0) 0 = R := ⟨_, rfl⟩
  rw [show VR.ix (fun x => decide (nm < x.name)) l 0 = R from hR]
  have HR := Lib.hid hR
  have HV := Lib.hid hv
  have HB := Lib.hid hb
  have HLB := Lib.hid (lt_cell hb)
  clear hR hv hb
  go_enter Tryz.func102, Tryz.ntmps102
  go_wp2
  go_loopw [9] (fun i wr => ∃ k : Nat, k ≤ l.length ∧ i = .int .i64 k ∧ Hid (VR.ix (fun x => decide (nm < x.name)) (l.drop k) k = R) ∧ Hid (Below w.heap.size w wr)) (fun i _ => l.length - (intOf i).toNat)
  case atStart => exact ⟨0, Nat.zero_le _, rfl, HR, Lib.hid (Below.refl _ _)⟩
  case round =>
    obtain ⟨k, hk, rfl, HN, HW⟩ := hrel
    by_cases hlt : k < l.length
    · obtain ⟨x, hx⟩ : ∃ x, l[k]? = some x := ⟨_, List.getElem?_eq_getElem hlt⟩
      obtain ⟨bb, off, rfl, hbl, g0, g1, g2, g3, g4⟩ := VV.get (HV.out.below HW.out) hx
      have HD := Lib.hid (VR.ix_drop (fun x => decide (nm < x.name)) hx)
      clear hx
      obtain ⟨X, hX⟩ : ∃ X, X = wr.alloc (.cells #[.string ⟨x.name.toArray⟩, .string ⟨x.value.toArray⟩, .bool x.set, .bool x.exp, .bool x.ro] 41) := ⟨_, rfl⟩
      have HX := Lib.hid hX
      have HBX := Lib.hid (show Below wr.heap.size wr X by rw [hX]; exact balloc _ _)
      have HC := Lib.hid (find_more1 x nm b X ((HBX.out.cell (p := ⟨b, 0, none⟩) (Nat.lt_of_lt_of_le HLB.out HW.out.size)).trans ((HW.out.cell (p := ⟨b, 0, none⟩) HLB.out).trans HB.out)))
      unfold aggV at HC
      clear hX
      go_wp2_with fail
      rw [← HX.out]
      refine HC.out.mono ?_
      rintro e Y ⟨rfl, hY⟩
      have HY := Lib.hid ((HW.out.trans (HBX.out.mono HW.out.size)).trans (hY.mono (Nat.le_trans HW.out.size HBX.out.size)))
      clear hY
      cases hp : (decide (nm < x.name) : Bool) with
      | true =>
        have HF := Lib.hid (show (k : Int) = R by rw [← HN.out, HD.out]; exact (if_pos hp).symm)
        go_wp2
        go_ret
        exact ⟨ret_int HF.out, HY.out⟩
      | false =>
        have HF := Lib.hid (show VR.ix (fun x => decide (nm < x.name)) (l.drop (k + 1)) (k + 1) = R by rw [← HN.out, HD.out]; exact (if_neg (by rw [hp]; decide)).symm)
        clear hp
        go_wp2
        go_roundw
        case rel => exact ⟨k + 1, hlt, by go_num, HF, HY⟩
        case measure => simp [intOf]; omega
    · have HF := Lib.hid (show (-1 : Int) = R by rw [← HN.out, VR.ix_end _ hlt])
      go_wp2
      go_ret
      exact ⟨ret_int HF.out, HW.out⟩
end W
end Go.Proofs.YtcbebkeakkahgaaGreatDoor
