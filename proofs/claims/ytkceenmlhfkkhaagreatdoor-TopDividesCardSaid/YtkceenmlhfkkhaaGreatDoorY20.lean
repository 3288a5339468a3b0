/- Several texts in one: W20a W20b W20c N21 W20d. -/
import Derived.Test.YtkceenmlhfkkhaaGreatDoorYS
import Derived.Laws.StructEq
import Derived.Lib.AppendStr
import Derived.RangeFuncNested
import Derived.RangeFuncBound
import Derived.RangeFuncCalls
import Derived.RangeFuncLeaves
import Derived.RangeFuncRecord
import Derived.WalkKit
import Derived.OwnWalkIn
import Derived.TacticsInMore
import Derived.LoopNIn
import Derived.LoopIn
import Derived.Test.YtkceenmlhfkkhaaGreatDoorY15
namespace Go.Proofs.YtkceenmlhfkkhaaGreatDoor
open Go.RowKit K
namespace PT
/-- The characters of runs: bytes, and whether they are active. -/
def chs (r : SP.Run) : List (UInt8 × Bool) := r.1.map fun b => (b, !decide (r.2 = 1))
def chars (l : List SP.Run) : List (UInt8 × Bool) := l.flatMap chs
theorem chars_drop {l : List SP.Run} {k : Nat} {r : SP.Run} (h : l[k]? = some r) : chars (l.drop k) = chs r ++ chars (l.drop (k + 1)) := by
  obtain ⟨hk, rfl⟩ := List.getElem?_eq_some_iff.1 h
  rw [List.drop_eq_getElem_cons hk]
  rfl
/-- Characters none of which has a meaning in patterns. -/
def plain (c : UInt8 × Bool) : Prop := ∀ b : UInt8, b = 42 ∨ b = 63 ∨ b = 91 → c ≠ (b, true)
theorem chars_plain {l : List SP.Run} (h : ∀ r ∈ l, SP.lit r) : ∀ c ∈ chars l, plain c := by
  intro c hc
  unfold chars at hc
  obtain ⟨r, hr, hc⟩ := List.mem_flatMap.1 hc
  obtain ⟨b, hb, rfl⟩ := List.mem_map.1 hc
  intro b2 hb2 e
  injection e with e1 e2
  rcases h r hr with h1 | h1
  · rw [decide_eq_true h1] at e2; cases e2
  · have := h1 b hb
    rw [e1] at this
    rcases hb2 with rfl | rfl | rfl
    · exact this.1 rfl
    · exact this.2.1 rfl
    · exact this.2.2 rfl
end PT
namespace W
set_option maxRecDepth 100000
def ec (c : UInt8 × Bool) : List Value := [.int .u8 (c.1.toNat : Int), .bool c.2]
theorem ec_len (c : UInt8 × Bool) : (ec c).length = 2 := rfl
theorem ec_one (a : Int) (b : Bool) : ∀ u ∈ ([.int .u8 a, .bool b] : List Value), u.oneCell' = true := by
  intro u hu
  simp at hu
  rcases hu with rfl | rfl <;> rfl
theorem OR.snocG {α : Type} {m : Nat} {enc : α → List Value} {T : TypeId} {base : Nat} {w : World} {v : Value} {l : List α} {x : α} (h : w.ownsRow base T m v (l.length + 1) (l.flatMap enc ++ enc x)) : OR m enc T base w v (l ++ [x]) := by
  unfold OR
  rw [List.length_append, List.flatMap_append, show [x].flatMap enc = enc x from List.append_nil _]
  exact h
theorem infoCh : (Tryz.prog.info? 188).map (fun i => (i.zero, i.size, i.bytes)) = some (some (.agg #[.int .u8 0, .bool false]), 2, 2) := by kernel_rfl
set_option maxHeartbeats 8000000 in
theorem chars_any (l : List SP.Run) (v : Value) (w : World) (hv : R2 w v l) (hl : l.length ≤ 1000000) (hz : (PT.chars l).length ≤ 1000000) (hc : ∀ r ∈ l, 0 ≤ r.2 ∧ r.2 ≤ 2) (ht : ∀ r ∈ l, r.1.length ≤ 1000000) :
    Calls Tryz.prog 103 #[v] w fun e w' => ∃ v', e = .returned v' ∧ OR 2 ec 188 w.heap.size w' v' (PT.chars l) ∧ Below w.heap.size w w' := by
  obtain ⟨i0, hi, hz0, hz1, hz2⟩ := info_parts infoCh
  obtain ⟨A, cap, rfl, -⟩ := hv.slice
  obtain ⟨R, hR⟩ : ∃ R, PT.chars l = R := ⟨_, rfl⟩
  rw [hR] at hz ⊢
  have HR := Lib.hid (show ([] : List (UInt8 × Bool)) ++ PT.chars (l.drop 0) = R from hR)
  have HZ := Lib.hid hz
  have HVV := Lib.hid hv
  have HC := Lib.hid hc
  have HT := Lib.hid ht
  clear hR hv hz hc ht
  go_enter Tryz.func103, Tryz.ntmps103
  go_wp2
  go_loopw [3, 9] (fun o i wr => ∃ (k : Nat) (acc : List (UInt8 × Bool)), k ≤ l.length ∧ i = .int .i64 k ∧ Hid (acc ++ PT.chars (l.drop k) = R) ∧ Hid (OR 2 ec 188 w.heap.size wr o acc) ∧ Hid (Below w.heap.size w wr)) (fun _ i _ => l.length - (intOf i).toNat)
  case atStart => exact ⟨0, [], Nat.zero_le _, rfl, HR, Lib.hid (OR.nil _ _ _), Lib.hid (Below.refl _ _)⟩
  case round =>
    obtain ⟨k, acc, hk, rfl, HN, HO, HB⟩ := hrel
    obtain ⟨A1, c1, rfl⟩ := HO.out.val
    by_cases hlt : k < l.length
    · obtain ⟨⟨t, c⟩, hx⟩ : ∃ x, l[k]? = some x := ⟨_, List.getElem?_eq_getElem hlt⟩
      obtain ⟨bb, off, rfl, hbl, g0, g1⟩ := R2.get (HVV.out.below HB.out) hx
      have hcl := HC.out _ (List.mem_of_getElem? hx)
      have htl := HT.out _ (List.mem_of_getElem? hx)
      have HD := Lib.hid (PT.chars_drop hx)
      clear hx
      dsimp only at g0 g1 hcl htl
      obtain ⟨X, hX⟩ : ∃ X, X = wr.alloc (.cells #[.string ⟨t.toArray⟩, .int .i64 c] 121) := ⟨_, rfl⟩
      obtain ⟨q0, hq0⟩ : ∃ q0, wr.heap.size = q0 := ⟨_, rfl⟩
      have HX := Lib.hid hX
      have HBX := Lib.hid (show Below wr.heap.size wr X by rw [hX]; exact balloc _ _)
      have hxp : X.heap[q0]? = some (.cells #[.string ⟨t.toArray⟩, .int .i64 c] 121 (0, 0)) := by rw [hX]; exact al_new' wr _ _ hq0.symm
      have HXP := Lib.hid hxp
      have x0 := Lib.cell_of_heap hxp 0
      have x1 := Lib.cell_of_heap hxp 1
      have hxl : q0 < X.heap.size := (Array.getElem?_eq_some_iff.1 hxp).1
      have HOX := Lib.hid (HO.out.below HBX.out)
      have HBW := Lib.hid (HB.out.trans (HBX.out.mono HB.out.size))
      have hc3 : c = 0 ∨ c = 1 ∨ c = 2 := by omega
      have HEL := Lib.hid (show acc ++ (((t.drop 0).map fun b => (b, !decide (c = 1))) ++ PT.chars (l.drop (k + 1))) = R by rw [← HN.out, HD.out]; rfl)
      clear hX hxp hcl
      have HTL := Lib.hid htl
      clear htl
      rcases hc3 with rfl | rfl | rfl
      case inl =>
        have HF := Lib.hid (show acc ++ (((t.drop 0).map fun b => (b, true)) ++ PT.chars (l.drop (k + 1))) = R from HEL.out)
        clear HEL
        go_upto_region 5 with (fail)
        rw [← HX.out]
        go_wp2
        go_loopw [3, 6] (fun o i wr => ∃ (j : Nat) (acc3 : List (UInt8 × Bool)), j ≤ t.length ∧ i = .int .i64 j ∧ Hid (acc3 ++ (((t.drop j).map fun b => (b, true)) ++ PT.chars (l.drop (k + 1))) = R) ∧ Hid (OR 2 ec 188 w.heap.size wr o acc3) ∧ Hid (Below w.heap.size w wr) ∧ Hid (wr.heap[q0]? = some (.cells #[.string ⟨t.toArray⟩, .int .i64 0] 121 (0, 0)))) (fun _ i _ => t.length - (intOf i).toNat)
        case atStart => exact ⟨0, acc, Nat.zero_le _, rfl, HF, HOX, HBW, HXP⟩
        case round =>
          obtain ⟨j, acc3, hj, rfl, HN3, HO3, HB3, HXQ⟩ := hrel
          obtain ⟨A3, c3, rfl⟩ := HO3.out.val
          have HAL3 := Lib.hid (show acc3.length ≤ 1000000 by have h1 := HZ.out; rw [← HN3.out, List.length_append] at h1; omega)
          have x0 := Lib.cell_of_heap HXQ.out 0
          have x1 := Lib.cell_of_heap HXQ.out 1
          have hxw := (Array.getElem?_eq_some_iff.1 HXQ.out).1
          by_cases hjl : j < t.length
          · obtain ⟨y, hy, hyb, -⟩ := drop_cons t j hjl
            have HF3 := Lib.hid (show (acc3 ++ [(y, true)]) ++ (((t.drop (j + 1)).map fun b => (b, true)) ++ PT.chars (l.drop (k + 1))) = R by rw [← HN3.out, hy]; simp)
            obtain ⟨A4, c4, W4, hrun, ho4, hg4, -⟩ := app_row (T := 188) (ST := 179) Tryz.underlying179 hi hz0 hz1 hz2 rfl (by decide) (by decide) wr w.heap.size acc3.length (.slice A3 acc3.length c3) _ [.int .u8 (bt t j), .bool true] rfl (ec_one _ _) HO3.out (by have := HAL3.out; omega) HB3.out.size
            have HRUN := Lib.hid hrun
            have HB4 := Lib.hid (((HB3.out.trans ((balloc wr (.cells [.int .u8 (bt t j), .bool true].toArray 188)).mono HB3.out.size)).drew).grown hg4 (by have := HB3.out.size; simp; omega) (fun q hq => own_ge HO3.out q hq))
            have HXQ4 := Lib.hid (show W4.heap[q0]? = some (.cells #[.string ⟨t.toArray⟩, .int .i64 0] 121 (0, 0)) from (hg4.block q0 (by simp; omega) (fun e => own_apart HO3.out HXQ.out (by decide) q0 e.symm rfl)).trans ((Below.heap_alloc _ _ _ hxw).trans HXQ.out))
            have HO4 := Lib.hid (OR.snocG (enc := ec) (l := acc3) (x := (y, true)) (by rw [hyb] at ho4; exact ho4))
            clear hrun ho4 hg4 hy hyb
            have j0 : (j : Int) + 1 ≤ 1000000 := by have := HTL.out; omega
            have j3 : IntKind.i64.wrap ((j : Int) + 1) = (j : Int) + 1 := by rw [IntKind.wrap_i64]; omega
            go_wp2_with fail
            go_region_law (refine step_append_eq8 rfl _ _ 179 rfl 179 rfl _ _ rfl rfl HRUN.out ?_)
            all_goals
              go_wp2
              go_roundw
              case rel => exact ⟨j + 1, acc3 ++ [(y, true)], hjl, by go_num, HF3, HO4, HB4, HXQ4⟩
              case measure => simp [intOf]; omega
          · have HF3 := Lib.hid (show acc3 ++ PT.chars (l.drop (k + 1)) = R by rw [← HN3.out, show t.drop j = [] from List.drop_eq_nil_of_le (by omega)]; rfl)
            go_wp2
            go_roundw
            case rel => exact ⟨k + 1, acc3, hlt, by go_num, HF3, HO3, HB3⟩
            case measure => simp [intOf]; omega
      case inr.inl =>
        have HF := Lib.hid (show acc ++ (((t.drop 0).map fun b => (b, false)) ++ PT.chars (l.drop (k + 1))) = R from HEL.out)
        clear HEL
        go_upto_region 5 with (fail)
        rw [← HX.out]
        go_wp2
        go_loopw [3, 6] (fun o i wr => ∃ (j : Nat) (acc3 : List (UInt8 × Bool)), j ≤ t.length ∧ i = .int .i64 j ∧ Hid (acc3 ++ (((t.drop j).map fun b => (b, false)) ++ PT.chars (l.drop (k + 1))) = R) ∧ Hid (OR 2 ec 188 w.heap.size wr o acc3) ∧ Hid (Below w.heap.size w wr) ∧ Hid (wr.heap[q0]? = some (.cells #[.string ⟨t.toArray⟩, .int .i64 1] 121 (0, 0)))) (fun _ i _ => t.length - (intOf i).toNat)
        case atStart => exact ⟨0, acc, Nat.zero_le _, rfl, HF, HOX, HBW, HXP⟩
        case round =>
          obtain ⟨j, acc3, hj, rfl, HN3, HO3, HB3, HXQ⟩ := hrel
          obtain ⟨A3, c3, rfl⟩ := HO3.out.val
          have HAL3 := Lib.hid (show acc3.length ≤ 1000000 by have h1 := HZ.out; rw [← HN3.out, List.length_append] at h1; omega)
          have x0 := Lib.cell_of_heap HXQ.out 0
          have x1 := Lib.cell_of_heap HXQ.out 1
          have hxw := (Array.getElem?_eq_some_iff.1 HXQ.out).1
          by_cases hjl : j < t.length
          · obtain ⟨y, hy, hyb, -⟩ := drop_cons t j hjl
            have HF3 := Lib.hid (show (acc3 ++ [(y, false)]) ++ (((t.drop (j + 1)).map fun b => (b, false)) ++ PT.chars (l.drop (k + 1))) = R by rw [← HN3.out, hy]; simp)
            obtain ⟨A4, c4, W4, hrun, ho4, hg4, -⟩ := app_row (T := 188) (ST := 179) Tryz.underlying179 hi hz0 hz1 hz2 rfl (by decide) (by decide) wr w.heap.size acc3.length (.slice A3 acc3.length c3) _ [.int .u8 (bt t j), .bool false] rfl (ec_one _ _) HO3.out (by have := HAL3.out; omega) HB3.out.size
            have HRUN := Lib.hid hrun
            have HB4 := Lib.hid (((HB3.out.trans ((balloc wr (.cells [.int .u8 (bt t j), .bool false].toArray 188)).mono HB3.out.size)).drew).grown hg4 (by have := HB3.out.size; simp; omega) (fun q hq => own_ge HO3.out q hq))
            have HXQ4 := Lib.hid (show W4.heap[q0]? = some (.cells #[.string ⟨t.toArray⟩, .int .i64 1] 121 (0, 0)) from (hg4.block q0 (by simp; omega) (fun e => own_apart HO3.out HXQ.out (by decide) q0 e.symm rfl)).trans ((Below.heap_alloc _ _ _ hxw).trans HXQ.out))
            have HO4 := Lib.hid (OR.snocG (enc := ec) (l := acc3) (x := (y, false)) (by rw [hyb] at ho4; exact ho4))
            clear hrun ho4 hg4 hy hyb
            have j0 : (j : Int) + 1 ≤ 1000000 := by have := HTL.out; omega
            have j3 : IntKind.i64.wrap ((j : Int) + 1) = (j : Int) + 1 := by rw [IntKind.wrap_i64]; omega
            go_wp2_with fail
            go_region_law (refine step_append_eq8 rfl _ _ 179 rfl 179 rfl _ _ rfl rfl HRUN.out ?_)
            all_goals
              go_wp2
              go_roundw
              case rel => exact ⟨j + 1, acc3 ++ [(y, false)], hjl, by go_num, HF3, HO4, HB4, HXQ4⟩
              case measure => simp [intOf]; omega
          · have HF3 := Lib.hid (show acc3 ++ PT.chars (l.drop (k + 1)) = R by rw [← HN3.out, show t.drop j = [] from List.drop_eq_nil_of_le (by omega)]; rfl)
            go_wp2
            go_roundw
            case rel => exact ⟨k + 1, acc3, hlt, by go_num, HF3, HO3, HB3⟩
            case measure => simp [intOf]; omega
      case inr.inr =>
        have HF := Lib.hid (show acc ++ (((t.drop 0).map fun b => (b, true)) ++ PT.chars (l.drop (k + 1))) = R from HEL.out)
        clear HEL
        go_upto_region 5 with (fail)
        rw [← HX.out]
        go_wp2
        go_loopw [3, 6] (fun o i wr => ∃ (j : Nat) (acc3 : List (UInt8 × Bool)), j ≤ t.length ∧ i = .int .i64 j ∧ Hid (acc3 ++ (((t.drop j).map fun b => (b, true)) ++ PT.chars (l.drop (k + 1))) = R) ∧ Hid (OR 2 ec 188 w.heap.size wr o acc3) ∧ Hid (Below w.heap.size w wr) ∧ Hid (wr.heap[q0]? = some (.cells #[.string ⟨t.toArray⟩, .int .i64 2] 121 (0, 0)))) (fun _ i _ => t.length - (intOf i).toNat)
        case atStart => exact ⟨0, acc, Nat.zero_le _, rfl, HF, HOX, HBW, HXP⟩
        case round =>
          obtain ⟨j, acc3, hj, rfl, HN3, HO3, HB3, HXQ⟩ := hrel
          obtain ⟨A3, c3, rfl⟩ := HO3.out.val
          have HAL3 := Lib.hid (show acc3.length ≤ 1000000 by have h1 := HZ.out; rw [← HN3.out, List.length_append] at h1; omega)
          have x0 := Lib.cell_of_heap HXQ.out 0
          have x1 := Lib.cell_of_heap HXQ.out 1
          have hxw := (Array.getElem?_eq_some_iff.1 HXQ.out).1
          by_cases hjl : j < t.length
          · obtain ⟨y, hy, hyb, -⟩ := drop_cons t j hjl
            have HF3 := Lib.hid (show (acc3 ++ [(y, true)]) ++ (((t.drop (j + 1)).map fun b => (b, true)) ++ PT.chars (l.drop (k + 1))) = R by rw [← HN3.out, hy]; simp)
            obtain ⟨A4, c4, W4, hrun, ho4, hg4, -⟩ := app_row (T := 188) (ST := 179) Tryz.underlying179 hi hz0 hz1 hz2 rfl (by decide) (by decide) wr w.heap.size acc3.length (.slice A3 acc3.length c3) _ [.int .u8 (bt t j), .bool true] rfl (ec_one _ _) HO3.out (by have := HAL3.out; omega) HB3.out.size
            have HRUN := Lib.hid hrun
            have HB4 := Lib.hid (((HB3.out.trans ((balloc wr (.cells [.int .u8 (bt t j), .bool true].toArray 188)).mono HB3.out.size)).drew).grown hg4 (by have := HB3.out.size; simp; omega) (fun q hq => own_ge HO3.out q hq))
            have HXQ4 := Lib.hid (show W4.heap[q0]? = some (.cells #[.string ⟨t.toArray⟩, .int .i64 2] 121 (0, 0)) from (hg4.block q0 (by simp; omega) (fun e => own_apart HO3.out HXQ.out (by decide) q0 e.symm rfl)).trans ((Below.heap_alloc _ _ _ hxw).trans HXQ.out))
            have HO4 := Lib.hid (OR.snocG (enc := ec) (l := acc3) (x := (y, true)) (by rw [hyb] at ho4; exact ho4))
            clear hrun ho4 hg4 hy hyb
            have j0 : (j : Int) + 1 ≤ 1000000 := by have := HTL.out; omega
            have j3 : IntKind.i64.wrap ((j : Int) + 1) = (j : Int) + 1 := by rw [IntKind.wrap_i64]; omega
            go_wp2_with fail
            go_region_law (refine step_append_eq8 rfl _ _ 179 rfl 179 rfl _ _ rfl rfl HRUN.out ?_)
            all_goals
              go_wp2
              go_roundw
              case rel => exact ⟨j + 1, acc3 ++ [(y, true)], hjl, by go_num, HF3, HO4, HB4, HXQ4⟩
              case measure => simp [intOf]; omega
          · have HF3 := Lib.hid (show acc3 ++ PT.chars (l.drop (k + 1)) = R by rw [← HN3.out, show t.drop j = [] from List.drop_eq_nil_of_le (by omega)]; rfl)
            go_wp2
            go_roundw
            case rel => exact ⟨k + 1, acc3, hlt, by go_num, HF3, HO3, HB3⟩
            case measure => simp [intOf]; omega
    · have HF := Lib.hid (show R = acc by rw [← HN.out, List.drop_eq_nil_of_le (by omega)]; exact (List.append_nil acc))
      go_wp2
      go_ret
      exact ⟨_, rfl, by rw [HF.out]; exact HO.out, HB.out⟩
end W
end Go.Proofs.YtkceenmlhfkkhaaGreatDoor
namespace Go.Proofs.YtkceenmlhfkkhaaGreatDoor
open Go.RowKit K
namespace W
set_option maxRecDepth 100000
abbrev CV (w : World) (v : Value) (l : List (UInt8 × Bool)) : Prop := RV 2 ec w v l
theorem CV.get {w : World} {A : Option Addr} {n cap : Nat} {l : List (UInt8 × Bool)} (h : CV w (.slice A n cap) l) {i : Nat} {x : UInt8 × Bool} (hi : l[i]? = some x) :
    ∃ b off, A = some ⟨b, off, none⟩ ∧ b < w.heap.size ∧ w.cell? ⟨b, off + i * 2, none⟩ = some (.int .u8 (x.1.toNat : Int)) ∧ w.cell? ⟨b, off + i * 2 + 1, none⟩ = some (.bool x.2) := by
  obtain ⟨b, off, h1, h2, h3⟩ := RV.get h hi
  exact ⟨b, off, h1, h2, h3 0 _ rfl, h3 1 _ rfl⟩
theorem is_no (l : List (UInt8 × Bool)) (i : Nat) (b : UInt8) (v : Value) (w : World) (hv : CV w v l) (x : UInt8 × Bool) (hx : l[i]? = some x) (hb : x ≠ (b, true)) :
    Calls Tryz.prog 104 #[v, .int .i64 i, .int .u8 (b.toNat : Int)] w fun e w' => e = .returned (.bool false) ∧ w' = w := by
  obtain ⟨A, cap, rfl, -⟩ := hv.slice
  obtain ⟨bb, off, rfl, hbl, g0, g1⟩ := CV.get hv hx
  have hi := (List.getElem?_eq_some_iff.1 hx).1
  have hi1 : (i : Int) < (l.length : Int) := by omega
  obtain ⟨y, f⟩ := x
  dsimp only at g0 g1
  cases f with
  | false =>
    clear hx hv hb
    go_enter Tryz.func104, Tryz.ntmps104
    go_wp2
    go_ret
    exact ⟨by simp, rfl⟩
  | true =>
    have hne : ((y.toNat : Int) == (b.toNat : Int)) = false := by
      rw [beq_eq_false_iff_ne]
      intro e
      exact hb (by rw [show y = b from UInt8.toNat_inj.1 (by omega)])
    have hne2 : ¬ (y.toNat : Int) = (b.toNat : Int) := by simpa using hne
    generalize (y.toNat : Int) = yi at *
    generalize (b.toNat : Int) = bi at *
    clear hx hv hb
    go_enter Tryz.func104, Tryz.ntmps104
    go_wp2
    go_ret
    exact ⟨by simp, rfl⟩
/-- The item of a byte. -/
def pe (c : UInt8 × Bool) : List Value := [.int .i64 1, .string ⟨[c.1].toArray⟩, .bool false, .slice none 0 0]
theorem pe_len (c : UInt8 × Bool) : (pe c).length = 4 := rfl
theorem pe_one (c : UInt8 × Bool) : ∀ u ∈ pe c, u.oneCell' = true := by
  intro u hu
  simp [pe] at hu
  rcases hu with rfl | rfl | rfl | rfl <;> rfl
theorem infoPI : (Tryz.prog.info? 184).map (fun i => (i.zero, i.size, i.bytes)) = some (some (.agg #[.int .i64 0, .string ⟨#[]⟩, .bool false, .slice none 0 0]), 4, 56) := by kernel_rfl
theorem cells4 (w : World) (q : Nat) (hq : q = w.heap.size) (a b c d : Value) (T : TypeId) : ∀ (j : Nat) (u : Value), [a, b, c, d][j]? = some u → (w.alloc (.cells #[a, b, c, d] T)).cell? ((⟨q, 0, none⟩ : Addr).add j) = some u := by
  subst hq
  intro j u hj
  match j, hj with
  | 0, hj => simp at hj; subst hj; simp [Addr.add]
  | 1, hj => simp at hj; subst hj; simp [Addr.add]
  | 2, hj => simp at hj; subst hj; simp [Addr.add]
  | 3, hj => simp at hj; subst hj; simp [Addr.add]
  | n + 4, hj => simp at hj
/-- string([]byte{c}) -/
theorem one_byte (w : World) (c : UInt8) :
    (convert 81 9 (.slice (some ⟨w.heap.size, 0, none⟩) 1 1)).run Tryz.prog (w.alloc (.cells #[.int .u8 (c.toNat : Int)] 5)) = .ok (.string ⟨[c].toArray⟩) (w.alloc (.cells #[.int .u8 (c.toNat : Int)] 5)) :=
  run_convert_bytes_back (P := Tryz.prog) _ _ _ _ ⟨w.heap.size, 0, none⟩ 1 [c] Tryz.underlying81 Tryz.underlying5 Tryz.underlying9 (fun j hj => by
    have : j = 0 := by simpa using hj
    subst this
    simp [Addr.add])
set_option maxHeartbeats 8000000 in
theorem Compile_lit (l : List SP.Run) (v : Value) (w : World) (hv : R2 w v l) (hl : l.length ≤ 1000000) (hz : (PT.chars l).length ≤ 1000000) (hc : ∀ r ∈ l, 0 ≤ r.2 ∧ r.2 ≤ 2) (ht : ∀ r ∈ l, r.1.length ≤ 1000000) (hp : ∀ r ∈ l, SP.lit r) :
    Calls Tryz.prog 59 #[v] w fun e w' => ∃ v', e = .returned v' ∧ OR 4 pe 184 w.heap.size w' v' (PT.chars l) ∧ Below w.heap.size w w' := by
  obtain ⟨i0, hi, hz0, hz1, hz2⟩ := info_parts infoPI
  have HCH := Lib.hid (chars_any l v w hv hl hz hc ht)
  have HPL := Lib.hid (PT.chars_plain hp)
  obtain ⟨A, cap, rfl, -⟩ := hv.slice
  generalize PT.chars l = cs at *
  have HZ := Lib.hid hz
  clear hv hl hz hc ht hp
  go_enter Tryz.func59, Tryz.ntmps59
  go_wp2_with fail
  refine HCH.out.mono ?_
  rintro e Y1 ⟨v1, rfl, ho1, hY1⟩
  obtain ⟨A1, c1, rfl⟩ := ho1.val
  have HC1 := Lib.hid (ho1.rv ec_len)
  have HY1 := Lib.hid hY1
  clear ho1 hY1
  go_wp2
  go_loopw [4, 5] (fun o i wr => ∃ k : Nat, k ≤ cs.length ∧ i = .int .i64 k ∧ Hid (OR 4 pe 184 Y1.heap.size wr o (cs.take k)) ∧ Hid (Below Y1.heap.size Y1 wr)) (fun _ i _ => cs.length - (intOf i).toNat)
  case atStart => exact ⟨0, Nat.zero_le _, rfl, Lib.hid (OR.nil _ _ _), Lib.hid (Below.refl _ _)⟩
  case round =>
    obtain ⟨k, hk, rfl, HO, HB⟩ := hrel
    obtain ⟨A2, c2, rfl⟩ := HO.out.val
    have hkl : (cs.take k).length = k := by rw [List.length_take]; omega
    have HOk := Lib.hid (show wr.ownsRow Y1.heap.size 184 4 (.slice A2 k c2) k ((cs.take k).flatMap pe) by have h := HO.out; unfold OR at h; rw [hkl] at h; exact h)
    rw [hkl]
    by_cases hlt : k < cs.length
    · obtain ⟨x, hx⟩ : ∃ x, cs[k]? = some x := ⟨_, List.getElem?_eq_getElem hlt⟩
      have hpl := HPL.out x (List.mem_of_getElem? hx)
      have HI1 := Lib.hid (is_no cs k 91 _ wr (HC1.out.below HB.out) x hx (hpl 91 (by simp)))
      have HI2 := Lib.hid (is_no cs k 42 _ wr (HC1.out.below HB.out) x hx (hpl 42 (by simp)))
      have HI3 := Lib.hid (is_no cs k 63 _ wr (HC1.out.below HB.out) x hx (hpl 63 (by simp)))
      obtain ⟨bb, off, rfl, hbl, g0, -⟩ := CV.get (HC1.out.below HB.out) hx
      have HTK := Lib.hid (show cs.take (k + 1) = cs.take k ++ [x] by rw [List.take_add_one, hx]; rfl)
      have k0 : (k : Int) + 1 ≤ 1000000 := by have := HZ.out; omega
      have k1 : (k : Int) < (cs.length : Int) := by omega
      clear hx hpl
      go_wp2_with fail
      refine HI1.out.mono ?_
      rintro e Y ⟨rfl, hwy⟩
      obtain rfl : wr = Y := hwy.symm
      go_wp2_with fail
      refine HI2.out.mono ?_
      rintro e Y ⟨rfl, hwy⟩
      obtain rfl : wr = Y := hwy.symm
      go_wp2_with fail
      refine HI3.out.mono ?_
      rintro e Y ⟨rfl, hwy⟩
      obtain rfl : wr = Y := hwy.symm
      go_upto_region 10 with (fail)
      have HCV := one_byte wr x.1
      go_wp2_with (at_builtin; refine wpList_append_own_at _ rfl _ _ 131 rfl Y1.heap.size 184 i0 _ 4 56 Tryz.underlying131 hi hz0 hz1 hz2 rfl (by decide) _ k _ rfl (row_below HOk.out (btr (balloc _ _) (balloc _ _))) ⟨wr.heap.size + 1, 0, none⟩ 1 1 (pe x) rfl rfl (cells4 (wr.alloc (.cells #[.int .u8 (x.1.toNat : Int)] 5)) _ (by simp) (.int .i64 1) (.string ⟨[x.1].toArray⟩) (.bool false) (.slice none 0 0) _) (pe_one x) (by unfold maxLen; omega) (by omega) (by have := HB.out.size; simp; omega) ?_)
      intro v3 W3 ho3 hg3 _ _
      have HB3 := Lib.hid ((HB.out.trans ((btr (balloc wr (.cells #[.int .u8 (x.1.toNat : Int)] 5)) (balloc _ (.cells (pe x).toArray 184))).mono HB.out.size)).grown hg3 (by have := HB.out.size; simp; omega) (fun q hq => own_ge HOk.out q hq))
      have HO3 := Lib.hid (show OR 4 pe 184 Y1.heap.size W3 v3 (cs.take (k + 1)) by
        rw [HTK.out]
        refine OR.snocG (enc := pe) (l := cs.take k) (x := x) ?_
        rw [hkl]
        exact ho3)
      clear ho3 hg3
      go_wp2
      go_roundw
      case rel => exact ⟨k + 1, hlt, by go_num, HO3, HB3⟩
      case measure => simp [intOf]; omega
    · have hke : k = cs.length := by omega
      subst hke
      go_wp2
      go_ret
      exact ⟨_, rfl, by have := HO.out; rw [List.take_length] at this; exact OR.based this HY1.out.size, HY1.out.trans (HB.out.mono HY1.out.size)⟩
theorem PV.get {w : World} {A : Option Addr} {n cap : Nat} {l : List (UInt8 × Bool)} (h : RV 4 pe w (.slice A n cap) l) {i : Nat} {x : UInt8 × Bool} (hi : l[i]? = some x) :
    ∃ b off, A = some ⟨b, off, none⟩ ∧ b < w.heap.size ∧ w.cell? ⟨b, off + i * 4, none⟩ = some (.int .i64 1) ∧ w.cell? ⟨b, off + i * 4 + 1, none⟩ = some (.string ⟨[x.1].toArray⟩) ∧ w.cell? ⟨b, off + i * 4 + 2, none⟩ = some (.bool false) ∧ w.cell? ⟨b, off + i * 4 + 3, none⟩ = some (.slice none 0 0) := by
  obtain ⟨b, off, h1, h2, h3⟩ := RV.get h hi
  exact ⟨b, off, h1, h2, h3 0 _ rfl, h3 1 _ rfl, h3 2 _ rfl, h3 3 _ rfl⟩
set_option maxHeartbeats 4000000 in
theorem pvalid_lit (l : List (UInt8 × Bool)) (v : Value) (w : World) (hv : RV 4 pe w v l) (hl : l.length ≤ 1000000) :
    Calls Tryz.prog 106 #[v] w fun e w' => e = .returned (.bool true) ∧ Below w.heap.size w w' := by
  obtain ⟨A, cap, rfl, -⟩ := hv.slice
  have HV := Lib.hid hv
  clear hv
  go_enter Tryz.func106, Tryz.ntmps106
  go_wp2
  go_loopw [10] (fun i wr => ∃ k : Nat, k ≤ l.length ∧ i = .int .i64 k ∧ Hid (Below w.heap.size w wr)) (fun i _ => l.length - (intOf i).toNat)
  case atStart => exact ⟨0, Nat.zero_le _, rfl, Lib.hid (Below.refl _ _)⟩
  case round =>
    obtain ⟨k, hk, rfl, HB⟩ := hrel
    by_cases hlt : k < l.length
    · obtain ⟨x, hx⟩ : ∃ x, l[k]? = some x := ⟨_, List.getElem?_eq_getElem hlt⟩
      obtain ⟨bb, off, rfl, hbl, g0, g1, g2, g3⟩ := PV.get (HV.out.below HB.out) hx
      obtain ⟨X, hX⟩ : ∃ X, X = wr.alloc (.cells #[.int .i64 1, .string ⟨[x.1].toArray⟩, .bool false, .slice none 0 0] 184) := ⟨_, rfl⟩
      have HX := Lib.hid hX
      have HBX := Lib.hid (show Below w.heap.size w X by rw [hX]; exact HB.out.trans ((balloc _ _).mono HB.out.size))
      have hxp : X.heap[wr.heap.size]? = some (.cells #[.int .i64 1, .string ⟨[x.1].toArray⟩, .bool false, .slice none 0 0] 184 (0, 0)) := by rw [hX]; exact al_new wr _
      have x0 := Lib.cell_of_heap hxp 0
      have x1 := Lib.cell_of_heap hxp 1
      have x2 := Lib.cell_of_heap hxp 2
      have x3 := Lib.cell_of_heap hxp 3
      clear hX hxp hx
      go_upto_region 4 with (fail)
      rw [← HX.out]
      go_wp2
      go_loopw [48] (fun i wr2 => i = .int .i64 0 ∧ wr2 = X) (fun _ _ => 0)
      case atStart => exact ⟨rfl, rfl⟩
      case round =>
        obtain ⟨rfl, rfl⟩ := hrel
        go_wp2
        go_roundw
        case rel => exact ⟨k + 1, hlt, by go_num, HBX⟩
        case measure => simp [intOf]; omega
    · go_wp2
      go_ret
      exact ⟨rfl, HB.out⟩
end W
end Go.Proofs.YtkceenmlhfkkhaaGreatDoor
namespace Go.Proofs.YtkceenmlhfkkhaaGreatDoor
open Go.RowKit K
namespace W
set_option maxRecDepth 100000
set_option maxHeartbeats 4000000 in
theorem Literal_lit (l : List (UInt8 × Bool)) (v : Value) (w : World) (hv : RV 4 pe w v l) (hl : l.length ≤ 1000000) :
    Calls Tryz.prog 60 #[v] w fun e w' => (∃ s : ByteArray, e = .returned (.tuple #[.string s, .bool true])) ∧ Below w.heap.size w w' := by
  obtain ⟨i0, hi, hz0, hz1, hz2⟩ := info_parts infoByte
  have HPV := Lib.hid (pvalid_lit l v w hv hl)
  obtain ⟨A, cap, rfl, -⟩ := hv.slice
  have HV := Lib.hid hv
  have hcv0 : ∀ w : World, (convert 81 9 (.slice none 0 0)).run Tryz.prog w = .ok (.string ⟨#[]⟩) w := fun _ => by kernel_rfl
  clear hv
  go_enter Tryz.func60, Tryz.ntmps60
  go_wp2_with fail
  refine HPV.out.mono ?_
  rintro e Y1 ⟨rfl, hY1⟩
  have HY1 := Lib.hid hY1
  clear hY1
  go_wp2
  go_loopw [4, 12] (fun o i wr => ∃ (k : Nat) (acc : List UInt8), k ≤ l.length ∧ acc.length = k ∧ i = .int .i64 k ∧ Hid (wr.ownsRow w.heap.size 5 1 o k (Lib.byteCells acc)) ∧ Hid (Below w.heap.size w wr)) (fun _ i _ => l.length - (intOf i).toNat)
  case atStart => exact ⟨0, [], Nat.zero_le _, rfl, rfl, Lib.hid (World.ownsRow_nil _ _ _ _), HY1⟩
  case round =>
    obtain ⟨k, acc, hk, hak, rfl, HO, HB⟩ := hrel
    have HAK := Lib.hid hak
    clear hak
    by_cases hlt : k < l.length
    · obtain ⟨A1, c1, rfl⟩ := row_val HO.out
      obtain ⟨x, hx⟩ : ∃ x, l[k]? = some x := ⟨_, List.getElem?_eq_getElem hlt⟩
      obtain ⟨bb, off, rfl, hbl, g0, g1, g2, g3⟩ := PV.get (HV.out.below HB.out) hx
      obtain ⟨X, hX⟩ : ∃ X, X = wr.alloc (.cells #[.int .i64 1, .string ⟨[x.1].toArray⟩, .bool false, .slice none 0 0] 184) := ⟨_, rfl⟩
      have HX := Lib.hid hX
      have HBX := Lib.hid (show Below w.heap.size w X by rw [hX]; exact HB.out.trans ((balloc _ _).mono HB.out.size))
      have HOX := Lib.hid (show X.ownsRow w.heap.size 5 1 (.slice A1 k c1) k (Lib.byteCells acc) by rw [hX]; exact row_below HO.out (balloc _ _))
      have hxp : X.heap[wr.heap.size]? = some (.cells #[.int .i64 1, .string ⟨[x.1].toArray⟩, .bool false, .slice none 0 0] 184 (0, 0)) := by rw [hX]; exact al_new wr _
      have x0 := Lib.cell_of_heap hxp 0
      have x1 := Lib.cell_of_heap hxp 1
      have hbs := HBX.out.size
      clear hX hxp hx
      go_upto_region 7 with (fail)
      rw [← HX.out]
      go_wp2_with (at_builtin; refine Lib.wpList_append_own_string _ rfl _ _ 81 9 rfl w.heap.size 5 i0 Tryz.underlying81 Tryz.underlying9 hi hz0 hz1 hz2 _ k _ rfl HOX.out ⟨[x.1].toArray⟩ rfl ?c3 ?c4 ?c5 ?_)
      case c3 => show k + 1 ≤ _; unfold maxLen; omega
      case c4 => show k + 1 ≤ _; omega
      case c5 => exact hbs
      intro v3 W3 ho3 hg3 _
      have HB3 := Lib.hid (HBX.out.grown hg3 hbs (fun q hq => own_ge HOX.out q hq))
      have HO3 := Lib.hid (show W3.ownsRow w.heap.size 5 1 v3 (k + 1) (Lib.byteCells (acc ++ [x.1])) by
        have h : Lib.byteCells (acc ++ [x.1]) = Lib.byteCells acc ++ Lib.strCells ⟨[x.1].toArray⟩ := by simp [Lib.byteCells, Lib.strCells]
        rw [h]; exact ho3)
      clear ho3 hg3
      go_wp2
      go_roundw
      case rel => exact ⟨k + 1, acc ++ [x.1], hlt, by have := HAK.out; simp; omega, by go_num, HO3, HB3⟩
      case measure => simp [intOf]; omega
    · rcases own_casesN HO.out with ⟨rfl, h0⟩ | ⟨g, c, rfl, hc1, -, hg⟩
      · go_wp2
        go_ret2
        exact ⟨⟨_, rfl⟩, HB.out⟩
      · have hcv := run_convert_bytes_back (P := Tryz.prog) wr 81 9 5 ⟨g, 0, none⟩ c acc Tryz.underlying81 Tryz.underlying5 Tryz.underlying9 (fun j hj => HO.out.cells (g := g) rfl j _ (by simp [Lib.byteCells, hj]))
        rw [HAK.out] at hcv
        go_wp2
        go_ret2
        exact ⟨⟨_, rfl⟩, HB.out⟩
end W
end Go.Proofs.YtkceenmlhfkkhaaGreatDoor
namespace Go.Proofs.YtkceenmlhfkkhaaGreatDoor
open Go.RowKit
namespace K
/-- What abides that a block from B on that holds no cells turns. -/
def Steady (B : Nat) (J : World → Prop) : Prop := ∀ (W : World) (l : Nat) (o o' : Obj), B ≤ l → W.heap[l]? = some o → o.isCells = false → J W → J (W.putObj l o')
theorem range_rel {β : Type} {F : Fence} {n : Nat} {P : Program} {g : Operand} {ps : Array Tmp} {assign body : Code} {Q : Exit → Act → World → Prop} {a : Act} {w : World}
    (hro : F.round = none) (h1 : 1 ≤ n) {gf : Nat} {lb : Array Value} (hg : a.eval g = .func (.func gf) #[] lb) (hFg : F.fn gf) (eg : ∀ args w, (callFunc gf args).run P w = .ok (.enter gf args) w)
    (enc : β → Array Value) (henc : ∀ x, (enc x).size = ps.size) (Rel : β → World → Prop) (I : List β → World → Prop) (It Kp : World → World → Prop) (S : List β → Prop) (N : Nat)
    (hIt : ∀ A B, It A B → ∀ (k : Nat) (o : Obj), A.heap[k]? = some o → o.isCells = false → B.heap[k]? = some o) (hII : ∀ pre A B, I pre A → It A B → I pre B)
    (hIs : ∀ pre, Steady w.heap.size (I pre)) (hRs : ∀ x, Steady w.heap.size (Rel x)) (hKs : ∀ V, Steady w.heap.size (Kp V)) (hKr : ∀ V, Kp V V) (hKt : ∀ U V W, Kp U V → Kp V W → Kp U W)
    (hIa : ∀ r : Loop, I [] ((w.alloc (.deferred (some []))).alloc (.loop r)))
    (hseq : ∀ (l : Nat) (J : List β → World → Prop) (W : World), (∃ r : Loop, W = (w.alloc (.deferred (some []))).alloc (.loop r)) → (∀ pre A B, J pre A → It A B → J pre B) →
      (∀ pre x W1, J pre W1 → Rel x W1 → pre.length < N → YieldAt F (n - 1 - 1) P l (enc x) W1 fun e W' => e = .returned (.bool true) ∧ J (pre ++ [x]) W' ∧ Kp W1 W') → J [] W →
      CallsIn F (n - 1) P gf (#[.func (.yield l) #[] #[]] ++ lb) W fun e W' => (∃ v, e = .returned v) ∧ ∃ xs, S xs ∧ J xs W')
    (a1 : β → Act)
    (hassign : ∀ (l : Nat) (x : β) (W : World) (K : Act → World → Prop), K (a1 x) W → assign.wpIn (F.inRound l) (n - 1 - 1) P (Exit.then K (fun _ _ _ => False)) { tmps := (ps.zip (enc x)).foldl (fun t (p, v) => t.setIfInBounds p v) a.tmps, defers := [] } W)
    (hbody : ∀ (l : Nat) (pre : List β) (x : β) (W : World), I pre W → Rel x W → pre.length < N → body.wpIn (F.inRound l) (n - 1 - 1) P (fun e _ W' => e = .normal ∧ KeepsOthers W W' ∧ Kp W W' ∧ I (pre ++ [x]) W') (a1 x) W)
    (hdone : ∀ (D : Nat) (xs : List β) (W : World), w.heap.size ≤ D → S xs → I xs W → W.heap[D]? = some (.deferred (some [])) → Q .normal { a with defers := { target := .collected D, args := #[] } :: a.defers } W) :
    (Code.rangeFunc g ps assign body).wpIn F n P Q a w := by
  refine wpIn_rangeFunc fun fn hfn => ?_
  rw [hro]
  obtain ⟨rc, hrc⟩ : ∃ rc : LoopState → Loop, rc = fun st => { state := st, pending := none, fn := fn, tmps := a.tmps, params := ps, assign := assign, body := body, defers := w.heap.size } := ⟨_, rfl⟩
  obtain ⟨V, hV⟩ : ∃ V, V = (w.alloc (.deferred (some []))).alloc (.loop (rc .ready)) := ⟨_, rfl⟩
  have eL : V.heap[w.heap.size + 1]? = some (.loop (rc .ready)) := by
    rw [hV]; have := heap_alloc_new (w.alloc (.deferred (some []))) (.loop (rc .ready)); simpa using this
  have eD : V.heap[w.heap.size]? = some (.deferred (some [])) := by
    rw [hV]; exact (Below.heap_alloc _ _ _ (by simp)).trans (heap_alloc_new w _)
  refine ⟨w.heap.size + 1, [{ target := .collected w.heap.size, args := #[] }], V, { target := .fn (.func gf) lb, args := #[.func (.yield (w.heap.size + 1)) #[] #[]] }, V, gf, #[.func (.yield (w.heap.size + 1)) #[] #[]] ++ lb, V, ?_, ?_, ?_, ?_, fun _ => h1, ?_⟩
  · rw [hV, hrc]; exact run_enterLoop_outer _ _ _ _ _
  · simp only [resolve, hg]
    simp [go_sem]
  · intro f' hf'
    simp [Target.leads] at hf'
    subst hf'
    exact hFg
  · simp [invoke, go_sem, eg]
  · refine (hseq (w.heap.size + 1) (fun pre W => I pre W ∧ W.heap[w.heap.size + 1]? = some (.loop (rc .ready)) ∧ W.heap[w.heap.size]? = some (.deferred (some []))) V ⟨_, hV⟩
      (fun pre A B hJ hAB => ⟨hII pre A B hJ.1 hAB, hIt A B hAB _ _ hJ.2.1 rfl, hIt A B hAB _ _ hJ.2.2 rfl⟩) ?_ ⟨by rw [hV]; exact hIa _, eL, eD⟩).mono ?_
    · intro pre x W hJ hR hN
      obtain ⟨hI, hl, hd⟩ := hJ
      have hlt := (Array.getElem?_eq_some_iff.1 hl).1
      have hy := run_yield (P := P) (args := enc x) hl (by rw [hrc]; exact henc x)
      have hbg := run_beginRound (P := P) hl (by rw [hrc])
      rw [hrc] at hy
      refine ⟨fn, _, assign, body, hy, roundIn_of_wpIn hfn (hassign _ x W _ ⟨_, hbg, ?_⟩)⟩
      obtain ⟨W2, hW2⟩ : ∃ W2, W2 = W.putObj (w.heap.size + 1) (.loop { rc .ready with state := .busy }) := ⟨_, rfl⟩
      rw [← hW2]
      have l2 : W2.heap[w.heap.size + 1]? = some (.loop { rc .ready with state := .busy }) := by rw [hW2]; exact World.putObj_heap_same hlt
      have d2 : W2.heap[w.heap.size]? = some (.deferred (some [])) := by rw [hW2]; exact (World.putObj_heap_other (by omega)).trans hd
      have k2 : Kp W W2 := by rw [hW2]; exact hKs W _ _ _ _ (by omega) hl rfl (hKr W)
      refine wpIn_mono (hbody _ pre x W2 (by rw [hW2]; exact hIs pre _ _ _ _ (by omega) hl rfl hI) (by rw [hW2]; exact hRs x _ _ _ _ (by omega) hl rfl hR) hN) ?_
      rintro e a3 W3 ⟨rfl, ho, hk, hi⟩
      have l3 := ho.same _ _ l2 rfl
      have d3 := ho.same _ _ d2 rfl
      have he := run_endRound (P := P) none l3
      refine ⟨_, _, he, rfl, ⟨hIs _ _ _ _ _ (by omega) l3 rfl hi, ?_, (World.putObj_heap_other (by omega)).trans d3⟩, hKs W _ _ _ _ (by omega) l3 rfl (hKt _ _ _ k2 hk)⟩
      rw [World.putObj_heap_same (Array.getElem?_eq_some_iff.1 l3).1, hrc]
      rfl
    · rintro e W2 ⟨⟨v, rfl⟩, xs, hS, hI, hl, hd⟩
      have he := run_endLoop (P := P) hl (by rw [hrc]; simp)
      rw [hrc] at he
      exact ⟨none, _, he, hdone _ xs _ (Nat.le_refl _) hS (hIs xs _ _ _ _ (by omega) hl rfl hI) ((World.putObj_heap_other (by omega)).trans hd)⟩
end K
end Go.Proofs.YtkceenmlhfkkhaaGreatDoor
namespace Go.Proofs.YtkceenmlhfkkhaaGreatDoor
open Go.RowKit K
attribute [local go_sem] Oper.semAt_some
namespace SP
theorem text_app (a b : List Run) : text (a ++ b) = text a ++ text b := List.flatMap_append
theorem text_drop {l : List Run} {k : Nat} {r : Run} (h : l[k]? = some r) : text (l.drop k) = r.1 ++ text (l.drop (k + 1)) := by
  obtain ⟨hk, rfl⟩ := List.getElem?_eq_some_iff.1 h
  rw [List.drop_eq_getElem_cons hk]
  rfl
theorem jn_len (L : List Str) (x : Str) : x.length ≤ (jn L x).length := by
  unfold jn
  cases L with
  | nil => rw [List.nil_append, Lib.join_one]; exact Nat.le_refl _
  | cons y L =>
    rw [List.cons_append, Lib.join_cons, joinTail_app]
    simp [Lib.joinTail]
    omega
theorem jn_count (L : List Str) (x : Str) : L.length ≤ (jn L x).length := by
  unfold jn
  cases L with
  | nil => exact Nat.zero_le _
  | cons y L =>
    rw [List.cons_append, Lib.join_length]
    simp
/-- Runs of a literal field: classes and characters. -/
def okr (l : List Run) : Prop := ∀ r ∈ l, 0 ≤ r.2 ∧ r.2 ≤ 2 ∧ lit r
theorem chars_text : ∀ l : List Run, (PT.chars l).length = (text l).length
  | [] => rfl
  | r :: l => by
    show (PT.chs r ++ PT.chars l).length = (r.1 ++ text l).length
    rw [List.length_append, List.length_append, chars_text l]
    congr 1
    exact List.length_map _
theorem mem_text {l : List Run} {r : Run} (h : r ∈ l) : r.1.length ≤ (text l).length := by
  induction l with
  | nil => cases h
  | cons q l ih =>
    show _ ≤ (q.1 ++ text l).length
    rw [List.length_append]
    rcases List.mem_cons.1 h with rfl | h
    · omega
    · have := ih h; omega
end SP
namespace W
set_option maxRecDepth 100000
/-- What the iterator of pieces may change: rows of runs that are not older than the loop. -/
def PIt (n0 : Nat) (A B : World) : Prop := Below n0 A B ∧ A.heap.size ≤ B.heap.size ∧ ∀ (k : Nat) (o : Obj), A.heap[k]? = some o → (∀ cs f, o ≠ .cells cs 121 f) → B.heap[k]? = some o
/-- What a round of the loop keeps: everything older but for two boxes, and rows of runs. -/
def PKp (n0 sb lb : Nat) (A B : World) : Prop := A.heap.size ≤ B.heap.size ∧ (∀ k, k < n0 → k ≠ sb → k ≠ lb → B.heap[k]? = A.heap[k]?) ∧ ∀ (k : Nat) (cs : Array Value) (f : Nat × Nat), A.heap[k]? = some (.cells cs 121 f) → B.heap[k]? = some (.cells cs 121 f)
/-- What a piece promises. -/
def PRel (x : Value × List SP.Run) (W : World) : Prop := R2 W x.1 x.2 ∧ SP.okr x.2 ∧ (SP.text x.2).length ≤ 100000 ∧ x.2.length ≤ 200000
def names (xs : List (Value × List SP.Run)) : List (List UInt8) := xs.map fun x => SP.text x.2
theorem names_snoc (xs : List (Value × List SP.Run)) (x : Value × List SP.Run) : names (xs ++ [x]) = names xs ++ [SP.text x.2] := by unfold names; simp
theorem own_one (w : World) (T : TypeId) (a b : Value) (n0 : Nat) (h : n0 ≤ w.heap.size) : (w.alloc (.cells #[a, b] T)).ownsRow n0 T 2 (.slice (some ⟨w.heap.size, 0, none⟩) 1 1) 1 [a, b] :=
  ⟨rfl, .inr ⟨w.heap.size, 1, _, rfl, h, al_new w _, Nat.le_refl _, by unfold maxLen; omega, rfl, rfl⟩⟩
theorem PIt.of_below {n0 : Nat} {A B : World} (h : Below A.heap.size A B) (hn : n0 ≤ A.heap.size) : PIt n0 A B :=
  ⟨h.mono hn, h.size, fun k _ ho _ => (h.block k (Array.getElem?_eq_some_iff.1 ho).1).trans ho⟩
theorem PIt.trans {n0 : Nat} {A B C : World} (h : PIt n0 A B) (k : PIt n0 B C) : PIt n0 A C :=
  ⟨h.1.trans k.1, Nat.le_trans h.2.1 k.2.1, fun q o ho hne => k.2.2 q o (h.2.2 q o ho hne) hne⟩
/-- An append to an own row of runs. -/
theorem PIt.grown {n0 : Nat} {A B C : World} {v : Value} {n : Nat} {xs : List Value} (h : Below A.heap.size A B) (hn : n0 ≤ A.heap.size) (ho : A.ownsRow n0 121 2 v n xs) (hg : B.grownBy C v.ownBlock) : PIt n0 A C := by
  have hge := own_ge ho
  refine ⟨(h.mono hn).grown hg (Nat.le_trans hn h.size) hge, Nat.le_trans h.size hg.size, fun k o hk hne => ?_⟩
  have hlt := (Array.getElem?_eq_some_iff.1 hk).1
  rw [hg.block k (Nat.lt_of_lt_of_le hlt h.size) ?_]
  · exact (h.block k hlt).trans hk
  · intro e
    rcases ho.2 with ⟨h1, _⟩ | ⟨g, cap, cur, h1, _, h3, _⟩
    · rw [h1] at e; cases e
    · rw [h1] at e
      simp [Value.ownBlock] at e
      subst e
      rw [hk] at h3
      injection h3 with h3
      exact hne _ _ h3
/-- What both keep. -/
def PG (n0 sb lb : Nat) (A B : World) : Prop := A.heap.size ≤ B.heap.size ∧ ∀ k, k < n0 → k ≠ sb → k ≠ lb → B.heap[k]? = A.heap[k]?
theorem PG.trans {n0 sb lb : Nat} {A B C : World} (h : PG n0 sb lb A B) (k : PG n0 sb lb B C) : PG n0 sb lb A C := ⟨Nat.le_trans h.1 k.1, fun q h1 h2 h3 => (k.2 q h1 h2 h3).trans (h.2 q h1 h2 h3)⟩
theorem PIt.pg {n0 sb lb : Nat} {A B : World} (h : PIt n0 A B) : PG n0 sb lb A B := ⟨h.2.1, fun k hk _ _ => h.1.block k hk⟩
theorem PKp.pg {n0 sb lb : Nat} {A B : World} (h : PKp n0 sb lb A B) : PG n0 sb lb A B := ⟨h.1, h.2.1⟩
theorem PKp.row {n0 sb lb : Nat} {A B : World} (h : PKp n0 sb lb A B) {v : Value} {n : Nat} {xs : List Value} (ho : A.ownsRow n0 121 2 v n xs) : B.ownsRow n0 121 2 v n xs := by
  refine ⟨ho.1, ?_⟩
  rcases ho.2 with h1 | ⟨g, cap, cur, h1, h2, h3, h4⟩
  · exact .inl h1
  · exact .inr ⟨g, cap, cur, h1, h2, h.2.2 _ _ _ h3, h4⟩
theorem PG.cell {n0 sb lb : Nat} {A B : World} (h : PG n0 sb lb A B) {b o : Nat} {v : Value} (hb : b < n0) (h1 : b ≠ sb) (h2 : b ≠ lb) (hc : A.cell? ⟨b, o, none⟩ = some v) : B.cell? ⟨b, o, none⟩ = some v :=
  (World.cell?_of_block (h.2 b hb h1 h2)).trans hc
end W
end Go.Proofs.YtkceenmlhfkkhaaGreatDoor
