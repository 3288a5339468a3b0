/- Built-in commands: set -eu: the options of an operand; printed by gen38d.py. -/
import Derived.Test.YtcbebkeakkahgaaGreatDoorW38c
import Derived.Deep.RegionHeld3
import Derived.Deep.DeepCutAuto
import Derived.Deep.MidRow
namespace Go.Proofs.YtcbebkeakkahgaaGreatDoor
open Go.RowKit K
namespace W
set_option maxRecDepth 100000
theorem put15b {W : World} {g : Nat} {a0 a1 a2 a3 a4 a5 a6 a7 a8 a9 a10 a11 a12 a13 a14 a15 a16 a17 a18 a19 a20 a21 a22 a23 a24 a25 a26 a27 a28 a29 a30 a31 a32 a33 a34 a35 a36 a37 a38 a39 : Value} {T : TypeId} (h : W.heap[g]? = some (.cells #[a0, a1, a2, a3, a4, a5, a6, a7, a8, a9, a10, a11, a12, a13, a14, a15, a16, a17, a18, a19, a20, a21, a22, a23, a24, a25, a26, a27, a28, a29, a30, a31, a32, a33, a34, a35, a36, a37, a38, a39] T (0, 0))) (u0 u1 u2 u3 u4 u5 u6 u7 u8 u9 u10 u11 u12 u13 u14 : Value) :
    (((((((((((((((W.setCell ⟨g, 0, none⟩ (u0)).setCell ⟨g, 1, none⟩ (u1)).setCell ⟨g, 2, none⟩ (u2)).setCell ⟨g, 3, none⟩ (u3)).setCell ⟨g, 4, none⟩ (u4)).setCell ⟨g, 5, none⟩ (u5)).setCell ⟨g, 6, none⟩ (u6)).setCell ⟨g, 7, none⟩ (u7)).setCell ⟨g, 8, none⟩ (u8)).setCell ⟨g, 9, none⟩ (u9)).setCell ⟨g, 10, none⟩ (u10)).setCell ⟨g, 11, none⟩ (u11)).setCell ⟨g, 12, none⟩ (u12)).setCell ⟨g, 13, none⟩ (u13)).setCell ⟨g, 14, none⟩ (u14)).heap[g]? = some (.cells #[u0, u1, u2, u3, u4, u5, u6, u7, u8, u9, u10, u11, u12, u13, u14, a15, a16, a17, a18, a19, a20, a21, a22, a23, a24, a25, a26, a27, a28, a29, a30, a31, a32, a33, a34, a35, a36, a37, a38, a39] T (0, 0)) := by
  have h0 : (W.setCell ⟨g, 0, none⟩ (u0)).heap[g]? = some (.cells #[u0, a1, a2, a3, a4, a5, a6, a7, a8, a9, a10, a11, a12, a13, a14, a15, a16, a17, a18, a19, a20, a21, a22, a23, a24, a25, a26, a27, a28, a29, a30, a31, a32, a33, a34, a35, a36, a37, a38, a39] T (0, 0)) := heap_setCell_same _ g 0 _ _ u0 h
  have h1 : ((W.setCell ⟨g, 0, none⟩ (u0)).setCell ⟨g, 1, none⟩ (u1)).heap[g]? = some (.cells #[u0, u1, a2, a3, a4, a5, a6, a7, a8, a9, a10, a11, a12, a13, a14, a15, a16, a17, a18, a19, a20, a21, a22, a23, a24, a25, a26, a27, a28, a29, a30, a31, a32, a33, a34, a35, a36, a37, a38, a39] T (0, 0)) := heap_setCell_same _ g 1 _ _ u1 h0
  have h2 : (((W.setCell ⟨g, 0, none⟩ (u0)).setCell ⟨g, 1, none⟩ (u1)).setCell ⟨g, 2, none⟩ (u2)).heap[g]? = some (.cells #[u0, u1, u2, a3, a4, a5, a6, a7, a8, a9, a10, a11, a12, a13, a14, a15, a16, a17, a18, a19, a20, a21, a22, a23, a24, a25, a26, a27, a28, a29, a30, a31, a32, a33, a34, a35, a36, a37, a38, a39] T (0, 0)) := heap_setCell_same _ g 2 _ _ u2 h1
  have h3 : ((((W.setCell ⟨g, 0, none⟩ (u0)).setCell ⟨g, 1, none⟩ (u1)).setCell ⟨g, 2, none⟩ (u2)).setCell ⟨g, 3, none⟩ (u3)).heap[g]? = some (.cells #[u0, u1, u2, u3, a4, a5, a6, a7, a8, a9, a10, a11, a12, a13, a14, a15, a16, a17, a18, a19, a20, a21, a22, a23, a24, a25, a26, a27, a28, a29, a30, a31, a32, a33, a34, a35, a36, a37, a38, a39] T (0, 0)) := heap_setCell_same _ g 3 _ _ u3 h2
  have h4 : (((((W.setCell ⟨g, 0, none⟩ (u0)).setCell ⟨g, 1, none⟩ (u1)).setCell ⟨g, 2, none⟩ (u2)).setCell ⟨g, 3, none⟩ (u3)).setCell ⟨g, 4, none⟩ (u4)).heap[g]? = some (.cells #[u0, u1, u2, u3, u4, a5, a6, a7, a8, a9, a10, a11, a12, a13, a14, a15, a16, a17, a18, a19, a20, a21, a22, a23, a24, a25, a26, a27, a28, a29, a30, a31, a32, a33, a34, a35, a36, a37, a38, a39] T (0, 0)) := heap_setCell_same _ g 4 _ _ u4 h3
  have h5 : ((((((W.setCell ⟨g, 0, none⟩ (u0)).setCell ⟨g, 1, none⟩ (u1)).setCell ⟨g, 2, none⟩ (u2)).setCell ⟨g, 3, none⟩ (u3)).setCell ⟨g, 4, none⟩ (u4)).setCell ⟨g, 5, none⟩ (u5)).heap[g]? = some (.cells #[u0, u1, u2, u3, u4, u5, a6, a7, a8, a9, a10, a11, a12, a13, a14, a15, a16, a17, a18, a19, a20, a21, a22, a23, a24, a25, a26, a27, a28, a29, a30, a31, a32, a33, a34, a35, a36, a37, a38, a39] T (0, 0)) := heap_setCell_same _ g 5 _ _ u5 h4
  have h6 : (((((((W.setCell ⟨g, 0, none⟩ (u0)).setCell ⟨g, 1, none⟩ (u1)).setCell ⟨g, 2, none⟩ (u2)).setCell ⟨g, 3, none⟩ (u3)).setCell ⟨g, 4, none⟩ (u4)).setCell ⟨g, 5, none⟩ (u5)).setCell ⟨g, 6, none⟩ (u6)).heap[g]? = some (.cells #[u0, u1, u2, u3, u4, u5, u6, a7, a8, a9, a10, a11, a12, a13, a14, a15, a16, a17, a18, a19, a20, a21, a22, a23, a24, a25, a26, a27, a28, a29, a30, a31, a32, a33, a34, a35, a36, a37, a38, a39] T (0, 0)) := heap_setCell_same _ g 6 _ _ u6 h5
  have h7 : ((((((((W.setCell ⟨g, 0, none⟩ (u0)).setCell ⟨g, 1, none⟩ (u1)).setCell ⟨g, 2, none⟩ (u2)).setCell ⟨g, 3, none⟩ (u3)).setCell ⟨g, 4, none⟩ (u4)).setCell ⟨g, 5, none⟩ (u5)).setCell ⟨g, 6, none⟩ (u6)).setCell ⟨g, 7, none⟩ (u7)).heap[g]? = some (.cells #[u0, u1, u2, u3, u4, u5, u6, u7, a8, a9, a10, a11, a12, a13, a14, a15, a16, a17, a18, a19, a20, a21, a22, a23, a24, a25, a26, a27, a28, a29, a30, a31, a32, a33, a34, a35, a36, a37, a38, a39] T (0, 0)) := heap_setCell_same _ g 7 _ _ u7 h6
  have h8 : (((((((((W.setCell ⟨g, 0, none⟩ (u0)).setCell ⟨g, 1, none⟩ (u1)).setCell ⟨g, 2, none⟩ (u2)).setCell ⟨g, 3, none⟩ (u3)).setCell ⟨g, 4, none⟩ (u4)).setCell ⟨g, 5, none⟩ (u5)).setCell ⟨g, 6, none⟩ (u6)).setCell ⟨g, 7, none⟩ (u7)).setCell ⟨g, 8, none⟩ (u8)).heap[g]? = some (.cells #[u0, u1, u2, u3, u4, u5, u6, u7, u8, a9, a10, a11, a12, a13, a14, a15, a16, a17, a18, a19, a20, a21, a22, a23, a24, a25, a26, a27, a28, a29, a30, a31, a32, a33, a34, a35, a36, a37, a38, a39] T (0, 0)) := heap_setCell_same _ g 8 _ _ u8 h7
  have h9 : ((((((((((W.setCell ⟨g, 0, none⟩ (u0)).setCell ⟨g, 1, none⟩ (u1)).setCell ⟨g, 2, none⟩ (u2)).setCell ⟨g, 3, none⟩ (u3)).setCell ⟨g, 4, none⟩ (u4)).setCell ⟨g, 5, none⟩ (u5)).setCell ⟨g, 6, none⟩ (u6)).setCell ⟨g, 7, none⟩ (u7)).setCell ⟨g, 8, none⟩ (u8)).setCell ⟨g, 9, none⟩ (u9)).heap[g]? = some (.cells #[u0, u1, u2, u3, u4, u5, u6, u7, u8, u9, a10, a11, a12, a13, a14, a15, a16, a17, a18, a19, a20, a21, a22, a23, a24, a25, a26, a27, a28, a29, a30, a31, a32, a33, a34, a35, a36, a37, a38, a39] T (0, 0)) := heap_setCell_same _ g 9 _ _ u9 h8
  have h10 : (((((((((((W.setCell ⟨g, 0, none⟩ (u0)).setCell ⟨g, 1, none⟩ (u1)).setCell ⟨g, 2, none⟩ (u2)).setCell ⟨g, 3, none⟩ (u3)).setCell ⟨g, 4, none⟩ (u4)).setCell ⟨g, 5, none⟩ (u5)).setCell ⟨g, 6, none⟩ (u6)).setCell ⟨g, 7, none⟩ (u7)).setCell ⟨g, 8, none⟩ (u8)).setCell ⟨g, 9, none⟩ (u9)).setCell ⟨g, 10, none⟩ (u10)).heap[g]? = some (.cells #[u0, u1, u2, u3, u4, u5, u6, u7, u8, u9, u10, a11, a12, a13, a14, a15, a16, a17, a18, a19, a20, a21, a22, a23, a24, a25, a26, a27, a28, a29, a30, a31, a32, a33, a34, a35, a36, a37, a38, a39] T (0, 0)) := heap_setCell_same _ g 10 _ _ u10 h9
  have h11 : ((((((((((((W.setCell ⟨g, 0, none⟩ (u0)).setCell ⟨g, 1, none⟩ (u1)).setCell ⟨g, 2, none⟩ (u2)).setCell ⟨g, 3, none⟩ (u3)).setCell ⟨g, 4, none⟩ (u4)).setCell ⟨g, 5, none⟩ (u5)).setCell ⟨g, 6, none⟩ (u6)).setCell ⟨g, 7, none⟩ (u7)).setCell ⟨g, 8, none⟩ (u8)).setCell ⟨g, 9, none⟩ (u9)).setCell ⟨g, 10, none⟩ (u10)).setCell ⟨g, 11, none⟩ (u11)).heap[g]? = some (.cells #[u0, u1, u2, u3, u4, u5, u6, u7, u8, u9, u10, u11, a12, a13, a14, a15, a16, a17, a18, a19, a20, a21, a22, a23, a24, a25, a26, a27, a28, a29, a30, a31, a32, a33, a34, a35, a36, a37, a38, a39] T (0, 0)) := heap_setCell_same _ g 11 _ _ u11 h10
  have h12 : (((((((((((((W.setCell ⟨g, 0, none⟩ (u0)).setCell ⟨g, 1, none⟩ (u1)).setCell ⟨g, 2, none⟩ (u2)).setCell ⟨g, 3, none⟩ (u3)).setCell ⟨g, 4, none⟩ (u4)).setCell ⟨g, 5, none⟩ (u5)).setCell ⟨g, 6, none⟩ (u6)).setCell ⟨g, 7, none⟩ (u7)).setCell ⟨g, 8, none⟩ (u8)).setCell ⟨g, 9, none⟩ (u9)).setCell ⟨g, 10, none⟩ (u10)).setCell ⟨g, 11, none⟩ (u11)).setCell ⟨g, 12, none⟩ (u12)).heap[g]? = some (.cells #[u0, u1, u2, u3, u4, u5, u6, u7, u8, u9, u10, u11, u12, a13, a14, a15, a16, a17, a18, a19, a20, a21, a22, a23, a24, a25, a26, a27, a28, a29, a30, a31, a32, a33, a34, a35, a36, a37, a38, a39] T (0, 0)) := heap_setCell_same _ g 12 _ _ u12 h11
  have h13 : ((((((((((((((W.setCell ⟨g, 0, none⟩ (u0)).setCell ⟨g, 1, none⟩ (u1)).setCell ⟨g, 2, none⟩ (u2)).setCell ⟨g, 3, none⟩ (u3)).setCell ⟨g, 4, none⟩ (u4)).setCell ⟨g, 5, none⟩ (u5)).setCell ⟨g, 6, none⟩ (u6)).setCell ⟨g, 7, none⟩ (u7)).setCell ⟨g, 8, none⟩ (u8)).setCell ⟨g, 9, none⟩ (u9)).setCell ⟨g, 10, none⟩ (u10)).setCell ⟨g, 11, none⟩ (u11)).setCell ⟨g, 12, none⟩ (u12)).setCell ⟨g, 13, none⟩ (u13)).heap[g]? = some (.cells #[u0, u1, u2, u3, u4, u5, u6, u7, u8, u9, u10, u11, u12, u13, a14, a15, a16, a17, a18, a19, a20, a21, a22, a23, a24, a25, a26, a27, a28, a29, a30, a31, a32, a33, a34, a35, a36, a37, a38, a39] T (0, 0)) := heap_setCell_same _ g 13 _ _ u13 h12
  have h14 : (((((((((((((((W.setCell ⟨g, 0, none⟩ (u0)).setCell ⟨g, 1, none⟩ (u1)).setCell ⟨g, 2, none⟩ (u2)).setCell ⟨g, 3, none⟩ (u3)).setCell ⟨g, 4, none⟩ (u4)).setCell ⟨g, 5, none⟩ (u5)).setCell ⟨g, 6, none⟩ (u6)).setCell ⟨g, 7, none⟩ (u7)).setCell ⟨g, 8, none⟩ (u8)).setCell ⟨g, 9, none⟩ (u9)).setCell ⟨g, 10, none⟩ (u10)).setCell ⟨g, 11, none⟩ (u11)).setCell ⟨g, 12, none⟩ (u12)).setCell ⟨g, 13, none⟩ (u13)).setCell ⟨g, 14, none⟩ (u14)).heap[g]? = some (.cells #[u0, u1, u2, u3, u4, u5, u6, u7, u8, u9, u10, u11, u12, u13, u14, a15, a16, a17, a18, a19, a20, a21, a22, a23, a24, a25, a26, a27, a28, a29, a30, a31, a32, a33, a34, a35, a36, a37, a38, a39] T (0, 0)) := heap_setCell_same _ g 14 _ _ u14 h13
  exact h14
theorem one15b {W : World} {g : Nat} (u0 u1 u2 u3 u4 u5 u6 u7 u8 u9 u10 u11 u12 u13 u14 : Value) : OneBox g W (((((((((((((((W.setCell ⟨g, 0, none⟩ (u0)).setCell ⟨g, 1, none⟩ (u1)).setCell ⟨g, 2, none⟩ (u2)).setCell ⟨g, 3, none⟩ (u3)).setCell ⟨g, 4, none⟩ (u4)).setCell ⟨g, 5, none⟩ (u5)).setCell ⟨g, 6, none⟩ (u6)).setCell ⟨g, 7, none⟩ (u7)).setCell ⟨g, 8, none⟩ (u8)).setCell ⟨g, 9, none⟩ (u9)).setCell ⟨g, 10, none⟩ (u10)).setCell ⟨g, 11, none⟩ (u11)).setCell ⟨g, 12, none⟩ (u12)).setCell ⟨g, 13, none⟩ (u13)).setCell ⟨g, 14, none⟩ (u14)) := by
  exact (((((((((((((((OneBox.refl g W).set 0 u0).set 1 u1).set 2 u2).set 3 u3).set 4 u4).set 5 u5).set 6 u6).set 7 u7).set 8 u8).set 9 u9).set 10 u10).set 11 u11).set 12 u12).set 13 u13).set 14 u14
theorem RV.one {α : Type} {m : Nat} {enc : α → List Value} {g : Nat} {w w' : World} {v : Value} {l : List α} (h : RV m enc w v l) (ho : OneBox g w w') (hg : ∀ r, v.ownBlock = some r → r ≠ g) : RV m enc w' v l := by
  obtain ⟨A, cap, rfl, hc, hr⟩ := h
  refine ⟨A, cap, rfl, hc, ?_⟩
  rcases hr with hr | ⟨b, off, rfl, hlt, hat⟩
  · exact .inl hr
  · refine .inr ⟨b, off, rfl, Nat.lt_of_lt_of_le hlt ho.1, fun i x hx j u hj => ?_⟩
    rw [← hat i x hx j u hj]
    unfold World.cell?
    rw [ho.2.1 b hlt (hg b rfl)]
theorem andn_e (t : TypeId) : binOp .andNot t (.int .i64 0) (.int .i64 1) = pure (.int .i64 0) := rfl
theorem or_e (t : TypeId) : binOp .or t (.int .i64 0) (.int .i64 1) = pure (.int .i64 1) := rfl
theorem andn_u (t : TypeId) : binOp .andNot t (.int .i64 1) (.int .i64 2) = pure (.int .i64 1) := rfl
theorem or_u (t : TypeId) : binOp .or t (.int .i64 1) (.int .i64 2) = pure (.int .i64 3) := rfl
attribute [-go_sem] storeVar
section
variable {W : World} {g : Nat} {out er : List UInt8} {st act n : Int} {tx : List UInt8} {ra bp fl : Value} {nm : List UInt8} {ag : Value} {PA : Option Addr} {pn pc : Nat} {ps : List (List UInt8)}
set_option maxHeartbeats 4000000 in
theorem enable_eu (h : CB W g (.slice none 0 0) (.slice PA pn pc) 0 out er st act n tx ra bp fl nm ag) (hp : SV W (.slice PA pn pc) ps) (hpl : ps.length ≤ 1000) (RA : Option Addr) (rn rc : Nat) :
    Calls Tryz.prog 71 #[.pointer (some ⟨g, 0, none⟩), .string ⟨#[45, 101, 117]⟩, .slice RA rn rc] W fun e w' => e = .returned (.tuple #[.slice RA rn rc, .bool true]) ∧ (∃ A1 c1, CB w' g (.slice none 0 0) (.slice A1 pn c1) 3 out er st act n tx ra bp fl nm ag ∧ SV w' (.slice A1 pn c1) ps) ∧ OneBox g W w' := by
  have hiE : (Tryz.prog.info? 31).map (·.size) = some 15 := by kernel_rfl
  have HIE := Lib.hid hiE
  have HO1 := Lib.hid (fun (V : World) A c (hs : SV V (.slice A pn c) ps) => Option_at hs hpl 101 1 0 0 1 bit_e (by decide) andn_e or_e)
  have HO2 := Lib.hid (fun (V : World) A c (hs : SV V (.slice A pn c) ps) => Option_at hs hpl 117 2 1 1 3 bit_u (by decide) andn_u or_u)
  have H0 := Lib.hid h
  have HP := Lib.hid hp
  have hg0 := h.lt
  clear h hp hiE
  go_enter Tryz.func71, Tryz.ntmps71
  go_wp2_with (fail)
  go_loopw [2, 8] (fun r i wr => r = .slice RA rn rc ∧ ((i = .int .i64 1 ∧ ∃ A c, Hid (CB wr g (.slice none 0 0) (.slice A pn c) 0 out er st act n tx ra bp fl nm ag) ∧ Hid (SV wr (.slice A pn c) ps) ∧ Hid (OneBox g W wr)) ∨ (i = .int .i64 2 ∧ ∃ A c, Hid (CB wr g (.slice none 0 0) (.slice A pn c) 1 out er st act n tx ra bp fl nm ag) ∧ Hid (SV wr (.slice A pn c) ps) ∧ Hid (OneBox g W wr)) ∨ (i = .int .i64 3 ∧ ∃ A c, Hid (CB wr g (.slice none 0 0) (.slice A pn c) 3 out er st act n tx ra bp fl nm ag) ∧ Hid (SV wr (.slice A pn c) ps) ∧ Hid (OneBox g W wr)))) (fun _ i _ => 3 - (intOf i).toNat)
  case atStart => exact ⟨rfl, .inl ⟨rfl, PA, pc, H0, HP, OneBox.refl g W⟩⟩
  case round =>
    obtain ⟨rfl, hrel⟩ := hrel
    rcases hrel with ⟨rfl, A, c, HC, HS, HOB⟩ | ⟨rfl, A, c, HC, HS, HOB⟩ | ⟨rfl, A, c, HC, HS, HOB⟩
    · have hg := HC.out.lt
      have hcc := HC.out
      unfold CB at hcc
      have e0 : wr.cell? ⟨g, 0, none⟩ = some (.string ⟨#[]⟩) := Lib.cell_of_heap hcc 0
      have e1 : wr.cell? ⟨g, 1, none⟩ = some (.slice none 0 0) := Lib.cell_of_heap hcc 1
      have e2 : wr.cell? ⟨g, 2, none⟩ = some (.slice A pn c) := Lib.cell_of_heap hcc 2
      have e3 : wr.cell? ⟨g, 3, none⟩ = some (.slice none 0 0) := Lib.cell_of_heap hcc 3
      have e4 : wr.cell? ⟨g, 4, none⟩ = some (.slice none 0 0) := Lib.cell_of_heap hcc 4
      have e5 : wr.cell? ⟨g, 5, none⟩ = some (.slice none 0 0) := Lib.cell_of_heap hcc 5
      have e6 : wr.cell? ⟨g, 6, none⟩ = some (.int .i64 0) := Lib.cell_of_heap hcc 6
      have e7 : wr.cell? ⟨g, 7, none⟩ = some (.int .i64 0) := Lib.cell_of_heap hcc 7
      have e8 : wr.cell? ⟨g, 8, none⟩ = some (.int .i64 0) := Lib.cell_of_heap hcc 8
      have e9 : wr.cell? ⟨g, 9, none⟩ = some (.int .i64 0) := Lib.cell_of_heap hcc 9
      have e10 : wr.cell? ⟨g, 10, none⟩ = some (.string ⟨#[47]⟩) := Lib.cell_of_heap hcc 10
      have e11 : wr.cell? ⟨g, 11, none⟩ = some (.int .i64 1) := Lib.cell_of_heap hcc 11
      have e12 : wr.cell? ⟨g, 12, none⟩ = some (.int .i64 0) := Lib.cell_of_heap hcc 12
      have e13 : wr.cell? ⟨g, 13, none⟩ = some (.int .i64 0) := Lib.cell_of_heap hcc 13
      have e14 : wr.cell? ⟨g, 14, none⟩ = some (.bool false) := Lib.cell_of_heap hcc 14
      have HSL := Lib.hid (fun V (hV : Below wr.heap.size wr V) => show (V.cell? ⟨g, 0, none⟩ = some (.string ⟨#[]⟩) ∧ V.cell? ⟨g, 1, none⟩ = some (.slice none 0 0) ∧ V.cell? ⟨g, 2, none⟩ = some (.slice A pn c) ∧ V.cell? ⟨g, 3, none⟩ = some (.slice none 0 0) ∧ V.cell? ⟨g, 4, none⟩ = some (.slice none 0 0) ∧ V.cell? ⟨g, 5, none⟩ = some (.slice none 0 0) ∧ V.cell? ⟨g, 6, none⟩ = some (.int .i64 0) ∧ V.cell? ⟨g, 7, none⟩ = some (.int .i64 0) ∧ V.cell? ⟨g, 8, none⟩ = some (.int .i64 0) ∧ V.cell? ⟨g, 9, none⟩ = some (.int .i64 0) ∧ V.cell? ⟨g, 10, none⟩ = some (.string ⟨#[47]⟩) ∧ V.cell? ⟨g, 11, none⟩ = some (.int .i64 1) ∧ V.cell? ⟨g, 12, none⟩ = some (.int .i64 0) ∧ V.cell? ⟨g, 13, none⟩ = some (.int .i64 0) ∧ V.cell? ⟨g, 14, none⟩ = some (.bool false)) ∧ Below wr.heap.size wr V from
        ⟨⟨(hV.cell (p := ⟨g, 0, none⟩) hg).trans e0, (hV.cell (p := ⟨g, 1, none⟩) hg).trans e1, (hV.cell (p := ⟨g, 2, none⟩) hg).trans e2, (hV.cell (p := ⟨g, 3, none⟩) hg).trans e3, (hV.cell (p := ⟨g, 4, none⟩) hg).trans e4, (hV.cell (p := ⟨g, 5, none⟩) hg).trans e5, (hV.cell (p := ⟨g, 6, none⟩) hg).trans e6, (hV.cell (p := ⟨g, 7, none⟩) hg).trans e7, (hV.cell (p := ⟨g, 8, none⟩) hg).trans e8, (hV.cell (p := ⟨g, 9, none⟩) hg).trans e9, (hV.cell (p := ⟨g, 10, none⟩) hg).trans e10, (hV.cell (p := ⟨g, 11, none⟩) hg).trans e11, (hV.cell (p := ⟨g, 12, none⟩) hg).trans e12, (hV.cell (p := ⟨g, 13, none⟩) hg).trans e13, (hV.cell (p := ⟨g, 14, none⟩) hg).trans e14⟩, hV⟩)
      clear hcc
      go_upto_region 14 with (fail)
      go_cut [10, 11] (fun x y wx => ∃ (p : Nat) (A1 : Option Addr) (c1 : Nat), x = .pointer (some ⟨p, 0, none⟩) ∧ y = .int .i64 0 ∧ Hid (wx.heap[p]? = some (.cells #[.string ⟨#[]⟩, .slice none 0 0, .slice A1 pn c1, .slice none 0 0, .slice none 0 0, .slice none 0 0, .int .i64 1, .int .i64 0, .int .i64 0, .int .i64 0, .string ⟨#[47]⟩, .int .i64 1, .int .i64 0, .int .i64 0, .bool false] 31 (0, 0)) ∧ p ≠ g) ∧ Hid (SV wx (.slice A1 pn c1) ps ∧ Below wr.heap.size wr wx ∧ ∀ r, (Value.slice A1 pn c1).ownBlock = some r → r ≠ g))
      case first =>
        go_region_held3 (fun w' => (w'.cell? ⟨g, 0, none⟩ = some (.string ⟨#[]⟩) ∧ w'.cell? ⟨g, 1, none⟩ = some (.slice none 0 0) ∧ w'.cell? ⟨g, 2, none⟩ = some (.slice A pn c) ∧ w'.cell? ⟨g, 3, none⟩ = some (.slice none 0 0) ∧ w'.cell? ⟨g, 4, none⟩ = some (.slice none 0 0) ∧ w'.cell? ⟨g, 5, none⟩ = some (.slice none 0 0) ∧ w'.cell? ⟨g, 6, none⟩ = some (.int .i64 0) ∧ w'.cell? ⟨g, 7, none⟩ = some (.int .i64 0) ∧ w'.cell? ⟨g, 8, none⟩ = some (.int .i64 0) ∧ w'.cell? ⟨g, 9, none⟩ = some (.int .i64 0) ∧ w'.cell? ⟨g, 10, none⟩ = some (.string ⟨#[47]⟩) ∧ w'.cell? ⟨g, 11, none⟩ = some (.int .i64 1) ∧ w'.cell? ⟨g, 12, none⟩ = some (.int .i64 0) ∧ w'.cell? ⟨g, 13, none⟩ = some (.int .i64 0) ∧ w'.cell? ⟨g, 14, none⟩ = some (.bool false)) ∧ Below wr.heap.size wr w')
          (first | exact HSL.out _ (Below.refl _ _).drew | (go_split_ands; exact HSL.out _ (btr ‹Below wr.heap.size wr _› ‹_›)) | (go_split_ands; exact HSL.out _ (btr ‹Below wr.heap.size wr _› (balloc _ _))) | exact HSL.out _ HBW.out | exact HSL.out _ (btr HBW.out (balloc _ _)) | exact HSL.out _ (rowB (btr HBW.out (balloc _ _)) HBW.out.size _) | exact HSL.out _ (rowB HBW.out (Nat.le_refl _) _) | exact HSL.out _ (balloc _ _).drew | go_keep)
          ((go_at_call 120; go_split_ands; refine (HO1.out _ _ _ (HS.out.below (by assumption))).mono ?_; rintro e Y ⟨A1, c1, rfl, hs, hf, hb⟩; have HSY := Lib.hid hs; have HFY := Lib.hid hf; have HBY := Lib.hid hb; have HBW := Lib.hid (btr ‹Below wr.heap.size wr _› hb); clear hs hb hf; first | (have hy0 : Y.heap[wr.heap.size]? = some (.cells #[.string ⟨#[]⟩, .slice none 0 0, .slice none 0 0, .slice none 0 0, .slice none 0 0, .slice none 0 0, .int .i64 0, .int .i64 0, .int .i64 0, .int .i64 0, .string ⟨#[]⟩, .int .i64 0, .int .i64 0, .int .i64 0, .bool false] 31 (0, 0)) := (HBY.out.block _ (by simp)).trans (al_new wr _); have hst := run_storeVar_row (P := Tryz.prog) Y wr.heap.size 31 31 _ #[.string ⟨#[]⟩, .slice none 0 0, .slice A1 pn c1, .slice none 0 0, .slice none 0 0, .slice none 0 0, .int .i64 1, .int .i64 0, .int .i64 0, .int .i64 0, .string ⟨#[47]⟩, .int .i64 1, .int .i64 0, .int .i64 0, .bool false] hy0 (by rw [HIE.out]; rfl) rfl (by simp [Value.oneCell']); have HY0 := Lib.hid hy0; clear hy0) | (have hst := run_storeVar_row (P := Tryz.prog) (Y.alloc (.cells #[.string ⟨#[]⟩, .slice none 0 0, .slice none 0 0, .slice none 0 0, .slice none 0 0, .slice none 0 0, .int .i64 0, .int .i64 0, .int .i64 0, .int .i64 0, .string ⟨#[]⟩, .int .i64 0, .int .i64 0, .int .i64 0, .bool false] 31)) Y.heap.size 31 31 _ #[.string ⟨#[]⟩, .slice none 0 0, .slice A1 pn c1, .slice none 0 0, .slice none 0 0, .slice none 0 0, .int .i64 1, .int .i64 0, .int .i64 0, .int .i64 0, .string ⟨#[47]⟩, .int .i64 1, .int .i64 0, .int .i64 0, .bool false] (al_new Y _) (by rw [HIE.out]; rfl) rfl (by simp [Value.oneCell']))))
        all_goals (repeat go_step)
        all_goals go_meet
        all_goals first
          | exact ⟨_, A1, c1, rfl, rfl, Lib.hid ⟨setRow_heap _ _ _ _ _ _ (al_new Y _), by have := HBW.out.size; omega⟩, Lib.hid ⟨HSY.out.below (rowB (balloc Y _) (Nat.le_refl _) _), rowB (btr HBW.out (balloc _ _)) HBW.out.size _, fun r hr => by have := HFY.out r hr; simp at this; omega⟩⟩
          | exact ⟨_, A1, c1, rfl, rfl, Lib.hid ⟨setRow_heap Y _ _ _ _ _ HY0.out, by omega⟩, Lib.hid ⟨HSY.out.late (B := wr.heap.size + 1) (fun r hr => by have := HFY.out r hr; simp at this; omega) (by rw [setRow_size]; exact Nat.le_refl _) (fun k h1 _ => setRow_other _ _ _ _ (by omega)), rowB HBW.out (Nat.le_refl _) _, fun r hr => by have := HFY.out r hr; simp at this; omega⟩⟩
      case rest =>
        obtain ⟨p, A1, c1, rfl, rfl, HPB, HSB⟩ := hcut
        have hcw := HC.out.below HSB.out.2.1
        have hcw2 := hcw
        unfold CB at hcw2
        have hst := run_storeVar_mid (P := Tryz.prog) wc g 0 31 #[.string ⟨#[]⟩, .slice none 0 0, .slice A1 pn c1, .slice none 0 0, .slice none 0 0, .slice none 0 0, .int .i64 1, .int .i64 0, .int .i64 0, .int .i64 0, .string ⟨#[47]⟩, .int .i64 1, .int .i64 0, .int .i64 0, .bool false] (fun j hj => by
          simp at hj
          have h1 := cell_of_row wc g (0 + j) _ 45 (0, 0) hcw2
          refine ⟨?_, Lib.frozen_of_heap hcw2 (0 + j)⟩
          rw [h1, Nat.zero_add]
          simp
          omega) HIE.out (by simp [Value.oneCell'])
        obtain ⟨Z, hZ⟩ : ∃ Z, Z = wc.setCells g 0 [.string ⟨#[]⟩, .slice none 0 0, .slice A1 pn c1, .slice none 0 0, .slice none 0 0, .slice none 0 0, .int .i64 1, .int .i64 0, .int .i64 0, .int .i64 0, .string ⟨#[47]⟩, .int .i64 1, .int .i64 0, .int .i64 0, .bool false] := ⟨_, rfl⟩
        have HZ := Lib.hid hZ
        have HCZ := Lib.hid (show CB Z g (.slice none 0 0) (.slice A1 pn c1) 1 out er st act n tx ra bp fl nm ag by rw [hZ]; exact put15b hcw2 (.string ⟨#[]⟩) (.slice none 0 0) (.slice A1 pn c1) (.slice none 0 0) (.slice none 0 0) (.slice none 0 0) (.int .i64 1) (.int .i64 0) (.int .i64 0) (.int .i64 0) (.string ⟨#[47]⟩) (.int .i64 1) (.int .i64 0) (.int .i64 0) (.bool false))
        have HOZ := Lib.hid (show OneBox g W Z from (HOB.out.trans (OneBox.of hg HSB.out.2.1)).trans (by rw [hZ]; exact one15b (.string ⟨#[]⟩) (.slice none 0 0) (.slice A1 pn c1) (.slice none 0 0) (.slice none 0 0) (.slice none 0 0) (.int .i64 1) (.int .i64 0) (.int .i64 0) (.int .i64 0) (.string ⟨#[47]⟩) (.int .i64 1) (.int .i64 0) (.int .i64 0) (.bool false)))
        have HSZ := Lib.hid (show SV Z (.slice A1 pn c1) ps from HSB.out.1.one (show OneBox g wc Z by rw [hZ]; exact one15b (.string ⟨#[]⟩) (.slice none 0 0) (.slice A1 pn c1) (.slice none 0 0) (.slice none 0 0) (.slice none 0 0) (.int .i64 1) (.int .i64 0) (.int .i64 0) (.int .i64 0) (.string ⟨#[47]⟩) (.int .i64 1) (.int .i64 0) (.int .i64 0) (.bool false)) HSB.out.2.2)
        clear hcw hcw2 hZ
        go_upto_region 18 with (fail)
        go_upto_region 3 with (refine wpList_load_row rfl 31 _ rfl p rfl 31 _ (0, 0) _ HPB.out.1 Tryz.underlying31 rfl (by rw [HIE.out]; rfl) ?_)
        rw [← HZ.out]
        go_wp2
        go_roundw
        case rel => exact ⟨rfl, .inr (.inl ⟨rfl, A1, c1, HCZ, HSZ, HOZ⟩)⟩
        case measure => simp [intOf]
    · have hg := HC.out.lt
      have hcc := HC.out
      unfold CB at hcc
      have e0 : wr.cell? ⟨g, 0, none⟩ = some (.string ⟨#[]⟩) := Lib.cell_of_heap hcc 0
      have e1 : wr.cell? ⟨g, 1, none⟩ = some (.slice none 0 0) := Lib.cell_of_heap hcc 1
      have e2 : wr.cell? ⟨g, 2, none⟩ = some (.slice A pn c) := Lib.cell_of_heap hcc 2
      have e3 : wr.cell? ⟨g, 3, none⟩ = some (.slice none 0 0) := Lib.cell_of_heap hcc 3
      have e4 : wr.cell? ⟨g, 4, none⟩ = some (.slice none 0 0) := Lib.cell_of_heap hcc 4
      have e5 : wr.cell? ⟨g, 5, none⟩ = some (.slice none 0 0) := Lib.cell_of_heap hcc 5
      have e6 : wr.cell? ⟨g, 6, none⟩ = some (.int .i64 1) := Lib.cell_of_heap hcc 6
      have e7 : wr.cell? ⟨g, 7, none⟩ = some (.int .i64 0) := Lib.cell_of_heap hcc 7
      have e8 : wr.cell? ⟨g, 8, none⟩ = some (.int .i64 0) := Lib.cell_of_heap hcc 8
      have e9 : wr.cell? ⟨g, 9, none⟩ = some (.int .i64 0) := Lib.cell_of_heap hcc 9
      have e10 : wr.cell? ⟨g, 10, none⟩ = some (.string ⟨#[47]⟩) := Lib.cell_of_heap hcc 10
      have e11 : wr.cell? ⟨g, 11, none⟩ = some (.int .i64 1) := Lib.cell_of_heap hcc 11
      have e12 : wr.cell? ⟨g, 12, none⟩ = some (.int .i64 0) := Lib.cell_of_heap hcc 12
      have e13 : wr.cell? ⟨g, 13, none⟩ = some (.int .i64 0) := Lib.cell_of_heap hcc 13
      have e14 : wr.cell? ⟨g, 14, none⟩ = some (.bool false) := Lib.cell_of_heap hcc 14
      have HSL := Lib.hid (fun V (hV : Below wr.heap.size wr V) => show (V.cell? ⟨g, 0, none⟩ = some (.string ⟨#[]⟩) ∧ V.cell? ⟨g, 1, none⟩ = some (.slice none 0 0) ∧ V.cell? ⟨g, 2, none⟩ = some (.slice A pn c) ∧ V.cell? ⟨g, 3, none⟩ = some (.slice none 0 0) ∧ V.cell? ⟨g, 4, none⟩ = some (.slice none 0 0) ∧ V.cell? ⟨g, 5, none⟩ = some (.slice none 0 0) ∧ V.cell? ⟨g, 6, none⟩ = some (.int .i64 1) ∧ V.cell? ⟨g, 7, none⟩ = some (.int .i64 0) ∧ V.cell? ⟨g, 8, none⟩ = some (.int .i64 0) ∧ V.cell? ⟨g, 9, none⟩ = some (.int .i64 0) ∧ V.cell? ⟨g, 10, none⟩ = some (.string ⟨#[47]⟩) ∧ V.cell? ⟨g, 11, none⟩ = some (.int .i64 1) ∧ V.cell? ⟨g, 12, none⟩ = some (.int .i64 0) ∧ V.cell? ⟨g, 13, none⟩ = some (.int .i64 0) ∧ V.cell? ⟨g, 14, none⟩ = some (.bool false)) ∧ Below wr.heap.size wr V from
        ⟨⟨(hV.cell (p := ⟨g, 0, none⟩) hg).trans e0, (hV.cell (p := ⟨g, 1, none⟩) hg).trans e1, (hV.cell (p := ⟨g, 2, none⟩) hg).trans e2, (hV.cell (p := ⟨g, 3, none⟩) hg).trans e3, (hV.cell (p := ⟨g, 4, none⟩) hg).trans e4, (hV.cell (p := ⟨g, 5, none⟩) hg).trans e5, (hV.cell (p := ⟨g, 6, none⟩) hg).trans e6, (hV.cell (p := ⟨g, 7, none⟩) hg).trans e7, (hV.cell (p := ⟨g, 8, none⟩) hg).trans e8, (hV.cell (p := ⟨g, 9, none⟩) hg).trans e9, (hV.cell (p := ⟨g, 10, none⟩) hg).trans e10, (hV.cell (p := ⟨g, 11, none⟩) hg).trans e11, (hV.cell (p := ⟨g, 12, none⟩) hg).trans e12, (hV.cell (p := ⟨g, 13, none⟩) hg).trans e13, (hV.cell (p := ⟨g, 14, none⟩) hg).trans e14⟩, hV⟩)
      clear hcc
      go_upto_region 14 with (fail)
      go_cut [10, 11] (fun x y wx => ∃ (p : Nat) (A1 : Option Addr) (c1 : Nat), x = .pointer (some ⟨p, 0, none⟩) ∧ y = .int .i64 0 ∧ Hid (wx.heap[p]? = some (.cells #[.string ⟨#[]⟩, .slice none 0 0, .slice A1 pn c1, .slice none 0 0, .slice none 0 0, .slice none 0 0, .int .i64 3, .int .i64 0, .int .i64 0, .int .i64 0, .string ⟨#[47]⟩, .int .i64 1, .int .i64 0, .int .i64 0, .bool false] 31 (0, 0)) ∧ p ≠ g) ∧ Hid (SV wx (.slice A1 pn c1) ps ∧ Below wr.heap.size wr wx ∧ ∀ r, (Value.slice A1 pn c1).ownBlock = some r → r ≠ g))
      case first =>
        go_region_held3 (fun w' => (w'.cell? ⟨g, 0, none⟩ = some (.string ⟨#[]⟩) ∧ w'.cell? ⟨g, 1, none⟩ = some (.slice none 0 0) ∧ w'.cell? ⟨g, 2, none⟩ = some (.slice A pn c) ∧ w'.cell? ⟨g, 3, none⟩ = some (.slice none 0 0) ∧ w'.cell? ⟨g, 4, none⟩ = some (.slice none 0 0) ∧ w'.cell? ⟨g, 5, none⟩ = some (.slice none 0 0) ∧ w'.cell? ⟨g, 6, none⟩ = some (.int .i64 1) ∧ w'.cell? ⟨g, 7, none⟩ = some (.int .i64 0) ∧ w'.cell? ⟨g, 8, none⟩ = some (.int .i64 0) ∧ w'.cell? ⟨g, 9, none⟩ = some (.int .i64 0) ∧ w'.cell? ⟨g, 10, none⟩ = some (.string ⟨#[47]⟩) ∧ w'.cell? ⟨g, 11, none⟩ = some (.int .i64 1) ∧ w'.cell? ⟨g, 12, none⟩ = some (.int .i64 0) ∧ w'.cell? ⟨g, 13, none⟩ = some (.int .i64 0) ∧ w'.cell? ⟨g, 14, none⟩ = some (.bool false)) ∧ Below wr.heap.size wr w')
          (first | exact HSL.out _ (Below.refl _ _).drew | (go_split_ands; exact HSL.out _ (btr ‹Below wr.heap.size wr _› ‹_›)) | (go_split_ands; exact HSL.out _ (btr ‹Below wr.heap.size wr _› (balloc _ _))) | exact HSL.out _ HBW.out | exact HSL.out _ (btr HBW.out (balloc _ _)) | exact HSL.out _ (rowB (btr HBW.out (balloc _ _)) HBW.out.size _) | exact HSL.out _ (rowB HBW.out (Nat.le_refl _) _) | exact HSL.out _ (balloc _ _).drew | go_keep)
          ((go_at_call 120; go_split_ands; refine (HO2.out _ _ _ (HS.out.below (by assumption))).mono ?_; rintro e Y ⟨A1, c1, rfl, hs, hf, hb⟩; have HSY := Lib.hid hs; have HFY := Lib.hid hf; have HBY := Lib.hid hb; have HBW := Lib.hid (btr ‹Below wr.heap.size wr _› hb); clear hs hb hf; first | (have hy0 : Y.heap[wr.heap.size]? = some (.cells #[.string ⟨#[]⟩, .slice none 0 0, .slice none 0 0, .slice none 0 0, .slice none 0 0, .slice none 0 0, .int .i64 0, .int .i64 0, .int .i64 0, .int .i64 0, .string ⟨#[]⟩, .int .i64 0, .int .i64 0, .int .i64 0, .bool false] 31 (0, 0)) := (HBY.out.block _ (by simp)).trans (al_new wr _); have hst := run_storeVar_row (P := Tryz.prog) Y wr.heap.size 31 31 _ #[.string ⟨#[]⟩, .slice none 0 0, .slice A1 pn c1, .slice none 0 0, .slice none 0 0, .slice none 0 0, .int .i64 3, .int .i64 0, .int .i64 0, .int .i64 0, .string ⟨#[47]⟩, .int .i64 1, .int .i64 0, .int .i64 0, .bool false] hy0 (by rw [HIE.out]; rfl) rfl (by simp [Value.oneCell']); have HY0 := Lib.hid hy0; clear hy0) | (have hst := run_storeVar_row (P := Tryz.prog) (Y.alloc (.cells #[.string ⟨#[]⟩, .slice none 0 0, .slice none 0 0, .slice none 0 0, .slice none 0 0, .slice none 0 0, .int .i64 0, .int .i64 0, .int .i64 0, .int .i64 0, .string ⟨#[]⟩, .int .i64 0, .int .i64 0, .int .i64 0, .bool false] 31)) Y.heap.size 31 31 _ #[.string ⟨#[]⟩, .slice none 0 0, .slice A1 pn c1, .slice none 0 0, .slice none 0 0, .slice none 0 0, .int .i64 3, .int .i64 0, .int .i64 0, .int .i64 0, .string ⟨#[47]⟩, .int .i64 1, .int .i64 0, .int .i64 0, .bool false] (al_new Y _) (by rw [HIE.out]; rfl) rfl (by simp [Value.oneCell']))))
        all_goals (repeat go_step)
        all_goals go_meet
        all_goals first
          | exact ⟨_, A1, c1, rfl, rfl, Lib.hid ⟨setRow_heap _ _ _ _ _ _ (al_new Y _), by have := HBW.out.size; omega⟩, Lib.hid ⟨HSY.out.below (rowB (balloc Y _) (Nat.le_refl _) _), rowB (btr HBW.out (balloc _ _)) HBW.out.size _, fun r hr => by have := HFY.out r hr; simp at this; omega⟩⟩
          | exact ⟨_, A1, c1, rfl, rfl, Lib.hid ⟨setRow_heap Y _ _ _ _ _ HY0.out, by omega⟩, Lib.hid ⟨HSY.out.late (B := wr.heap.size + 1) (fun r hr => by have := HFY.out r hr; simp at this; omega) (by rw [setRow_size]; exact Nat.le_refl _) (fun k h1 _ => setRow_other _ _ _ _ (by omega)), rowB HBW.out (Nat.le_refl _) _, fun r hr => by have := HFY.out r hr; simp at this; omega⟩⟩
      case rest =>
        obtain ⟨p, A1, c1, rfl, rfl, HPB, HSB⟩ := hcut
        have hcw := HC.out.below HSB.out.2.1
        have hcw2 := hcw
        unfold CB at hcw2
        have hst := run_storeVar_mid (P := Tryz.prog) wc g 0 31 #[.string ⟨#[]⟩, .slice none 0 0, .slice A1 pn c1, .slice none 0 0, .slice none 0 0, .slice none 0 0, .int .i64 3, .int .i64 0, .int .i64 0, .int .i64 0, .string ⟨#[47]⟩, .int .i64 1, .int .i64 0, .int .i64 0, .bool false] (fun j hj => by
          simp at hj
          have h1 := cell_of_row wc g (0 + j) _ 45 (0, 0) hcw2
          refine ⟨?_, Lib.frozen_of_heap hcw2 (0 + j)⟩
          rw [h1, Nat.zero_add]
          simp
          omega) HIE.out (by simp [Value.oneCell'])
        obtain ⟨Z, hZ⟩ : ∃ Z, Z = wc.setCells g 0 [.string ⟨#[]⟩, .slice none 0 0, .slice A1 pn c1, .slice none 0 0, .slice none 0 0, .slice none 0 0, .int .i64 3, .int .i64 0, .int .i64 0, .int .i64 0, .string ⟨#[47]⟩, .int .i64 1, .int .i64 0, .int .i64 0, .bool false] := ⟨_, rfl⟩
        have HZ := Lib.hid hZ
        have HCZ := Lib.hid (show CB Z g (.slice none 0 0) (.slice A1 pn c1) 3 out er st act n tx ra bp fl nm ag by rw [hZ]; exact put15b hcw2 (.string ⟨#[]⟩) (.slice none 0 0) (.slice A1 pn c1) (.slice none 0 0) (.slice none 0 0) (.slice none 0 0) (.int .i64 3) (.int .i64 0) (.int .i64 0) (.int .i64 0) (.string ⟨#[47]⟩) (.int .i64 1) (.int .i64 0) (.int .i64 0) (.bool false))
        have HOZ := Lib.hid (show OneBox g W Z from (HOB.out.trans (OneBox.of hg HSB.out.2.1)).trans (by rw [hZ]; exact one15b (.string ⟨#[]⟩) (.slice none 0 0) (.slice A1 pn c1) (.slice none 0 0) (.slice none 0 0) (.slice none 0 0) (.int .i64 3) (.int .i64 0) (.int .i64 0) (.int .i64 0) (.string ⟨#[47]⟩) (.int .i64 1) (.int .i64 0) (.int .i64 0) (.bool false)))
        have HSZ := Lib.hid (show SV Z (.slice A1 pn c1) ps from HSB.out.1.one (show OneBox g wc Z by rw [hZ]; exact one15b (.string ⟨#[]⟩) (.slice none 0 0) (.slice A1 pn c1) (.slice none 0 0) (.slice none 0 0) (.slice none 0 0) (.int .i64 3) (.int .i64 0) (.int .i64 0) (.int .i64 0) (.string ⟨#[47]⟩) (.int .i64 1) (.int .i64 0) (.int .i64 0) (.bool false)) HSB.out.2.2)
        clear hcw hcw2 hZ
        go_upto_region 18 with (fail)
        go_upto_region 3 with (refine wpList_load_row rfl 31 _ rfl p rfl 31 _ (0, 0) _ HPB.out.1 Tryz.underlying31 rfl (by rw [HIE.out]; rfl) ?_)
        rw [← HZ.out]
        go_wp2
        go_roundw
        case rel => exact ⟨rfl, .inr (.inr ⟨rfl, A1, c1, HCZ, HSZ, HOZ⟩)⟩
        case measure => simp [intOf]
    · have hg := HC.out.lt
      go_wp2_with (fail)
      go_ret2
      exact ⟨rfl, ⟨A, c, HC.out, HS.out⟩, HOB.out⟩
end
end W
end Go.Proofs.YtcbebkeakkahgaaGreatDoor
