/- Built-in commands: export A=1. -/
import Derived.Test.YtcbebkeakkahgaaGreatDoorW38g
import Derived.Test.YtcbebkeakkahgaaGreatDoorW38f
import Derived.Test.YtcbebkeakkahgaaGreatDoorW38d
import Derived.Test.YtcbebkeakkahgaaGreatDoorW37r
namespace Go.Proofs.YtcbebkeakkahgaaGreatDoor
open Go.RowKit K
namespace W
set_option maxRecDepth 100000
section
variable {W : World} {g : Nat} {pv : Value} {out er : List UInt8} {st act n : Int} {tx : List UInt8} {ra bp fl : Value} {nm : List UInt8} {ag : Value}
set_option maxHeartbeats 4000000 in
theorem set_A (h : CB W g (.slice none 0 0) pv 0 out er st act n tx ra bp fl nm ag) : Calls Tryz.prog 69 #[.pointer (some ⟨g, 0, none⟩), .string ⟨#[65]⟩, .string ⟨#[49]⟩] W fun e w' => e = .returned (.bool true) ∧ (∃ A c, CB w' g (.slice A 1 c) pv 0 out er st act n tx ra bp fl nm ag ∧ VV w' (.slice A 1 c) [VR.vA]) ∧ OneBox g W w' := by
  have HS := Lib.hid (Set_A W)
  have e1 : W.cell? ⟨g, 1, none⟩ = some (.slice none 0 0) := Lib.cell_of_heap h 1
  have hg := h.lt
  have H := Lib.hid h
  clear h
  go_enter Tryz.func69, Tryz.ntmps69
  go_wp2_with fail
  refine HS.out.mono ?_
  rintro e Y ⟨A, c, rfl, hor, hb⟩
  have hcy := H.out.below hb
  have e1 : Y.cell? ⟨g, 1, none⟩ = some (.slice none 0 0) := Lib.cell_of_heap hcy 1
  have e6 : Y.cell? ⟨g, 6, none⟩ = some (.int .i64 0) := Lib.cell_of_heap hcy 6
  have f1 : Y.frozen? ⟨g, 1, none⟩ = false := Lib.frozen_of_heap hcy 1
  have hgy := hcy.lt
  have HCZ := Lib.hid (hcy.set_vv (.slice A 1 c))
  have HOB := Lib.hid ((OneBox.refl g Y).set 1 (.slice A 1 c))
  have HOW := Lib.hid ((OneBox.of hg hb).trans HOB.out)
  have HV := Lib.hid ((hor.rv VR.cells_len).one HOB.out (fun r hr => by have := own_ge hor r hr; omega))
  have q1 : ∀ t, binOp .and t (.int .i64 0) (.int .i64 32) = pure (.int .i64 0) := fun _ => rfl
  clear hcy hor hb
  go_wp2
  go_ret
  exact ⟨rfl, ⟨A, c, HCZ.out, HV.out⟩, HOW.out⟩
set_option maxHeartbeats 4000000 in
theorem attributes_A {b off gc : Nat} (hE : Env W) (h : CB W g (.slice none 0 0) pv 0 out er st act n tx ra bp fl [101, 120, 112, 111, 114, 116] (.slice (some ⟨b, off, none⟩) 1 gc)) (h0 : W.cell? ⟨b, off, none⟩ = some (.string ⟨#[65, 61, 49]⟩)) (hbg : b ≠ g) (hgc : 1 ≤ gc) :
    Calls Tryz.prog 31 #[.pointer (some ⟨g, 0, none⟩)] W fun e w' => e = .returned (.tuple #[]) ∧ (∃ A c, CB w' g (.slice A 1 c) pv 0 out er st act n tx ra bp fl [101, 120, 112, 111, 114, 116] (.slice (some ⟨b, off, none⟩) 1 gc) ∧ VV w' (.slice A 1 c) [VR.vX] ∧ ∀ r, (Value.slice A 1 c).ownBlock = some r → W.heap.size ≤ r) ∧ OneBox g W w' := by
  have hbl := lt_cell h0
  have HO := Lib.hid (options_stop h [112] (Valid_spec [112] (by simp)) [65, 61, 49] ⟨.inr ⟨by decide, b, off, rfl, hbl, h0⟩, by simp, .inr (by decide)⟩ hgc)
  have hg := h.lt
  have H0 := Lib.hid h0
  obtain ⟨mx, hmx⟩ := hE.maxlen
  have HMX := Lib.hid hmx
  have hmg : 2 ≠ g := by
    intro h1
    subst h1
    have h2 := Lib.cell_of_heap h 0
    rw [hmx] at h2
    injection h2 with h2
    cases h2
  clear h hE hmx h0
  go_enter Tryz.func31, Tryz.ntmps31
  go_wp2_with fail
  refine HO.out.mono ?_
  rintro e Y ⟨rfl, hy, hb⟩
  have e39 : Y.cell? ⟨g, 39, none⟩ = some (.slice (some ⟨b, off, none⟩) 1 gc) := Lib.cell_of_heap hy 39
  have e38 : Y.cell? ⟨g, 38, none⟩ = some (.string ⟨#[101, 120, 112, 111, 114, 116]⟩) := Lib.cell_of_heap hy 38
  have e0 : Y.cell? ⟨b, off, none⟩ = some (.string ⟨#[65, 61, 49]⟩) := by
    rw [← H0.out]; unfold World.cell?; dsimp only; rw [hb.2.1 b hbl hbg]
  have HM := Lib.hid (show Y.cell? ⟨2, 0, none⟩ = some (.int .i64 mx) by
    rw [← HMX.out]; unfold World.cell?; dsimp only; rw [hb.2.1 _ (lt_cell HMX.out) hmg])
  have hgy := hy.lt
  have HCY := Lib.hid hy
  have HOY := Lib.hid hb
  have hbY := lt_cell e0
  clear hy hb
  go_wp2
  go_loopw [70] (fun i wr => (i = .int .i64 0 ∧ wr = Y) ∨ (i = .int .i64 1 ∧ ∃ A c, Hid (CB wr g (.slice A 1 c) pv 0 out er st act n tx ra bp fl [101, 120, 112, 111, 114, 116] (.slice (some ⟨b, off, none⟩) 1 gc)) ∧ Hid (VV wr (.slice A 1 c) [VR.vX] ∧ (∀ r, (Value.slice A 1 c).ownBlock = some r → W.heap.size ≤ r) ∧ OneBox g W wr))) (fun i _ => 1 - (intOf i).toNat)
  case atStart => exact .inl ⟨rfl, rfl⟩
  case round =>
    rcases hrel with ⟨rfl, hwr⟩ | ⟨rfl, A, c, HC, HV⟩
    · obtain rfl : Y = wr := hwr.symm
      go_wp2_with fail
      refine (Tryz.strings_Cut ⟨#[65, 61, 49]⟩ ⟨#[61]⟩ mx Y (by decide) HM.out).mono ?_
      rintro e Z ⟨rfl, k, rfl⟩
      have hbz : Below Y.heap.size Y (Y.drewN k) := bdN (Below.refl _ _) k
      generalize Y.drewN k = Z at *
      have HS := Lib.hid (set_A (HCY.out.below hbz))
      have HBZ := Lib.hid hbz
      clear hbz
      have q1 : Lib.cut [65, 61, 49] [61] = ([65], [49], true) := by decide
      go_wp2_with fail
      refine HS.out.mono ?_
      rintro e V ⟨rfl, ⟨A, c, hcv, hvv⟩, hov⟩
      have HMK := Lib.hid (Mark_A V A c hvv)
      have e1 : V.cell? ⟨g, 1, none⟩ = some (.slice A 1 c) := Lib.cell_of_heap hcv 1
      have hgv := hcv.lt
      have HCV := Lib.hid hcv
      have HOV := Lib.hid ((HOY.out.trans (OneBox.of hgy HBZ.out)).trans hov)
      clear hcv hvv hov
      go_wp2_with fail
      refine HMK.out.mono ?_
      rintro e U ⟨A', c', rfl, hor, hbu⟩
      have hcu := HCV.out.below hbu
      have f1 : U.frozen? ⟨g, 1, none⟩ = false := Lib.frozen_of_heap hcu 1
      have e1 : U.cell? ⟨g, 1, none⟩ = some (.slice A 1 c) := Lib.cell_of_heap hcu 1
      have hgu := hcu.lt
      have HCZ := Lib.hid (hcu.set_vv (.slice A' 1 c'))
      have HOB := Lib.hid ((OneBox.refl g U).set 1 (.slice A' 1 c'))
      have HOW := Lib.hid ((HOV.out.trans (OneBox.of hgv hbu)).trans HOB.out)
      have HVX := Lib.hid ((hor.rv VR.cells_len).one HOB.out (fun r hr => by have := own_ge hor r hr; omega))
      have HOG := Lib.hid (fun r hr => Nat.le_trans HOV.out.1 (own_ge hor r hr))
      clear hcu hor hbu
      go_wp2
      go_roundw
      case rel => exact .inr ⟨rfl, A', c', HCZ, Lib.hid ⟨HVX.out, HOG.out, HOW.out⟩⟩
      case measure => simp [intOf]
    · have hgw := HC.out.lt
      go_wp2
      first | go_end0 | refine bodyPost_ret (results_none rfl _ _ _) rfl ?_
      exact ⟨rfl, ⟨A, c, HC.out, HV.out.1, HV.out.2.1⟩, HV.out.2.2⟩
end
end W
end Go.Proofs.YtcbebkeakkahgaaGreatDoor
