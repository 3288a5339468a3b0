/- Words: the scope's parse of "$x\n" in a here-document. -/
import Derived.Test.YtggjhkmokgliaaaDoorW10j
namespace Go.Proofs.YtggjhkmokgliaaaDoor
open Go.RowKit K
namespace W
/-- The offset of a scope. -/
def offOf (w : World) (g : Nat) : Nat := match w.cell? ⟨g, 1, none⟩ with | some (.int _ n) => n.toNat | _ => 0
theorem Sc.off {W : World} {g a : Nat} {s : List UInt8} {pl : Int} {op : Bool} {lv opn dep : Int} {tb : List UInt8} {n : Nat} {lc : List Value} (h : Sc W g s a pl op lv opn dep tb n lc) : offOf W g = a := by
  obtain ⟨tx, ls, hb, -, -⟩ := h
  unfold offOf
  rw [hb.cells.2.1]
  simp
/-- Where the reader of "$x\n" stands. -/
def hereSt (g : Nat) (W : World) : Prop :=
  Sc W g [36, 120, 10] 0 3 false 1 (-1) 0 [] 0 [] ∨ Sc W g [36, 120, 10] 2 3 false 1 (-1) 0 [] 1 (pc 4 [120] 0 false (.slice none 0 0)) ∨ Sc W g [36, 120, 10] 3 3 false 1 (-1) 0 [10] 1 (pc 4 [120] 0 false (.slice none 0 0))
theorem here_next0 {W : World} {g : Nat} (h : Sc W g [36, 120, 10] 0 3 false 1 (-1) 0 [] 0 []) :
    Calls Tryd.prog 53 #[.pointer (some ⟨g, 0, none⟩)] W fun e W' => e = .returned (.tuple #[]) ∧ Sc W' g [36, 120, 10] 2 3 false 1 (-1) 0 [] 1 (pc 4 [120] 0 false (.slice none 0 0)) ∧ Below g W W' := by
  have hg : g ≤ W.heap.size := by obtain ⟨_, _, hb, _⟩ := h; exact Nat.le_of_lt hb.lt
  refine next_dollar (POST := fun W' => Sc W' g [36, 120, 10] 2 3 false 1 (-1) 0 [] 1 (pc 4 [120] 0 false (.slice none 0 0)) ∧ Below g W W') h (by decide) (by decide) (fun V hV => ?_)
  refine (dollar_name (h.below hV) 2 (by decide) (by decide) (by decide) (n := 0) (lc := []) (by decide) (by decide) (fun X hX U hU => flush_nil ((h.below hV).below hX) hU) (fun U hU => ?_) 120 [10] rfl (by decide) (by decide) (by decide) (by decide)).mono ?_
  · obtain ⟨_, _, hb, _⟩ := (h.below hV).below hU
    refine parameter_name hb 1 2 (by decide) (by decide) (by decide) (by decide) (fun j h1 h2 => ?_) (fun _ => by decide) (by decide)
    obtain rfl : j = 1 := by omega
    decide
  · rintro e Y ⟨rfl, h1, h2⟩
    exact ⟨rfl, h1, (hV.mono hg).trans h2⟩
set_option maxRecDepth 100000 in
theorem here_parse {W : World} {g : Nat} (h : Sc W g [36, 120, 10] 0 3 false 1 (-1) 0 [] 0 []) :
    Calls Tryd.prog 44 #[.pointer (some ⟨g, 0, none⟩)] W fun e W' => e = .returned (.tuple #[]) ∧ (∃ lc, Sc W' g [36, 120, 10] 3 3 false 1 (-1) 0 [] 2 lc) ∧ Below g W W' := by
  have hg : g < W.heap.size := by obtain ⟨_, _, hb, _⟩ := h; exact hb.lt
  have HS := Lib.hid h
  clear h
  go_enter Tryd.func44, Tryd.ntmps44
  go_wp2
  go_loopw [] (fun wr => Hid (hereSt g wr) ∧ Hid (Below g W wr)) (fun wr => 3 - offOf wr g)
  case atStart => exact ⟨.inl HS.out, Below.refl _ _⟩
  case round =>
    obtain ⟨HH, HB⟩ := hrel
    clear HS
    rcases HH.out with hs | hs | hs
    · have HE := Lib.hid (show Calls Tryd.prog 52 #[.pointer (some ⟨g, 0, none⟩)] wr fun e W' => e = .returned (.bool false) ∧ Below wr.heap.size wr W' from by obtain ⟨_, _, hb, _⟩ := hs; exact ended_here hb (by decide))
      have HO := Lib.hid hs.off
      have HS := Lib.hid hs
      have hgw : g < wr.heap.size := by obtain ⟨_, _, hb, _⟩ := hs; exact hb.lt
      clear hs HH
      go_wp2_with fail
      refine HE.out.mono ?_
      rintro e w1 ⟨rfl, hb1⟩
      go_wp2_with fail
      refine (here_next0 (HS.out.below hb1)).mono ?_
      rintro e w2 ⟨rfl, hs2, hb2⟩
      have HS2 := Lib.hid hs2
      have HB2 := Lib.hid (show Below g W w2 from HB.out.trans ((hb1.mono (by omega)).trans hb2))
      have HO2 := Lib.hid hs2.off
      clear hs2 hb2 hb1
      go_wp2
      go_roundw
      case rel => exact ⟨.inr (.inl HS2.out), HB2.out⟩
      case measure => rw [HO.out, HO2.out]; decide
    · have HE := Lib.hid (show Calls Tryd.prog 52 #[.pointer (some ⟨g, 0, none⟩)] wr fun e W' => e = .returned (.bool false) ∧ Below wr.heap.size wr W' from by obtain ⟨_, _, hb, _⟩ := hs; exact ended_here hb (by decide))
      have HO := Lib.hid hs.off
      have HS := Lib.hid hs
      have hgw : g < wr.heap.size := by obtain ⟨_, _, hb, _⟩ := hs; exact hb.lt
      clear hs HH
      go_wp2_with fail
      refine HE.out.mono ?_
      rintro e w1 ⟨rfl, hb1⟩
      go_wp2_with fail
      refine (next_here (HS.out.below hb1) (by decide) 10 (by decide) (by decide) (by decide) (by decide) (by decide) (by decide) (by decide)).mono ?_
      rintro e w2 ⟨rfl, hs2, hb2⟩
      have HS2 := Lib.hid hs2
      have HB2 := Lib.hid (show Below g W w2 from HB.out.trans ((hb1.mono (by omega)).trans hb2))
      have HO2 := Lib.hid hs2.off
      clear hs2 hb2 hb1
      go_wp2
      go_roundw
      case rel => exact ⟨.inr (.inr HS2.out), HB2.out⟩
      case measure => rw [HO.out, HO2.out]; decide
    · have HE := Lib.hid (show Calls Tryd.prog 52 #[.pointer (some ⟨g, 0, none⟩)] wr fun e W' => e = .returned (.bool true) ∧ Below wr.heap.size wr W' from by obtain ⟨_, _, hb, _⟩ := hs; exact ended_end hb (by decide))
      have HS := Lib.hid hs
      have hgw : g < wr.heap.size := by obtain ⟨_, _, hb, _⟩ := hs; exact hb.lt
      clear hs HH
      go_wp2_with fail
      refine HE.out.mono ?_
      rintro e w1 ⟨rfl, hb1⟩
      go_wp2_with fail
      refine (flush_text (HS.out.below hb1) (Below.refl _ _) (by decide) (by decide)).mono ?_
      rintro e w2 ⟨rfl, hs2, hb2, -⟩
      have HS2 := Lib.hid hs2
      have HB2 := Lib.hid (show Below g W w2 from HB.out.trans ((hb1.mono (by omega)).trans hb2))
      clear hs2 hb2 hb1
      go_wp2
      go_end0
      exact ⟨rfl, ⟨_, HS2.out⟩, HB2.out⟩
end W
end Go.Proofs.YtggjhkmokgliaaaDoor
