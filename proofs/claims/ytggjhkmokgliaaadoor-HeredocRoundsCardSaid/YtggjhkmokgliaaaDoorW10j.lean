/- Words: a step at a plain byte in a here-document; the scope's parse; Here. -/
import Derived.Test.YtggjhkmokgliaaaDoorW10i
namespace Go.Proofs.YtggjhkmokgliaaaDoor
open Go.RowKit K
namespace W
section
variable {W : World} {g a : Nat} {s : List UInt8} {lv opn dep : Int}
set_option maxRecDepth 100000 in
set_option maxHeartbeats 2000000 in
/-- One step at another byte, in a here-document. -/
theorem next_here {tb : List UInt8} {n : Nat} {lc : List Value} (h : Sc W g s a 3 false lv opn dep tb n lc) (ha : a < s.length) (c : UInt8) (hb : bt s a = (c.toNat : Int)) (hl : s.length ≤ 100000) (ht : tb.length ≤ 100000) (h1 : ¬ bt s a = 92) (h2 : ¬ bt s a = 36) (h3 : ¬ bt s a = 96) (h4 : ¬ bt s a = 34) :
    Calls Tryd.prog 53 #[.pointer (some ⟨g, 0, none⟩)] W fun e W' => e = .returned (.tuple #[]) ∧ Sc W' g s (a + 1) 3 false lv opn dep (tb ++ [c]) n lc ∧ Below g W W' := by
  have HS := Lib.hid h
  obtain ⟨tx, ls, hsb, -, -⟩ := h
  have hlt := hsb.lt
  obtain ⟨c0, c1, c2, c3, c4, c5, c6, c7, c8⟩ := hsb.cells
  have a0 : (0 : Int) ≤ (a : Int) := by omega
  have a1 : ((a : Int) < (s.length : Int)) = True := eq_true (by omega)
  have HL := Lib.hid (fun V (hV : Below W.heap.size W V) => literal_any (W := V) c 1 (HS.out.below hV) ht (by omega) (by omega))
  rw [← hb] at HL
  clear hsb hb
  go_enter Tryd.func53, Tryd.ntmps53
  go_wp2_with fail
  go_quiet (fail)
  have HU := Lib.hid (bdN (Below.refl W.heap.size W) nq)
  generalize W.drewN nq = U at HU ⊢
  have hbU := (HS.out.below HU.out)
  obtain ⟨tx', ls', hbU, -, -⟩ := hbU
  clear c0 c1 c2 c3 c4 c5 c6 c7 c8
  obtain ⟨c0, c1, c2, c3, c4, c5, c6, c7, c8⟩ := hbU.cells
  clear hbU
  have HL2 := Lib.hid (show Calls Tryd.prog 67 #[.pointer (some ⟨g, 0, none⟩), .int .u8 (bt s a), .int .i64 1] U fun e W' => e = .returned (.tuple #[]) ∧ Sc W' g s (a + 1) 3 false lv opn dep (tb ++ [c]) n lc ∧ Below g U W' from HL.out _ HU.out)
  go_wp2_with fail
  all_goals refine HL2.out.mono ?_
  all_goals rintro e Y ⟨rfl, hp, hby⟩
  all_goals go_wp2
  all_goals go_end0
  all_goals exact ⟨rfl, hp, (HU.out.mono (by omega)).trans hby⟩
end
end W
end Go.Proofs.YtggjhkmokgliaaaDoor
