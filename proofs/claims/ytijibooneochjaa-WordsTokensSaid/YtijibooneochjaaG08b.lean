/- Words: Quoted; Literal. -/
import Derived.Test.YtijibooneochjaaG08a
import Derived.Test.YtijibooneochjaaW08g
import Derived.Test.YtijibooneochjaaBldS
namespace Go.Proofs.Ytijibooneochjaa
open Go.RowKit K
open WP (GP gp gpL)
namespace W
theorem quoted_drop {l : List GP} {k : Nat} {p : GP} (h : l.drop k = p :: l.drop (k + 1)) : WP.gquoted (l.drop k) = (WP.isQ p.kind || WP.gquoted (l.drop (k + 1))) := by rw [h]; rfl
set_option maxRecDepth 100000 in
set_option maxHeartbeats 2000000 in
theorem Quoted_any (v : Value) (l : List GP) (w : World) (h : GS w (fun b => b < w.heap.size) v l) (hn : l.length ≤ 1000000) :
    Calls Try.prog 12 #[v] w fun e w' => e = .returned (.bool (WP.gquoted l)) ∧ Below w.heap.size w w' := by
  obtain ⟨A, cap, rfl⟩ := h.slice
  have HG := Lib.hid h
  obtain ⟨R, hR⟩ : ∃ R, WP.gquoted l = R := ⟨_, rfl⟩
  rw [hR]
  have HR := Lib.hid (show WP.gquoted (l.drop 0) = R from hR)
  clear hR h
  go_enter Try.func12, Try.ntmps12
  go_wp2
  go_loopw [7] (fun i wr => ∃ k : Nat, k ≤ l.length ∧ i = .int .i64 k ∧ Hid (WP.gquoted (l.drop k) = R) ∧ Hid (Below w.heap.size w wr)) (fun i _ => l.length - (intOf i).toNat)
  case atStart => exact ⟨0, Nat.zero_le _, rfl, HR, Lib.hid (Below.refl _ _)⟩
  case round =>
    obtain ⟨k, hk, rfl, HN, HB⟩ := hrel
    by_cases hlt : k < l.length
    · obtain ⟨p, hp, hd⟩ := get_of_lt hlt
      have HQ := Lib.hid (quoted_drop hd)
      obtain ⟨b, off, A2, cap2, rfl, hb, g0, g1, g2, g3, g4, -⟩ := (HG.out.kept HB.out).get hp
      have hbr : b < wr.heap.size := Nat.lt_of_lt_of_le hb HB.out.size
      clear hp hd hb
      obtain ⟨kd, t, o, c, ps⟩ := p
      have hps : (0 : Int) ≤ (ps.length : Int) := by omega
      dsimp only [WP.GP.kind, WP.GP.text, WP.GP.op, WP.GP.colon, WP.GP.parts] at g0 g1 g2 g3 g4 HQ
      have HX := Lib.hid (show Below w.heap.size w (wr.alloc (.cells #[.int .i64 kd, .string ⟨t.toArray⟩, .int .i64 o, .bool c, .slice A2 ps.length cap2] 64)) from btr HB.out (balloc _ _))
      by_cases h2 : kd = 2
      · subst h2
        have HF := Lib.hid (show R = true by rw [← HN.out, HQ.out]; rfl)
        go_wp2
        go_ret
        exact ⟨ret_bool HF.out.symm, HX.out⟩
      · have b2 := beq_f h2
        by_cases h3 : kd = 3
        · subst h3
          have HF := Lib.hid (show R = true by rw [← HN.out, HQ.out]; rfl)
          go_wp2
          go_ret
          exact ⟨ret_bool HF.out.symm, HX.out⟩
        · have b3 := beq_f h3
          have HF := Lib.hid (show WP.gquoted (l.drop (k + 1)) = R by rw [← HN.out, HQ.out, show WP.isQ kd = false from decide_eq_false (by omega), Bool.false_or])
          clear h2 h3
          go_wp2
          go_roundw
          case rel => exact ⟨k + 1, hlt, by go_num, HF, HX⟩
          case measure => simp [intOf]; omega
    · have HF := Lib.hid (show R = false by rw [← HN.out, List.drop_eq_nil_of_le (by omega)]; rfl)
      go_wp2
      go_ret
      exact ⟨ret_bool HF.out.symm, HB.out⟩
end W
end Go.Proofs.Ytijibooneochjaa
