/- Chapter 10: the examples (awake). -/
import Derived.Test.YtggjhkmokgliaaaDoorW10n
namespace Go.Proofs.YtggjhkmokgliaaaDoor
open Go.RowKit K
namespace P
theorem dec1 : Lib.decDigits 1 = [49] := by first | rfl | (unfold Lib.decDigits; rfl) | (simp [Lib.decDigits]) | (unfold Lib.decDigits; simp)
theorem dec2 : Lib.decDigits 2 = [50] := by first | rfl | (unfold Lib.decDigits; rfl) | (simp [Lib.decDigits]) | (unfold Lib.decDigits; simp)
theorem delP_ex : delP [69, 79, 70, 10, 69, 79, 70, 49] = [69, 79, 70, 50] := by
  have hb : bare [69, 79, 70, 10, 69, 79, 70, 49] = [[69, 79, 70], [69, 79, 70, 49]] := by decide
  have e0 : eofT 0 = [69, 79, 70] := rfl
  have e1 : eofT 1 = [69, 79, 70, 49] := by unfold eofT; rw [if_neg (by omega), dec1]; rfl
  have e2 : eofT 2 = [69, 79, 70, 50] := by unfold eofT; rw [if_neg (by omega), dec2]; rfl
  have hk : delK [[69, 79, 70], [69, 79, 70, 49]] = 2 := delK_eq (fun j hj => by
    match j, hj with
    | 0, _ => rw [e0]; decide
    | 1, _ => rw [e1]; decide) (by rw [e2]; decide)
  unfold delP
  rw [hb, hk, e2]
theorem docP_ex : docP false [69] (lns [97, 10, 69, 10, 98]) = some ([97, 10], 4) := by decide
theorem stripP_ex : stripP [9, 97, 10, 9, 32, 9, 98] = [97, 10, 32, 9, 98] := by decide
end P
namespace W
theorem cell_below {a b : World} {g o : Nat} {v : Value} (h : Below a.heap.size a b) (hc : a.cell? ⟨g, o, none⟩ = some v) : b.cell? ⟨g, o, none⟩ = some v := by
  have hlt := lt_cell hc
  have := h.block g hlt
  unfold World.cell? at hc ⊢
  rw [this]
  exact hc
set_option maxRecDepth 100000 in
set_option maxHeartbeats 4000000 in
theorem awake_any (w : World) (hw : Env w) : Calls Tryd.prog 7 #[] w fun e w' => e = .returned (.bool true) ∧ Below w.heap.size w w' := by
  obtain ⟨x, hx⟩ : ∃ x, x = w.alloc (.cells #[.string ⟨#[69]⟩, .bool false, .bool false] 30) := ⟨_, rfl⟩
  have HX := Lib.hid hx
  have HR := Lib.hid (show Calls Tryd.prog 12 #[.string ⟨#[97, 10, 69, 10, 98]⟩, .int .i64 0, .slice (some ⟨w.heap.size, 0, none⟩) 1 1] x fun e w' => ∃ q c, e = .returned (.tuple #[.slice (some ⟨q, 0, none⟩) 1 c, .int .i64 4, .int .i64 0]) ∧ w'.cell? ⟨q, 0, none⟩ = some (.string ⟨#[97, 10]⟩) ∧ Below x.heap.size x w' from Read_one [97, 10, 69, 10, 98] w.heap.size 0 1 [69] [97, 10] 4 false false x (by decide) (by rw [hx]; simp) (by rw [hx]; simp) (by rw [hx]; simp) P.docP_ex)
  have HBX := Lib.hid (show Below w.heap.size w x by rw [hx]; exact balloc _ _)
  clear hx
  go_enter Tryd.func7, Tryd.ntmps7
  go_wp2_with fail
  rw [← HX.out]
  refine HR.out.mono ?_
  rintro e w1 ⟨q, c1, rfl, hq, hb1⟩
  have HB1 := Lib.hid (btr HBX.out hb1)
  have HQ := Lib.hid hq
  clear hb1 hq HR
  go_wp2_with fail
  refine (Body_here w1).mono ?_
  rintro e w2 ⟨⟨A2, c2, rfl⟩, hb2⟩
  have HQ2 := Lib.hid (show w2.cell? ⟨q, 0, none⟩ = some (.string ⟨#[97, 10]⟩) from (cell_below hb2 HQ.out))
  have HB2 := Lib.hid (btr HB1.out hb2)
  clear hb2
  go_wp2_with fail
  refine (Body_quoted 36 [120, 10] w2).mono ?_
  rintro e w3 ⟨rfl, hk, ht, hb3⟩
  have hq3 : w3.cell? ⟨q, 0, none⟩ = some (.string ⟨#[97, 10]⟩) := (cell_below hb3 HQ2.out)
  have HB3 := Lib.hid (btr HB2.out hb3)
  clear hb3
  have HST := Lib.hid (show ∀ v, Calls Tryd.prog 8 #[.string ⟨#[9, 97, 10, 9, 32, 9, 98]⟩] v fun e w' => e = .returned (.string ⟨#[97, 10, 32, 9, 98]⟩) ∧ Below v.heap.size v w' from fun v => by have := Strip_any [9, 97, 10, 9, 32, 9, 98] v (by decide); rw [P.stripP_ex] at this; exact this)
  have HDE := Lib.hid (show ∀ v, Env v → Calls Tryd.prog 10 #[.string ⟨#[69, 79, 70, 10, 69, 79, 70, 49]⟩] v fun e w' => e = .returned (.string ⟨#[69, 79, 70, 50]⟩) ∧ Below v.heap.size v w' from fun v hv => by have := Delimiter_any [69, 79, 70, 10, 69, 79, 70, 49] v (by decide) hv; rw [P.delP_ex] at this; exact this)
  go_wp2_with fail
  refine (HST.out _).mono ?_
  rintro e w4 ⟨rfl, hb4⟩
  have HB4 := Lib.hid (btr HB3.out hb4)
  clear hb4 hk ht hq3
  go_wp2_with fail
  refine (HDE.out _ (hw.below HB4.out)).mono ?_
  rintro e w5 ⟨rfl, hb5⟩
  have HB5 := Lib.hid (btr HB4.out hb5)
  clear hb5
  go_wp2
  go_ret
  exact ⟨rfl, HB5.out⟩
end W
end Go.Proofs.YtggjhkmokgliaaaDoor
