/- Chapter 34: awake. -/
import Derived.Test.YtfigidknocpdaaaDoorW34r
import Derived.Test.YtfigidknocpdaaaDoorW34b
namespace Go.Proofs.YtfigidknocpdaaaDoor
open Go.RowKit K
namespace K
theorem own_row {w : World} {base : Nat} {e : TypeId} {size : Nat} {v : Value} {n : Nat} {xs : List Value} (h : w.ownsRow base e size v (n + 1) xs) :
    ∃ g cap : Nat, v = .slice (some ⟨g, 0, none⟩) (n + 1) cap ∧ g < w.heap.size ∧ n + 1 ≤ cap ∧ cap ≤ 9223372036854775807 ∧ ∀ (j : Nat) (u : Value), xs[j]? = some u → w.cell? ⟨g, j, none⟩ = some u := by
  have h0 := h
  rcases h.2 with ⟨hv, h1⟩ | ⟨g, cap, cur, hv, hg, hh, h1, h2, _⟩
  · omega
  · subst hv
    refine ⟨g, cap, rfl, (Array.getElem?_eq_some_iff.1 hh).1, h1, by unfold maxLen at h2; exact h2, fun j u hj => ?_⟩
    have := h0.cells (g := g) rfl j u hj
    rwa [show (⟨g, 0, none⟩ : Addr).add j = ⟨g, j, none⟩ by unfold Addr.add; split <;> simp_all] at this
theorem own_zero {w : World} {base : Nat} {e : TypeId} {size : Nat} {v : Value} {xs : List Value} (h : w.ownsRow base e size v 0 xs) : ∃ A c, v = .slice A 0 c := by
  rcases h.2 with ⟨hv, h1⟩ | ⟨g, cap, cur, hv, hg, hh, h1, h2, _⟩
  · exact ⟨_, _, hv⟩
  · exact ⟨_, _, hv⟩
theorem later {g j : Nat} {u : Value} {w w' : World} (h : w.cell? ⟨g, j, none⟩ = some u) (hg : g < w.heap.size) (hb : Below w.heap.size w w') : w'.cell? ⟨g, j, none⟩ = some u := (hb.cell (p := ⟨g, j, none⟩) hg).trans h
end K
namespace W
theorem balloc (w : World) (o : Obj) : Below w.heap.size w (w.alloc o) := (Below.refl _ _).alloc (Nat.le_refl _) _
set_option maxHeartbeats 4000000 in
set_option maxRecDepth 100000 in
theorem awake_any (w : World) (hw : Env w) :
    Calls Tryd.prog 10 #[] w fun e w' => e = .returned (.bool true) ∧ Below w.heap.size w w' := by
  have S1 := Lib.hid (show Calls Tryd.prog 11 #[.string ⟨#[83, 73, 71, 73, 78, 84]⟩] w fun e w' => e = .returned (.tuple #[.int .i64 2, .bool true]) ∧ w = w' from (Signal_any [83, 73, 71, 73, 78, 84] w hw).mono fun _ _ ⟨h1, h2⟩ => ⟨h1.trans (by rw [P.aw1]; rfl), h2⟩)
  have S2 := Lib.hid (show Calls Tryd.prog 11 #[.string ⟨#[69, 88, 73, 84]⟩] w fun e w' => e = .returned (.tuple #[.int .i64 0, .bool true]) ∧ w = w' from (Signal_any [69, 88, 73, 84] w hw).mono fun _ _ ⟨h1, h2⟩ => ⟨h1.trans (by rw [P.aw2]; rfl), h2⟩)
  have S3 := Lib.hid (show Calls Tryd.prog 11 #[.string ⟨#[83, 73, 71, 50]⟩] w fun e w' => e = .returned (.tuple #[.int .i64 0, .bool false]) ∧ w = w' from (Signal_any [83, 73, 71, 50] w hw).mono fun _ _ ⟨h1, h2⟩ => ⟨h1.trans (by rw [P.aw3]; rfl), h2⟩)
  have T1 := Lib.hid (Set_in (.slice none 0 0) [] 2 [101, 99, 104, 111, 32, 104, 105] w (TV.nil w) (by simp) (by omega) (by omega))
  rw [P.aw4] at T1
  have HE := Lib.hid hw
  clear hw
  go_enter Tryd.func10, Tryd.ntmps10
  go_wp2_with fail; refine (S1.out).mono ?_; rintro e w1 ⟨rfl, rfl⟩
  go_wp2_with fail; refine (S2.out).mono ?_; rintro e w1 ⟨rfl, rfl⟩
  go_wp2_with fail; refine (S3.out).mono ?_; rintro e w1 ⟨rfl, rfl⟩
  clear S1 S2 S3
  go_wp2_with fail
  refine T1.out.mono ?_
  rintro e w1 ⟨v1, rfl, hown1, hb1⟩
  have T2 := Lib.hid (Set_in v1 _ 0 [] w1 (TV.own hown1) (by simp) (by omega) (by omega))
  rw [P.aw5] at T2
  have HB1 := Lib.hid hb1
  clear T1 hown1 hb1
  go_wp2_with fail
  refine T2.out.mono ?_
  rintro e w2 ⟨v2, rfl, hown2, hb2⟩
  have HB2 := Lib.hid (btr HB1.out hb2)
  have T3 := Lib.hid (Show_any v2 _ w2 (TV.own hown2) (by simp) (by intro t ht; simp at ht; rcases ht with rfl | rfl <;> simp) (HE.out.below HB2.out))
  rw [P.aw6] at T3
  clear T2 hown2 hb2
  go_wp2_with fail
  refine T3.out.mono ?_
  rintro e w3 ⟨v3, rfl, hown3, hb3⟩
  obtain ⟨g3, c3, rfl, l3, m3, n3, k3⟩ := own_row hown3
  have HB3 := Lib.hid (btr HB2.out hb3)
  have s30 := Lib.hid (k3 0 _ rfl)
  have s31 := Lib.hid (k3 1 _ rfl)
  have L3 := Lib.hid l3
  obtain ⟨x3, hx3⟩ : ∃ x, x = w3.alloc (.cells #[.int .i64 2, .string ⟨#[97]⟩, .int .i64 15, .string ⟨#[98]⟩] 30) := ⟨_, rfl⟩
  obtain ⟨y3, hy3⟩ : ∃ y, y = x3.alloc (.cells #[.int .i64 1, .int .i64 15, .int .i64 2] 3) := ⟨_, rfl⟩
  have hby : Below x3.heap.size x3 y3 := by rw [hy3]; exact balloc _ _
  have hV3 : TV x3 (.slice (some ⟨w3.heap.size, 0, none⟩) 2 2) [(2, [97]), (15, [98])] := by rw [hx3]; exact TV.lit2 w3 2 15 [97] [98] _
  have hI3 : IL .i64 y3 (some ⟨x3.heap.size, 0, none⟩) [1, 15, 2] := by rw [hy3]; exact IL.lit3 x3 1 15 2 _
  have T4 := Lib.hid (Next_any _ _ (some ⟨x3.heap.size, 0, none⟩) 3 [1, 15, 2] y3 (hV3.below hby) (by simp) (by intro t ht; simp at ht; rcases ht with rfl | rfl <;> simp) hI3 (by simp) (by intro z hz; simp at hz; rcases hz with rfl | rfl | rfl <;> exact wf64 (by omega) (by omega)))
  have BY3 := Lib.hid (show Below w3.heap.size w3 y3 from btr (by rw [hx3]; exact balloc _ _) hby)
  have hsx : x3.heap.size = w3.heap.size + 1 := by rw [hx3]; simp
  have HX3 := Lib.hid hx3
  have HY3 := Lib.hid hy3
  clear T3 hown3 hb3 k3 l3 hV3 hI3 hby hx3 hy3
  rw [hsx] at T4
  go_wp2_with fail
  rw [← HX3.out, ← HY3.out]
  refine T4.out.mono ?_
  rintro e w4 ⟨hb4, ⟨hd, -⟩ | ⟨v4, -, rfl, hown4⟩⟩
  · rw [P.aw7] at hd; simp at hd
  rw [P.aw7, P.aw8] at hown4
  rw [P.aw7, P.aw8, show valT (P.trapsF [(2, [97]), (15, [98])]) 2 = some (.agg #[.int .i64 2, .string ⟨#[97]⟩]) by unfold valT; rw [P.aw9]; rfl]
  obtain ⟨g4, c4, rfl, l4, m4, n4, k4⟩ := own_row (n := 0) hown4
  have s40 := Lib.hid (show w4.cell? ⟨g4, 0, none⟩ = some (.int .i64 15) from k4 0 _ rfl)
  have L4 := Lib.hid l4
  have HB4 := Lib.hid (btr BY3.out hb4)
  obtain ⟨x4, hx4⟩ : ∃ x, x = w4.alloc (.cells #[.int .i64 2, .string ⟨#[97]⟩] 30) := ⟨_, rfl⟩
  obtain ⟨y4, hy4⟩ : ∃ y, y = x4.alloc (.cells #[.int .i64 2, .string ⟨#[97]⟩, .int .i64 15, .string ⟨#[]⟩] 30) := ⟨_, rfl⟩
  have hbx4 : Below w4.heap.size w4 x4 := by rw [hx4]; exact balloc _ _
  have hby4 : Below x4.heap.size x4 y4 := by rw [hy4]; exact balloc _ _
  have hsx4 : x4.heap.size = w4.heap.size + 1 := by rw [hx4]; simp
  have sb1 := Lib.hid (show x4.cell? ⟨w4.heap.size, 1, none⟩ = some (.string ⟨#[97]⟩) by rw [hx4]; simp)
  have hV4 : TV y4 (.slice (some ⟨x4.heap.size, 0, none⟩) 2 2) [(2, [97]), (15, [])] := by rw [hy4]; exact TV.lit2 x4 2 15 [97] [] _
  have HBW4 := Lib.hid (btr HB3.out HB4.out)
  have HBY4 := Lib.hid (btr HBW4.out (btr hbx4 hby4))
  have T5 := Lib.hid (Requests_any (.slice none 0 0) _ [] _ false y4 (TV.nil y4) hV4 (by simp) (by simp) (by simp) (by intro t ht; simp at ht; rcases ht with rfl | rfl <;> simp) (HE.out.below HBY4.out))
  rw [P.aw10, hsx4] at T5
  have HX4 := Lib.hid hx4
  have HY4 := Lib.hid hy4
  have BX4 := Lib.hid hbx4
  have BY4 := Lib.hid hby4
  clear T4 hown4 hb4 k4 l4 hx4 hy4 hbx4 hby4 hV4 hsx
  go_wp2_with fail
  rw [← HX4.out, ← HY4.out]
  refine T5.out.mono ?_
  rintro e w5 ⟨v5, rfl, hown5, hb5⟩
  obtain ⟨g5, c5, rfl, l5, m5, n5, k5⟩ := own_row (n := 1) hown5
  have q0 := Lib.hid (show w5.cell? ⟨g5, 0, none⟩ = some (.int .i64 14) from k5 0 _ rfl)
  have q5 := Lib.hid (show w5.cell? ⟨g5, 5, none⟩ = some (.int .i64 2) from k5 5 _ rfl)
  have q6 := Lib.hid (show w5.cell? ⟨g5, 6, none⟩ = some (.int .i64 2) from k5 6 _ rfl)
  have q17 := Lib.hid (show w5.cell? ⟨g5, 17, none⟩ = some (.int .i64 15) from k5 17 _ rfl)
  have q18 := Lib.hid (show w5.cell? ⟨g5, 18, none⟩ = some (.int .i64 1) from k5 18 _ rfl)
  have L5 := Lib.hid l5
  have HB5 := Lib.hid hb5
  obtain ⟨y5, hy5⟩ : ∃ y, y = w5.alloc (.cells #[.int .i64 2, .string ⟨#[97]⟩, .int .i64 15, .string ⟨#[]⟩] 30) := ⟨_, rfl⟩
  have hby5 : Below w5.heap.size w5 y5 := by rw [hy5]; exact balloc _ _
  have hV5 : TV y5 (.slice (some ⟨w5.heap.size, 0, none⟩) 2 2) [(2, [97]), (15, [])] := by rw [hy5]; exact TV.lit2 w5 2 15 [97] [] _
  have HBY5 := Lib.hid (btr HBY4.out (btr hb5 hby5))
  have T6 := Lib.hid (Requests_any (.slice none 0 0) _ [] _ true y5 (TV.nil y5) hV5 (by simp) (by simp) (by simp) (by intro t ht; simp at ht; rcases ht with rfl | rfl <;> simp) (HE.out.below HBY5.out))
  rw [P.aw11] at T6
  have HY5 := Lib.hid hy5
  have BY5 := Lib.hid hby5
  clear T5 hown5 hb5 k5 l5 hy5 hby5 hV5 hsx4
  go_wp2_with fail
  rw [← HY5.out]
  refine T6.out.mono ?_
  rintro e w6 ⟨v6, rfl, hown6, hb6⟩
  obtain ⟨A6, c6, rfl⟩ := own_zero hown6
  have B56 : Below w5.heap.size w5 w6 := btr BY5.out hb6
  have B46 : Below x4.heap.size x4 w6 := btr (btr BY4.out HB5.out) B56
  have B4 : Below w4.heap.size w4 w6 := btr BX4.out B46
  have B3 : Below w3.heap.size w3 w6 := btr HB4.out B4
  have a1 := later s30.out L3.out B3
  have a2 := later s31.out L3.out B3
  have a3 := later s40.out L4.out B4
  have a4 := later sb1.out (by rw [HX4.out]; simp) B46
  have a5 := later q0.out L5.out B56
  have a6 := later q5.out L5.out B56
  have a7 := later q6.out L5.out B56
  have a8 := later q17.out L5.out B56
  have a9 := later q18.out L5.out B56
  have HBF := Lib.hid (btr HBY5.out hb6)
  clear B56 B46 B4 B3 hown6 hb6 T6 HX3 HY3 HX4 HY4 HY5
  go_wp2
  go_ret
  exact ⟨rfl, HBF.out⟩
end W
end Go.Proofs.YtfigidknocpdaaaDoor
