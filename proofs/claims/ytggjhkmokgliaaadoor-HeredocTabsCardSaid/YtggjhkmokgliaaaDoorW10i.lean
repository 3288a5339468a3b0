/- Words: a dollar before a name; one step in a here-document. -/
import Derived.Test.YtggjhkmokgliaaaDoorW10h
namespace Go.Proofs.YtggjhkmokgliaaaDoor
open Go.RowKit K
namespace W
section
variable {W : World} {g a : Nat} {s : List UInt8} {lv opn dep : Int}
set_option maxRecDepth 100000 in
set_option maxHeartbeats 4000000 in
theorem dollar_name {pl : Int} {op : Bool} {tb : List UInt8} {n n0 : Nat} {lc lc0 : List Value} (h : Sc W g s a pl op lv opn dep tb n0 lc0) (k : Nat) (hk : k ≤ s.length) (hak : a + 1 < k) (hl : s.length ≤ 100000) (hn : n ≤ 100000) (h32 : k ≤ a + 1 + 32)
    (HFL : ∀ X, Below W.heap.size W X → ∀ V, Below X.heap.size X V → Calls Tryd.prog 54 #[.pointer (some ⟨g, 0, none⟩)] V fun e V' => e = .returned (.tuple #[]) ∧ Sc V' g s a pl op lv opn dep [] n lc ∧ Below g V V' ∧ ∀ k, X.heap.size ≤ k → k < V.heap.size → V'.heap[k]? = V.heap[k]?)
    (HPM : ∀ V, Below W.heap.size W V → Calls Tryd.prog 77 #[.pointer (some ⟨g, 0, none⟩), .int .i64 ((a : Int) + 1)] V fun e V' => e = .returned (.int .i64 k) ∧ V = V')
    (r0 : UInt8) (R : List UInt8) (hr : cut s (a + 1) s.length = r0 :: R) (p1 : Lib.hasPrefix (r0 :: R) [40, 40] = false) (p2 : Lib.hasPrefix (r0 :: R) [40] = false) (p3 : Lib.hasPrefix (r0 :: R) [123] = false) (p4 : P.dgI (bt (r0 :: R) 0) = false) :
    Calls Tryd.prog 64 #[.pointer (some ⟨g, 0, none⟩)] W fun e W' => e = .returned (.tuple #[]) ∧ Sc W' g s k pl op lv opn dep [] (n + 1) (lc ++ pc 4 (cut s (a + 1) k) 0 false (.slice none 0 0)) ∧ Below g W W' := by
  have HS := Lib.hid h
  obtain ⟨tx, ls, hb, -, -⟩ := h
  have HB := Lib.hid hb
  have hlt := hb.lt
  obtain ⟨c0, c1, c2, c3, c4, c5, c6, c7, c8⟩ := hb.cells
  have HFL' := Lib.hid HFL
  have HPM' := Lib.hid HPM
  have a0 : (0 : Int) ≤ (a : Int) + 1 := by omega
  have a1 : ((a : Int) + 1 ≤ (s.length : Int)) = True := eq_true (by omega)
  have a2 : ((a : Int) + 1).toNat = a + 1 := by omega
  have a3 : (((a : Int) + 1) < (k : Int)) = True := eq_true (by omega)
  have a4 : IntKind.i64.wrap ((a : Int) + 1) = (a : Int) + 1 := IntWalk.i64_in _ (by omega)
  have k0 : (0 : Int) ≤ (k : Int) := by omega
  have k1 : ((k : Int) ≤ (s.length : Int)) = True := eq_true (by omega)
  have a5 : ((a : Int) + 1 ≤ (k : Int)) = True := eq_true (by omega)
  have a6 : ((a : Int) < (k : Int)) = True := eq_true (by omega)
  have a7 : a < k := by omega
  clear hb HFL HPM
  go_enter Tryd.func64, Tryd.ntmps64
  go_wp2_with fail
  go_quiet (fail)
  have HU := Lib.hid (bdN (Below.refl W.heap.size W) nq)
  generalize W.drewN nq = U at HU ⊢
  have hbU := HB.out.kept (HU.out.block g hlt)
  have HBU := Lib.hid hbU
  clear c0 c1 c2 c3 c4 c5 c6 c7 c8
  obtain ⟨c0, c1, c2, c3, c4, c5, c6, c7, c8⟩ := hbU.cells
  clear hbU
  go_wp2_with (first | (go_at_call 72; refine (HasPrefix_any _ _ _).mono ?_; rintro e w' ⟨rfl, rfl⟩) | (go_at_call 76; refine (digit_any _ _).mono ?_; rintro e w' ⟨rfl, rfl⟩))
  refine (HPM'.out _ HU.out).mono ?_
  rintro e w1 ⟨rfl, rfl⟩
  go_wp2_with fail
  have HN := Lib.hid (show ∀ q, Calls Tryd.prog 78 #[.pointer (some ⟨g, 0, none⟩), .int .i64 ((a : Int) + 1), .int .i64 k, .int .i64 a] (U.drewN q) fun e W' => e = .returned (.tuple #[]) ∧ ∃ m, W' = (U.drewN q).drewN m from fun q => (name_ok (W := U.drewN q) (a := a) (HBU.out.kept rfl) (a + 1) k a hak hk h32).mono fun e V ⟨x1, x2⟩ => ⟨x1, 0, x2.symm⟩)
  go_quiet ((go_at_call 78; exact Calls.quiet_of (HN.out _)))
  have HU2 := Lib.hid (bdN HU.out nq)
  generalize U.drewN nq = X at HU2 ⊢
  have hbX := HB.out.kept (HU2.out.block g hlt)
  clear c0 c1 c2 c3 c4 c5 c6 c7 c8 HN HBU
  obtain ⟨c0, c1, c2, c3, c4, c5, c6, c7, c8⟩ := hbX.cells
  clear hbX
  go_wp2_with fail
  refine wp_region_still_tail 14 (by kernel_rfl) (by kernel_rfl) ?_
  simp only [List.take_succ_cons, List.take_zero, List.drop_succ_cons, List.drop_zero]
  repeat still_step
  refine wpStill_nil ?_
  change wpList _ _ _ _ _ X.drew
  go_wp2_with fail
  have hbelow : Below W.heap.size W X.drew := HU2.out.drew
  refine (add_any 4 (cut s (a + 1) k) 0 false none 0 0 k (HS.out.below hbelow) hn (HFL'.out _ hbelow)).mono ?_
  rintro e Y ⟨rfl, hsc, hby⟩
  go_wp2
  exact bodyPost_ret (results_none Tryd.results64 _ _ _) rfl ⟨rfl, hsc, (hbelow.mono (by omega)).trans hby⟩
set_option maxRecDepth 100000 in
set_option maxHeartbeats 2000000 in
/-- One step at a dollar. -/
theorem next_dollar {pl : Int} {op : Bool} {tb : List UInt8} {n : Nat} {lc : List Value} (h : Sc W g s a pl op lv opn dep tb n lc) (ha : a < s.length) (hc : bt s a = 36) {POST : World → Prop}
    (HD : ∀ V, Below W.heap.size W V → Calls Tryd.prog 64 #[.pointer (some ⟨g, 0, none⟩)] V fun e V' => e = .returned (.tuple #[]) ∧ POST V') :
    Calls Tryd.prog 53 #[.pointer (some ⟨g, 0, none⟩)] W fun e W' => e = .returned (.tuple #[]) ∧ POST W' := by
  obtain ⟨tx, ls, hb, -, -⟩ := h
  obtain ⟨c0, c1, c2, c3, c4, c5, c6, c7, c8⟩ := hb.cells
  have a0 : (0 : Int) ≤ (a : Int) := by omega
  have a1 : ((a : Int) < (s.length : Int)) = True := eq_true (by omega)
  have HD' := Lib.hid HD
  clear hb HD
  go_enter Tryd.func53, Tryd.ntmps53
  go_wp2_with fail
  go_quiet (fail)
  go_wp2_with fail
  refine (HD'.out _ (bdN (Below.refl _ _) _)).mono ?_
  rintro e Y ⟨rfl, hp⟩
  go_wp2
  go_end0
  exact ⟨rfl, hp⟩
end
end W
end Go.Proofs.YtggjhkmokgliaaaDoor
