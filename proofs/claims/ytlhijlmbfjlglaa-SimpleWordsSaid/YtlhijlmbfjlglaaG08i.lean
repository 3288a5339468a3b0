/- Words: parameter of the writer, the other ways. -/
import Derived.Test.YtlhijlmbfjlglaaG08h
namespace Go.Proofs.Ytlhijlmbfjlglaa
open Go.RowKit K
open WP (GP gp gpL)
namespace W
set_option maxRecDepth 100000 in
set_option maxHeartbeats 4000000 in
theorem param_nil (g : Nat) (l : List UInt8) (x c : Bool) (pl : Nat) (nx : Int) (ps : List GP) (A : Option Addr) (cap : Nat) (w : World) (h : WB g l x w) (hl : l.length ≤ 50000000) :
    Calls Try.prog 73 #[.pointer (some ⟨g, 0, none⟩), .agg #[.int .i64 4, .string ⟨([] : List UInt8).toArray⟩, .int .i64 0, .bool c, .slice A ps.length cap], .int .i64 pl, .int .u8 nx] w
      fun e w' => e = .returned (.tuple #[]) ∧ WB g (l ++ [36]) x w' ∧ Bkept g w w' := by
  have HB := Lib.hid h
  have hgl := h.lt
  have HN := Lib.hid (fun V => show Calls Try.prog 87 #[.string ⟨([] : List UInt8).toArray⟩] V fun e w' => e = .returned (.bool true) ∧ V = w' from numeral_any [] V (by simp))
  have hps : (0 : Int) ≤ (ps.length : Int) := by omega
  obtain ⟨V, hV⟩ : ∃ V, V = w.alloc (.cells #[.int .i64 4, .string ⟨([] : List UInt8).toArray⟩, .int .i64 0, .bool c, .slice A ps.length cap] 77) := ⟨_, rfl⟩
  have HVP := Lib.hid (show V.heap[w.heap.size]? = some (.cells #[.int .i64 4, .string ⟨([] : List UInt8).toArray⟩, .int .i64 0, .bool c, .slice A ps.length cap] 77 (0, 0)) by rw [hV]; exact al_new w _)
  have HWV := Lib.hid (show Below w.heap.size w V by rw [hV]; exact balloc _ _)
  have HV := Lib.hid hV
  have v1 := Lib.cell_of_heap HVP.out 1
  have hv1 : V.cell? ⟨w.heap.size, 1, none⟩ = some (.string ⟨([] : List UInt8).toArray⟩) := v1
  have HWVB := Lib.hid (HB.out.below (btr HWV.out (Below.refl _ _).drew))
  have HKV := Lib.hid (Bkept.of_below (btr HWV.out (Below.refl _ _).drew) (Nat.le_of_lt hgl))
  have HWS := Lib.hid (writeStringW g l [36] x V.drew HWVB.out (by omega) (by simp))
  have hA1 := str_add [36] [] [36] rfl (by decide) (by decide)
  clear h hV v1
  go_enter Try.func73, Try.ntmps73
  go_wp2_with (go_at_call 87; refine (HN.out _).mono ?_; rintro e w' ⟨rfl, rfl⟩)
  rw [← HV.out]
  refine wp_region_still_tail 6 (by kernel_rfl) (by kernel_rfl) ?_
  simp only [List.take_succ_cons, List.take_zero, List.drop_succ_cons, List.drop_zero]
  repeat still_step
  refine wpStill_nil ?_
  change wpList _ _ _ _ _ V.drew
  go_wp2_with fail
  refine HWS.out.mono ?_
  rintro e Z ⟨rfl, hz, hk⟩
  have HZ := Lib.hid hz
  have HKZ := Lib.hid (HKV.out.trans hk)
  clear hz hk
  go_wp2
  first | go_end0 | refine bodyPost_ret (results_none rfl _ _ _) rfl ?_
  exact ⟨rfl, HZ.out, HKZ.out⟩
set_option maxRecDepth 100000 in
set_option maxHeartbeats 4000000 in
theorem param_len (g : Nat) (l t : List UInt8) (x c : Bool) (pl : Nat) (nx : Int) (ps : List GP) (A : Option Addr) (cap : Nat) (w : World) (h : WB g l x w) (hl : l.length ≤ 50000000) (ht : t.length ≤ 1000000) :
    Calls Try.prog 73 #[.pointer (some ⟨g, 0, none⟩), .agg #[.int .i64 4, .string ⟨t.toArray⟩, .int .i64 5, .bool c, .slice A ps.length cap], .int .i64 pl, .int .u8 nx] w
      fun e w' => e = .returned (.tuple #[]) ∧ WB g (l ++ 36 :: 123 :: 35 :: (t ++ [125])) x w' ∧ Bkept g w w' := by
  have HB := Lib.hid h
  have hgl := h.lt
  have hps : (0 : Int) ≤ (ps.length : Int) := by omega
  obtain ⟨V, hV⟩ : ∃ V, V = w.alloc (.cells #[.int .i64 4, .string ⟨t.toArray⟩, .int .i64 5, .bool c, .slice A ps.length cap] 77) := ⟨_, rfl⟩
  have HVP := Lib.hid (show V.heap[w.heap.size]? = some (.cells #[.int .i64 4, .string ⟨t.toArray⟩, .int .i64 5, .bool c, .slice A ps.length cap] 77 (0, 0)) by rw [hV]; exact al_new w _)
  have HWV := Lib.hid (show Below w.heap.size w V by rw [hV]; exact balloc _ _)
  have HV := Lib.hid hV
  have v1 := Lib.cell_of_heap HVP.out 1
  have hv1 : V.cell? ⟨w.heap.size, 1, none⟩ = some (.string ⟨t.toArray⟩) := v1
  have HWVB := Lib.hid (HB.out.below (btr HWV.out (Below.refl _ _).drew))
  have HKV := Lib.hid (Bkept.of_below (btr HWV.out (Below.refl _ _).drew) (Nat.le_of_lt hgl))
  have HWS := Lib.hid (writeStringW g l (36 :: 123 :: 35 :: (t ++ [125])) x V.drew HWVB.out (by omega) (by simp; omega))
  have hA1 := str_add [36, 123, 35] t (36 :: 123 :: 35 :: t) rfl (by decide) (by omega)
  have hA2 := str_add (36 :: 123 :: 35 :: t) [125] (36 :: 123 :: 35 :: (t ++ [125])) rfl (by simp; omega) (by decide)
  clear h hV v1
  go_enter Try.func73, Try.ntmps73
  go_wp2_with fail
  rw [← HV.out]
  refine wp_region_still_tail 7 (by kernel_rfl) (by kernel_rfl) ?_
  simp only [List.take_succ_cons, List.take_zero, List.drop_succ_cons, List.drop_zero]
  repeat still_step
  refine wpStill_nil ?_
  change wpList _ _ _ _ _ V.drew
  go_wp2_with fail
  refine HWS.out.mono ?_
  rintro e Z ⟨rfl, hz, hk⟩
  have HZ := Lib.hid hz
  have HKZ := Lib.hid (HKV.out.trans hk)
  clear hz hk
  go_wp2
  first | go_end0 | refine bodyPost_ret (results_none rfl _ _ _) rfl ?_
  exact ⟨rfl, HZ.out, HKZ.out⟩
theorem symbol_none {o : Int} (h : WP.symbol o = none) : ¬ o = 1 ∧ ¬ o = 2 ∧ ¬ o = 3 ∧ ¬ o = 4 ∧ ¬ o = 6 ∧ ¬ o = 7 ∧ ¬ o = 8 ∧ ¬ o = 9 := by
  unfold WP.symbol at h
  repeat' split at h
  all_goals first | exact ⟨by assumption, by assumption, by assumption, by assumption, by assumption, by assumption, by assumption, by assumption⟩ | cases h
theorem symbol_some {o : Int} {y : List UInt8} (h : WP.symbol o = some y) : (o = 1 ∧ y = [45]) ∨ (o = 2 ∧ y = [61]) ∨ (o = 3 ∧ y = [63]) ∨ (o = 4 ∧ y = [43]) ∨ (o = 6 ∧ y = [37]) ∨ (o = 7 ∧ y = [37, 37]) ∨ (o = 8 ∧ y = [35]) ∨ (o = 9 ∧ y = [35, 35]) := by
  unfold WP.symbol at h
  repeat' split at h
  all_goals first | (injection h with h; subst h; simp_all; done) | cases h
theorem WB.wrong {g : Nat} {l : List UInt8} {x : Bool} {w : World} (h : WB g l x w) : WB g l true (w.setCell ⟨g, 2, none⟩ (.bool true)) ∧ Bkept g w (w.setCell ⟨g, 2, none⟩ (.bool true)) := by
  obtain ⟨p, v, h1, h2, h3, h4⟩ := h
  refine ⟨⟨p, v, h1, ?_, row_set h3 (by simp) _, h4⟩, (Below.refl g w).setCell (p := ⟨g, 2, none⟩) (Nat.le_refl _) _, (Lib.OthersKept.refl _ _ w).setCell ⟨g, 2, none⟩ rfl _⟩
  have := heap_setCell_same w g 2 _ _ (.bool true) h2
  rw [this]; simp
set_option maxRecDepth 100000 in
set_option maxHeartbeats 4000000 in
theorem param_bad (g : Nat) (l t : List UInt8) (x c : Bool) (pl : Nat) (nx o : Int) (ps : List GP) (A : Option Addr) (cap : Nat) (w : World) (h : WB g l x w) (h0 : ¬ o = 0) (h5 : ¬ o = 5) (hs : WP.symbol o = none) :
    Calls Try.prog 73 #[.pointer (some ⟨g, 0, none⟩), .agg #[.int .i64 4, .string ⟨t.toArray⟩, .int .i64 o, .bool c, .slice A ps.length cap], .int .i64 pl, .int .u8 nx] w
      fun e w' => e = .returned (.tuple #[]) ∧ WB g l true w' ∧ Bkept g w w' := by
  have HB := Lib.hid h
  have hgl := h.lt
  have hps : (0 : Int) ≤ (ps.length : Int) := by omega
  obtain ⟨n1, n2, n3, n4, n6, n7, n8, n9⟩ := symbol_none hs
  have b0 := beq_f h0
  have b1 := beq_f n1
  have b2 := beq_f n2
  have b3 := beq_f n3
  have b4 := beq_f n4
  have b5 := beq_f h5
  have b6 := beq_f n6
  have b7 := beq_f n7
  have b8 := beq_f n8
  have b9 := beq_f n9
  have f2 : w.frozen? ⟨g, 2, none⟩ = false := by obtain ⟨p, v, -, hb, -⟩ := h; exact Lib.frozen_of_heap hb 2
  have c2 : w.cell? ⟨g, 2, none⟩ = some (.bool x) := by obtain ⟨p, v, -, hb, -⟩ := h; exact Lib.cell_of_heap hb 2
  clear h n1 n2 n3 n4 n6 n7 n8 n9 h0 h5 hs
  go_enter Try.func73, Try.ntmps73
  go_wp2
  first | go_end0 | refine bodyPost_ret (results_none rfl _ _ _) rfl ?_
  exact ⟨rfl, HB.out.wrong.1.below (balloc _ _), HB.out.wrong.2.trans (Bkept.of_below (balloc _ _) (Nat.le_of_lt HB.out.wrong.1.lt))⟩
end W
end Go.Proofs.Ytlhijlmbfjlglaa
