/- Words: parameter of the writer. -/
import Derived.Test.YtlhijlmbfjlglaaG08g
import Derived.Deep.DeepCutAuto
namespace Go.Proofs.Ytlhijlmbfjlglaa
open Go.RowKit K
open WP (GP gp gpL)
namespace W
/-- What the writer writes for a parameter. -/
def outQ (pl : Nat) (nx : Int) (t : List UInt8) (o : Int) (c : Bool) (ps : List GP) : List UInt8 :=
  if o = 0 then (if WP.braces t nx = true then 36 :: 123 :: (t ++ [125]) else 36 :: t)
  else if o = 5 then 36 :: 123 :: 35 :: (t ++ [125])
  else match WP.symbol o with
    | none => []
    | some y => 36 :: 123 :: (t ++ ((if c = true then 58 :: y else y) ++ (WP.outL pl true ps ++ [125])))
def badQ (o : Int) (ps : List GP) : Bool := if o = 0 ∨ o = 5 then false else if WP.symbol o = none then true else WP.badL ps
/-- What parts gives for a list, written behind any text. -/
def PartsC (g : Nat) (w : World) (v : Value) (pl : Nat) (op : Bool) (ps : List GP) : Prop :=
  ∀ (V : World) (l : List UInt8) (x : Bool), Bkept g w V → WB g l x V → l.length + (2 * WP.sizL ps + 8 * WP.cntL ps) ≤ 40000000 →
    Calls Try.prog 49 #[.pointer (some ⟨g, 0, none⟩), v, .int .i64 pl, .bool op] V fun e w' => e = .returned (.tuple #[]) ∧ WB g (l ++ WP.outL pl op ps) (x || WP.badL ps) w' ∧ Bkept g V w'
theorem str_add (a b c : List UInt8) (h : a ++ b = c) (ha : a.length ≤ 8000000) (hb : b.length ≤ 8000000) : ∀ U, (Op.stringOp .add ⟨a.toArray⟩ ⟨b.toArray⟩).run Try.prog U = .ok (.string ⟨c.toArray⟩) U := fun U => by
  rw [← h]
  exact run_string_add_lists U a b (by omega) (by omega)
set_option maxRecDepth 100000 in
set_option maxHeartbeats 4000000 in
theorem param_ne (g : Nat) (l t : List UInt8) (x c : Bool) (pl : Nat) (nx : Int) (ps : List GP) (A : Option Addr) (cap : Nat) (w : World) (h : WB g l x w) (hl : l.length ≤ 50000000) (ht : t.length ≤ 1000000) (ht0 : ¬ t = []) :
    Calls Try.prog 73 #[.pointer (some ⟨g, 0, none⟩), .agg #[.int .i64 4, .string ⟨t.toArray⟩, .int .i64 0, .bool c, .slice A ps.length cap], .int .i64 pl, .int .u8 nx] w
      fun e w' => e = .returned (.tuple #[]) ∧ WB g (l ++ outQ pl nx t 0 c ps) x w' ∧ Bkept g w w' := by
  obtain ⟨OUT, hOUT⟩ : ∃ OUT, outQ pl nx t 0 c ps = OUT := ⟨_, rfl⟩
  rw [hOUT]
  have HOUT := Lib.hid hOUT
  clear hOUT
  have hpos : 0 < t.length := List.length_pos_iff.2 ht0
  have hemp : t.isEmpty = false := by cases t with | nil => exact absurd rfl ht0 | cons a b => rfl
  have HB := Lib.hid h
  have hgl := h.lt
  have HN := Lib.hid (fun V => numeral_any t V ht)
  have HS := Lib.hid (fun (c : Int) V => wd_starts c V)
  have HD := Lib.hid (fun (c : Int) V => wd_digit c V)
  have hps : (0 : Int) ≤ (ps.length : Int) := by omega
  have htl : (0 : Int) ≤ (t.length : Int) := by omega
  clear h
  obtain ⟨V, hV⟩ : ∃ V, V = w.alloc (.cells #[.int .i64 4, .string ⟨t.toArray⟩, .int .i64 0, .bool c, .slice A ps.length cap] 77) := ⟨_, rfl⟩
  have HVP := Lib.hid (show V.heap[w.heap.size]? = some (.cells #[.int .i64 4, .string ⟨t.toArray⟩, .int .i64 0, .bool c, .slice A ps.length cap] 77 (0, 0)) by rw [hV]; exact al_new w _)
  have HWV := Lib.hid (show Below w.heap.size w V by rw [hV]; exact balloc _ _)
  have HV := Lib.hid hV
  have v1 := Lib.cell_of_heap HVP.out 1
  have hv1 : V.cell? ⟨w.heap.size, 1, none⟩ = some (.string ⟨t.toArray⟩) := v1
  clear hV v1
  go_enter Try.func73, Try.ntmps73
  go_upto_region 5 with (fail)
  rw [← HV.out]
  go_cut [43] (fun v wx => v = .bool (WP.braces t nx) ∧ wx = V)
  case first =>
    go_wp2_with (first | (go_at_call 87; refine (HN.out _).mono ?_; rintro e w' ⟨rfl, rfl⟩) | (go_at_call 88; refine (HS.out _ _).mono ?_; rintro e w' ⟨rfl, rfl⟩) | (go_at_call 89; refine (HD.out _ _).mono ?_; rintro e w' ⟨rfl, rfl⟩))
    all_goals
      go_meet
      refine ⟨?_, rfl⟩
      go_light
      have hc : decide ((1 : Int) < (t.length : Int)) = decide (1 < t.length) := decide_eq_decide.2 (by omega)
      unfold WP.braces
      first
      | (rw [hc]; clear hc; simp_all; done)
      | (clear hc; simp_all; done)
      | (clear hc; simp_all; omega)
  case rest =>
    obtain ⟨rfl, hwc⟩ := hcut
    obtain rfl : V = wc := hwc.symm
    obtain ⟨R, hR⟩ : ∃ R, WP.braces t nx = R := ⟨_, rfl⟩
    have HWVB := Lib.hid (HB.out.below (btr HWV.out (Below.refl _ _).drew))
    have HKV := Lib.hid (Bkept.of_below (btr HWV.out (Below.refl _ _).drew) (Nat.le_of_lt hgl))
    have htx : ((t.length : Int) ≤ 1000000) := by omega
    rcases (show R = true ∨ R = false by cases R <;> simp) with rfl | rfl
    · have HO := Lib.hid (show OUT = 36 :: 123 :: (t ++ [125]) by rw [← HOUT.out]; unfold outQ; rw [if_pos rfl, if_pos hR])
      have HWS := Lib.hid (writeStringW g l (36 :: 123 :: (t ++ [125])) x V.drew HWVB.out (by omega) (by simp; omega))
      have hA1 := str_add [36, 123] t (36 :: 123 :: t) rfl (by decide) (by omega)
      have hA2 := str_add (36 :: 123 :: t) [125] (36 :: 123 :: (t ++ [125])) rfl (by simp; omega) (by decide)
      rw [hR]
      clear hwc hR
      go_wp2_with fail
      refine wp_region_still_tail 7 (by kernel_rfl) (by kernel_rfl) ?_
      simp only [List.take_succ_cons, List.take_zero, List.drop_succ_cons, List.drop_zero]
      repeat still_step
      refine wpStill_nil ?_
      change wpList _ _ _ _ _ V.drew
      go_wp2_with fail
      refine HWS.out.mono ?_
      rintro e Z ⟨rfl, hz, hk⟩
      have HZ := Lib.hid hz
      have HKZ := Lib.hid (HKV.out.trans hk)
      clear hz hk
      go_wp2
      first | go_end0 | refine bodyPost_ret (results_none rfl _ _ _) rfl ?_
      exact ⟨rfl, by rw [HO.out]; exact HZ.out, HKZ.out⟩
    · have HO := Lib.hid (show OUT = 36 :: t by rw [← HOUT.out]; unfold outQ; rw [if_pos rfl, if_neg (by rw [hR]; simp)])
      have HWS := Lib.hid (writeStringW g l (36 :: t) x V.drew HWVB.out (by omega) (by simp; omega))
      have hA1 := str_add [36] t (36 :: t) rfl (by decide) (by omega)
      rw [hR]
      clear hwc hR
      go_wp2_with fail
      refine wp_region_still_tail 6 (by kernel_rfl) (by kernel_rfl) ?_
      simp only [List.take_succ_cons, List.take_zero, List.drop_succ_cons, List.drop_zero]
      repeat still_step
      refine wpStill_nil ?_
      change wpList _ _ _ _ _ V.drew
      go_wp2_with fail
      refine HWS.out.mono ?_
      rintro e Z ⟨rfl, hz, hk⟩
      have HZ := Lib.hid hz
      have HKZ := Lib.hid (HKV.out.trans hk)
      clear hz hk
      go_wp2
      first | go_end0 | refine bodyPost_ret (results_none rfl _ _ _) rfl ?_
      exact ⟨rfl, by rw [HO.out]; exact HZ.out, HKZ.out⟩
end W
end Go.Proofs.Ytlhijlmbfjlglaa
