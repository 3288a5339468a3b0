/- Words: parameter of the writer, with an operator; whole. -/
import Derived.Test.YtlhijlmbfjlglaaG08i
namespace Go.Proofs.Ytlhijlmbfjlglaa
open Go.RowKit K
open WP (GP gp gpL)
namespace W
set_option maxRecDepth 100000 in
set_option maxHeartbeats 16000000 in
theorem param_op (g : Nat) (l t y : List UInt8) (x c : Bool) (pl : Nat) (nx o : Int) (ps : List GP) (A : Option Addr) (cap : Nat) (w : World) (h : WB g l x w) (hgw : g < w.heap.size) (hz : l.length + (2 * (t.length + WP.sizL ps) + 8 * (1 + WP.cntL ps)) ≤ 40000000) (ht : t.length ≤ 1000000)
    (hs : WP.symbol o = some y) (hP : PartsC g w (.slice A ps.length cap) pl true ps) :
    Calls Try.prog 73 #[.pointer (some ⟨g, 0, none⟩), .agg #[.int .i64 4, .string ⟨t.toArray⟩, .int .i64 o, .bool c, .slice A ps.length cap], .int .i64 pl, .int .u8 nx] w
      fun e w' => e = .returned (.tuple #[]) ∧ WB g (l ++ 36 :: 123 :: (t ++ ((if c = true then 58 :: y else y) ++ (WP.outL pl true ps ++ [125])))) (x || WP.badL ps) w' ∧ Bkept g w w' := by
  have HB := Lib.hid h
  have hps : (0 : Int) ≤ (ps.length : Int) := by omega
  have hol := WP.outL_len pl true ps
  obtain ⟨V, hV⟩ : ∃ V, V = w.alloc (.cells #[.int .i64 4, .string ⟨t.toArray⟩, .int .i64 o, .bool c, .slice A ps.length cap] 77) := ⟨_, rfl⟩
  have HVP := Lib.hid (show V.heap[w.heap.size]? = some (.cells #[.int .i64 4, .string ⟨t.toArray⟩, .int .i64 o, .bool c, .slice A ps.length cap] 77 (0, 0)) by rw [hV]; exact al_new w _)
  have HWV := Lib.hid (show Below w.heap.size w V by rw [hV]; exact balloc _ _)
  have HV := Lib.hid hV
  have v1 := Lib.cell_of_heap HVP.out 1
  have hv1 : V.cell? ⟨w.heap.size, 1, none⟩ = some (.string ⟨t.toArray⟩) := v1
  have v3 := Lib.cell_of_heap HVP.out 3
  have hv3 : V.cell? ⟨w.heap.size, 3, none⟩ = some (.bool c) := v3
  have HWVB := Lib.hid (HB.out.below (btr HWV.out (Below.refl _ _).drew))
  have HKV := Lib.hid (Bkept.of_below (btr HWV.out (Below.refl _ _).drew) (Nat.le_of_lt hgw))
  have hyl : y.length ≤ 2 := by rcases symbol_some hs with ⟨_, rfl⟩ | ⟨_, rfl⟩ | ⟨_, rfl⟩ | ⟨_, rfl⟩ | ⟨_, rfl⟩ | ⟨_, rfl⟩ | ⟨_, rfl⟩ | ⟨_, rfl⟩ <;> simp
  obtain ⟨S, hS⟩ : ∃ S, (if c = true then 58 :: y else y) = S := ⟨_, rfl⟩
  have hSl : S.length ≤ 3 := by
    rw [← hS]
    split
    · rw [List.length_cons]; omega
    · omega
  rw [hS]
  have HWS := Lib.hid (writeStringW g l (36 :: 123 :: (t ++ S)) x V.drew HWVB.out (by omega) (by simp; omega))
  have hA1 := str_add [36, 123] t (36 :: 123 :: t) rfl (by decide) (by omega)
  have hA2 := str_add (36 :: 123 :: t) S (36 :: 123 :: (t ++ S)) rfl (by simp; omega) (by omega)
  have HPP := Lib.hid hP
  have HTAIL := Lib.hid (fun (Z : World) (hbz : WB g (l ++ 36 :: 123 :: (t ++ S)) x Z) (hkz : Bkept g w Z) => hP Z _ x hkz hbz (by rw [List.length_append]; simp; omega))
  obtain ⟨OL, hOL⟩ : ∃ OL, WP.outL pl true ps = OL := ⟨_, rfl⟩
  obtain ⟨BL, hBL⟩ : ∃ BL, WP.badL ps = BL := ⟨_, rfl⟩
  rw [hOL] at HTAIL hol ⊢
  rw [hBL] at HTAIL ⊢
  have HFIN := Lib.hid (fun (Z : World) (hbz : WB g (l ++ 36 :: 123 :: (t ++ S) ++ OL) (x || BL) Z) => writeByteW g _ 125 (x || BL) Z hbz (by simp; omega))
  have HAPP := Lib.hid (show l ++ 36 :: 123 :: (t ++ (S ++ (OL ++ [125]))) = l ++ 36 :: 123 :: (t ++ S) ++ OL ++ [125] by simp)
  rw [HAPP.out]
  have HNEW := Lib.hid (show ∀ Y, Bkept g V.drew Y → Y.cell? ⟨w.heap.size, 4, none⟩ = some (.slice A ps.length cap) from fun Y hY => Lib.cell_of_heap (hY.cells (q := w.heap.size) HVP.out (by omega) (by decide)) 4)
  have hsy := symbol_some hs
  clear h hV v1 v3 hs hP hOL hBL hol hz
  rcases hsy with ⟨rfl, rfl⟩ | ⟨rfl, rfl⟩ | ⟨rfl, rfl⟩ | ⟨rfl, rfl⟩ | ⟨rfl, rfl⟩ | ⟨rfl, rfl⟩ | ⟨rfl, rfl⟩ | ⟨rfl, rfl⟩
  all_goals
    rcases (show c = true ∨ c = false by cases c <;> simp) with rfl | rfl
    all_goals
      first | rw [if_pos rfl] at hS | rw [if_neg (by simp)] at hS
      subst hS
      go_enter Try.func73, Try.ntmps73
      go_wp2_with fail
      rw [← HV.out]
      refine wp_region_still_tail 8 (by kernel_rfl) (by kernel_rfl) ?_
      simp only [List.take_succ_cons, List.take_zero, List.drop_succ_cons, List.drop_zero]
      repeat still_step
      refine wpStill_nil ?_
      change wpList _ _ _ _ _ V.drew
      go_wp2_with fail
      refine HWS.out.mono ?_
      rintro e Y ⟨rfl, hby, hky⟩
      have hy4 := HNEW.out Y hky
      have HT := Lib.hid (HTAIL.out Y hby (HKV.out.trans hky))
      have HKY := Lib.hid (HKV.out.trans hky)
      clear hby hky
      go_wp2_with fail
      refine HT.out.mono ?_
      rintro e Z ⟨rfl, hbz, hkz⟩
      have HF := Lib.hid (HFIN.out Z hbz)
      have HKZ := Lib.hid (HKY.out.trans hkz)
      clear hbz hkz
      go_wp2_with fail
      refine HF.out.mono ?_
      rintro e U ⟨rfl, hbu, hku⟩
      have HU := Lib.hid hbu
      have HKU := Lib.hid (HKZ.out.trans hku)
      clear hbu hku
      go_wp2
      first | go_end0 | refine bodyPost_ret (results_none rfl _ _ _) rfl ?_
      exact ⟨rfl, HU.out, HKU.out⟩
theorem parameter_anyW (g : Nat) (l t : List UInt8) (x c : Bool) (pl : Nat) (nx o : Int) (ps : List GP) (A : Option Addr) (cap : Nat) (w : World) (h : WB g l x w) (hz : l.length + (2 * (t.length + WP.sizL ps) + 8 * (1 + WP.cntL ps)) ≤ 40000000) (ht : t.length ≤ 1000000)
    (hP : PartsC g w (.slice A ps.length cap) pl true ps) :
    Calls Try.prog 73 #[.pointer (some ⟨g, 0, none⟩), .agg #[.int .i64 4, .string ⟨t.toArray⟩, .int .i64 o, .bool c, .slice A ps.length cap], .int .i64 pl, .int .u8 nx] w
      fun e w' => e = .returned (.tuple #[]) ∧ WB g (l ++ outQ pl nx t o c ps) (x || badQ o ps) w' ∧ Bkept g w w' := by
  by_cases h0 : o = 0
  · subst h0
    rw [show badQ 0 ps = false from rfl, Bool.or_false]
    by_cases ht0 : t = []
    · subst ht0
      exact param_nil g l x c pl nx ps A cap w h (by omega)
    · exact param_ne g l t x c pl nx ps A cap w h (by omega) ht ht0
  by_cases h5 : o = 5
  · subst h5
    rw [show badQ 5 ps = false from rfl, Bool.or_false]
    exact param_len g l t x c pl nx ps A cap w h (by omega) ht
  unfold outQ badQ
  rw [if_neg h0, if_neg h5, if_neg (by omega)]
  cases hs : WP.symbol o with
  | none =>
    rw [if_pos rfl, Bool.or_true]
    dsimp only
    rw [List.append_nil]
    exact param_bad g l t x c pl nx o ps A cap w h h0 h5 hs
  | some y =>
    rw [if_neg (by simp)]
    exact param_op g l t y x c pl nx o ps A cap w h h.lt hz ht hs hP
end W
end Go.Proofs.Ytlhijlmbfjlglaa
