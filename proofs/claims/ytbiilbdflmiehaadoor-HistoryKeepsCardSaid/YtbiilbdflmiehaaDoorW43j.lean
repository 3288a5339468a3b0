/- Chapter 43: lines, Load of history. -/
import Derived.Test.YtbiilbdflmiehaaDoorW43i
import Derived.Test.YtbiilbdflmiehaaDoorW43h
import Derived.Test.YtbiilbdflmiehaaDoorS2
namespace Go.Proofs.YtbiilbdflmiehaaDoor
open Go.RowKit K
namespace P
theorem suffix_nl (s : List UInt8) : Lib.hasSuffix s [10] = decide (s ≠ [] ∧ bt s (s.length - 1) = 10) := by
  rw [Bool.eq_iff_iff]
  rw [Lib.hasSuffix, List.isSuffixOf_iff_suffix, decide_eq_true_eq]
  constructor
  · rintro ⟨t, rfl⟩
    exact ⟨by simp, by simp [bt, List.getD_eq_getElem?_getD]⟩
  · rintro ⟨h1, h2⟩
    have hl := List.length_pos_iff.2 h1
    obtain ⟨x, hx, hb, _⟩ := drop_cons s (s.length - 1) (by omega)
    refine ⟨s.take (s.length - 1), ?_⟩
    have hx2 : x = 10 := UInt8.toNat_inj.1 (by have : (10 : UInt8).toNat = 10 := rfl; omega)
    have := List.take_append_drop (s.length - 1) s
    rw [hx, show s.length - 1 + 1 = s.length by omega, List.drop_length, hx2] at this
    exact this
end P
namespace W

theorem HasSuffix_nl (s : List UInt8) (w : World) (hl : s.length ≤ 1000000000) :
    Calls Tryd.prog 41 #[.string ⟨s.toArray⟩, .string ⟨#[10]⟩] w fun e w' => e = .returned (.bool (decide (s ≠ [] ∧ bt s (s.length - 1) = 10))) ∧ w = w' :=
  (Tryd.strings_HasSuffix ⟨s.toArray⟩ ⟨#[10]⟩ w (by simp [ByteArray.size]; omega)).mono fun e w' ⟨h1, h2⟩ => ⟨by rw [h1]; exact ret_bool (P.suffix_nl s), h2.symm⟩

theorem Lines_any (s : List UInt8) (w : World) (hl : s.length ≤ 1000000000) (hw : Env w) :
    Calls Tryd.prog 42 #[.string ⟨s.toArray⟩] w fun e w' => e = .returned (.slice (some ⟨w.heap.size, 0, none⟩) (P.splitNL s).length (P.splitNL s).length) ∧ SL w' (some ⟨w.heap.size, 0, none⟩) (P.splitNL s) ∧ Below w.heap.size w w' := by
  obtain ⟨m, hm⟩ := hw.maxlen
  have hm' := Lib.hid hm
  clear hm
  go_enter Tryd.func42, Tryd.ntmps42
  go_wp2_with fail
  refine (Tryd.strings_Split ⟨s.toArray⟩ ⟨#[10]⟩ m _ (by simp [ByteArray.size]; omega) hm'.out (by decide)).mono ?_
  rintro e w1 ⟨rfl, rfl⟩
  rw [P.splitB_nl, P.countB_nl, List.map_map]
  go_wp2
  go_ret
  refine ⟨rfl, fun _ => ⟨_, _, rfl, by simp, fun i hi => ?_⟩, (Below.refl _ w).alloc (Nat.le_refl _) _⟩
  refine (Lib.cell_of_heap (b := w.heap.size) (heap_alloc_new w _) _).trans ?_
  simp [hi]

/-- Load of a text that does not end. -/
theorem Load_cut (s : List UInt8) (w : World) (hl : s.length ≤ 1000000000) (h : ¬ (s ≠ [] ∧ bt s (s.length - 1) = 10)) :
    Calls Tryd.prog 26 #[.string ⟨s.toArray⟩] w (HPost w (0, [], 28)) := by
  have hf : decide (s ≠ [] ∧ bt s (s.length - 1) = 10) = false := decide_eq_false h
  have hc := Lib.hid (fun w => HasSuffix_nl s w hl)
  rw [hf] at hc
  clear h hf
  go_enter Tryd.func26, Tryd.ntmps26
  go_wp2_with fail
  refine (hc.out _).mono ?_
  rintro e w1 ⟨rfl, rfl⟩
  go_wp2
  refine bodyPost_ret (v := .tuple #[.agg #[.int .i64 0, .slice none 0 0], .int .i64 28]) (by simp [results, Tryd.results26, go_sem]) rfl ⟨_, rfl, ⟨none, 0, rfl, by simp, by omega, fun _ => rfl, SL.nil _ _⟩, ?_⟩
  go_grown

set_option maxHeartbeats 1000000 in
theorem Load_full (s : List UInt8) (x : List UInt8) (r : List (List UInt8)) (w : World) (hl : s.length ≤ 900000) (hw : Env w) (h1 : s ≠ []) (h2 : bt s (s.length - 1) = 10) (hs : P.splitNL (s.take (s.length - 1)) = x :: r) :
    Calls Tryd.prog 26 #[.string ⟨s.toArray⟩] w (HPost w (match P.numH x with | none => (0, [], 6) | some n => if P.valid n r = 0 then (n, r, 0) else (0, [], P.valid n r))) := by
  obtain ⟨R, hR⟩ : ∃ R : Int × List (List UInt8) × Int, (match P.numH x with | none => (0, [], 6) | some n => if P.valid n r = 0 then (n, r, 0) else (0, [], P.valid n r)) = R := ⟨_, rfl⟩
  rw [hR]
  have HR := Lib.hid hR
  clear hR
  have hf : decide (s ≠ [] ∧ bt s (s.length - 1) = 10) = true := decide_eq_true ⟨h1, h2⟩
  have hc := Lib.hid (fun w => HasSuffix_nl s w (by omega))
  rw [hf] at hc
  have hpos : 0 < s.length := List.length_pos_iff.2 h1
  have hL := Lib.hid (fun w => Lines_any (s.take (s.length - 1)) w (by simp; omega))
  have hlen := P.splitNL_len (s.take (s.length - 1))
  have hles := P.splitNL_le (s.take (s.length - 1))
  rw [hs] at hL hlen hles
  have hrl : r.length ≤ 900000 := by simp at hlen; omega
  have hxl : x.length ≤ 900000 := by have := hles x (by simp); simp at this; omega
  have HLS := Lib.hid (show ∀ y ∈ r, y.length ≤ 900000 from fun y hy => by have := hles y (by simp [hy]); simp at this; omega)
  have hcut := Lib.hid (show cut s 0 (s.length - 1) = s.take (s.length - 1) by simp [cut])
  obtain ⟨w0, e0, c0, c1, hb0, hsz0⟩ := box2 w (.int .i64 0) (.slice none 0 0) 24
  have HK := Lib.hid (show Box2 w0 w.heap.size (.int .i64 0) (.slice none 0 0) 24 from ⟨by rw [e0]; exact heap_alloc_new w _, by simp, by simp⟩)
  have H0 := Lib.hid e0
  have HE0 := Lib.hid (hw.below hb0)
  have HB0 := Lib.hid hb0
  clear h1 h2 hs hf hlen hles e0 hw hb0
  go_enter Tryd.func26, Tryd.ntmps26
  go_wp2_with fail
  rw [← H0.out]
  refine (hc.out _).mono ?_
  rintro e w1 ⟨rfl, rfl⟩
  go_wp2_with fail
  rw [hcut.out]
  refine (hL.out _ HE0.out).mono ?_
  rintro e w1 ⟨rfl, hSL, hb1⟩
  simp only [List.length_cons]
  have hcell : w1.cell? ⟨w0.heap.size, 0, none⟩ = some (.string ⟨x.toArray⟩) := by
    obtain ⟨b, off, e, _, h⟩ := hSL.get (k := 0) (by simp)
    simp at e; obtain ⟨rfl, rfl⟩ := e; simpa using h
  have HK1 := Lib.hid (HK.out.later hb1)
  have HT := Lib.hid hSL.tail
  have HB1 := Lib.hid (btr HB0.out (hb1.mono (Nat.le_refl _)))
  have hlt1 : w.heap.size < w1.heap.size := Nat.lt_of_lt_of_le hsz0 hb1.size
  have hlt0 : w0.heap.size < w1.heap.size := by
    obtain ⟨b, off, e, h, _⟩ := hSL (by simp)
    simp at e; obtain ⟨rfl, _⟩ := e; exact h
  clear hSL hb1
  go_wp2_with fail
  refine (decimal_any x _ (by omega)).mono ?_
  rintro e w2 ⟨⟨n, rfl, hn⟩, hb2⟩
  have HT2 := Lib.hid (HT.out.below hb2)
  have HK2 := Lib.hid (HK1.out.later hb2)
  obtain ⟨k0, k1, z0, z1⟩ := HK2.out.cells
  have hlt2 : w.heap.size < w2.heap.size := Nat.lt_of_lt_of_le hlt1 hb2.size
  have HB2 := Lib.hid (btr HB1.out hb2)
  clear hb2 c0 c1 hcell
  cases hnum : P.numH x with
  | none =>
    simp only [Option.isSome_none]
    have HRR := Lib.hid (show R = (0, [], 6) by rw [← HR.out, hnum])
    clear hn hnum
    go_wp2
    rw [HRR.out]
    refine bodyPost_ret (v := .tuple #[.agg #[.int .i64 0, .slice none 0 0], .int .i64 6]) (by simp [results, Tryd.results26, go_sem, k0, k1]) rfl ⟨_, rfl, ⟨none, 0, rfl, by simp, by omega, fun _ => rfl, SL.nil _ _⟩, ?_⟩
    exact (HB2.out.setCell (by simp) _).setCell (by simp) _
  | some m =>
    obtain rfl := hn m hnum
    simp only [Option.isSome_some]
    have HM := Lib.hid hnum
    have hnn := P.numH_pos hnum
    obtain ⟨n1, n2⟩ := hnn
    clear hn hnum
    have HCL := Lib.hid (fun A c w hS => Clone_any A c r w (by omega) hS)
    have HB2c := HB2
    have HFR := Lib.hid (fun (w : World) A c => Box2.fresh w n A r.length c 24)
    have HVAL := Lib.hid (fun A c w hS => Valid_any n A c r 900000 w (by omega) hS HLS.out (by omega))
    have HRES := Lib.hid (show R = if P.valid n r = 0 then (n, r, 0) else (0, [], P.valid n r) by rw [← HR.out, HM.out])
    obtain ⟨V, hV⟩ : ∃ V, P.valid n r = V := ⟨_, rfl⟩
    rw [hV] at HVAL HRES
    clear hV
    clear HB0 HB1 HK HK1 HE0 hc hL hcut H0
    rcases Nat.eq_zero_or_pos r.length with h0 | h0
    case' inl =>
      obtain rfl : r = [] := List.eq_nil_of_length_eq_zero h0
      clear h0
      go_wp2_with fail
      refine (HCL.out (some ⟨w0.heap.size, 0, none⟩) 0 w2 (SL.nil _ _)).mono ?_
    case' inr =>
      have hr1 : ¬ r.length + 1 = 1 := by omega
      have hr2 : ¬ r = [] := by intro e; subst e; simp at h0
      go_wp2_with fail
      refine (HCL.out (some ⟨w0.heap.size, 0 + 1, none⟩) r.length w2 HT2.out).mono ?_
    all_goals
      rintro e w3 ⟨v3, rfl, hown, hb3⟩
      obtain ⟨A, c, rfl, hc1, hc2, hA, hS3⟩ := own_form hown
      have HK3 := Lib.hid (HK2.out.later hb3)
      have HB3 := Lib.hid (btr HB2c.out hb3)
      have hlt3 : w.heap.size < w3.heap.size := Nat.lt_of_lt_of_le hlt2 hb3.size
      have HA := Lib.hid hA
      have HS3 := Lib.hid hS3
      clear hown hb3 hS3 hA k0 k1 z0 z1
      obtain ⟨w4, h4, hX4, hb4, hlt4⟩ := HFR.out w3 A c
      try simp only [List.length_nil] at h4 hX4
      have HX4 := Lib.hid hX4
      have HB4 := Lib.hid hb4
      have H4 := Lib.hid h4
      clear hX4 hb4 h4
      go_wp2_with fail
      rw [← H4.out]
      refine (HVAL.out A c w4 (HS3.out.below HB4.out)).mono ?_
      rintro e w5 ⟨rfl, hb5⟩
      have HB5 := Lib.hid (btr HB3.out (btr HB4.out hb5))
      have HK5 := Lib.hid (HK3.out.later (btr HB4.out hb5))
      have HS5 := Lib.hid (HS3.out.below (btr HB4.out hb5))
      obtain ⟨x0, x1, _, _⟩ := (HX4.out.later hb5).cells
      obtain ⟨k0, k1, z0, z1⟩ := HK5.out.cells
      have hlt5 : w.heap.size < w5.heap.size := HK5.out.lt
      clear hb5
      by_cases hV0 : V = 0
      · have fV : (V != 0) = false := by simp [hV0]
        have HRR := Lib.hid (HRES.out.trans (if_pos hV0))
        clear hV0
        go_wp2
        rw [HRR.out]
        first
          | refine bodyPost_ret (v := .tuple #[.agg #[.int .i64 n, .slice A r.length c], .int .i64 0]) (by simp [results, Tryd.results26, go_sem, k0, k1]) rfl ⟨_, rfl, ⟨A, c, rfl, hc1, hc2, HA.out, ?_⟩, ?_⟩
          | refine bodyPost_ret (v := .tuple #[.agg #[.int .i64 n, .slice A 0 c], .int .i64 0]) (by simp [results, Tryd.results26, go_sem, k0, k1]) rfl ⟨_, rfl, ⟨A, c, rfl, hc1, hc2, HA.out, ?_⟩, ?_⟩
        · exact HS5.out.apart HK5.out 0 1 _ _
        · exact (HB5.out.setCell (by simp) _).setCell (by simp) _
      · have fV : (V != 0) = true := by simp [hV0]
        have HRR := Lib.hid (HRES.out.trans (if_neg hV0))
        clear hV0
        go_wp2
        rw [HRR.out]
        refine bodyPost_ret (v := .tuple #[.agg #[.int .i64 0, .slice none 0 0], .int .i64 V]) (by simp [results, Tryd.results26, go_sem, k0, k1]) rfl ⟨_, rfl, ⟨none, 0, rfl, by simp, by omega, fun _ => rfl, SL.nil _ _⟩, ?_⟩
        exact (HB5.out.setCell (by simp) _).setCell (by simp) _
theorem Load_any (s : List UInt8) (w : World) (hl : s.length ≤ 900000) (hw : Env w) :
    Calls Tryd.prog 26 #[.string ⟨s.toArray⟩] w (HPost w (P.loadH s)) := by
  by_cases h : s ≠ [] ∧ bt s (s.length - 1) = 10
  · cases hs : P.splitNL (s.take (s.length - 1)) with
    | nil => exact absurd hs (P.splitNL_ne _)
    | cons x r =>
      have := Load_full s x r w hl hw h.1 h.2 hs
      unfold P.loadH
      rw [if_neg (by rintro (e | e); exact h.1 e; exact e h.2), hs]
      exact this
  · have := Load_cut s w (by omega) h
    unfold P.loadH
    rw [if_pos (by
      by_cases e : s = []
      · exact .inl e
      · exact .inr (fun e2 => h ⟨e, e2⟩))]
    exact this
end W
end Go.Proofs.YtbiilbdflmiehaaDoor
