/- Chapter 43: Load of the reference. -/
import Derived.Test.YtbiilbdflmiehaaDoorW43j
import Derived.Test.YtbiilbdflmiehaaDoorP43e
namespace Go.Proofs.YtbiilbdflmiehaaDoor
open Go.RowKit K
namespace W

theorem Load_cutR (s : List UInt8) (w : World) (hl : s.length ≤ 1000000000) (h : ¬ (s ≠ [] ∧ bt s (s.length - 1) = 10)) :
    Calls Tryd.prog 27 #[.string ⟨s.toArray⟩] w (HPost w (0, [], 28)) := by
  by_cases h0 : s = []
  · subst h0
    go_enter Tryd.func27, Tryd.ntmps27
    go_wp2
    refine bodyPost_ret (v := .tuple #[.agg #[.int .i64 0, .slice none 0 0], .int .i64 28]) (by simp [results, Tryd.results27, go_sem]) rfl ⟨_, rfl, ⟨none, 0, rfl, by simp, by omega, fun _ => rfl, SL.nil _ _⟩, ?_⟩
    go_grown
  · have hpos : 0 < s.length := List.length_pos_iff.2 h0
    have hne : s.isEmpty = false := by cases s; simp at h0; rfl
    have h2 : (bt s (s.length - 1) != 10) = true := by simp; intro e; exact h ⟨h0, e⟩
    clear h
    go_enter Tryd.func27, Tryd.ntmps27
    go_wp2
    refine bodyPost_ret (v := .tuple #[.agg #[.int .i64 0, .slice none 0 0], .int .i64 28]) (by simp [results, Tryd.results27, go_sem]) rfl ⟨_, rfl, ⟨none, 0, rfl, by simp, by omega, fun _ => rfl, SL.nil _ _⟩, ?_⟩
    go_grown

set_option maxHeartbeats 2000000 in
theorem Load_fullR (s : List UInt8) (x : List UInt8) (r : List (List UInt8)) (w : World) (hl : s.length ≤ 900000) (h1 : s ≠ []) (h2 : bt s (s.length - 1) = 10) (hs : P.splitNL (s.take (s.length - 1)) = x :: r) :
    Calls Tryd.prog 27 #[.string ⟨s.toArray⟩] w (HPost w (match P.numH x with | none => (0, [], 6) | some n => if P.valid n r = 0 then (n, r, 0) else (0, [], P.valid n r))) := by
  obtain ⟨i0, hi, hz0, hz1, hz2⟩ := info_parts infoStr
  obtain ⟨R, hR⟩ : ∃ R : Int × List (List UInt8) × Int, (match P.numH x with | none => (0, [], 6) | some n => if P.valid n r = 0 then (n, r, 0) else (0, [], P.valid n r)) = R := ⟨_, rfl⟩
  rw [hR]
  have HR := Lib.hid hR
  clear hR
  have hpos : 0 < s.length := List.length_pos_iff.2 h1
  have hne : s.isEmpty = false := by cases s; simp at h1; rfl
  have h2' : (bt s (s.length - 1) != 10) = false := by simp [h2]
  have HL := Lib.hid (show P.linesR [] s = x :: r by rw [← hs, ← P.linesR_split, ← P.take_end h1 h2])
  have hlen := P.splitNL_len (s.take (s.length - 1))
  have hles := P.splitNL_le (s.take (s.length - 1))
  rw [hs] at hlen hles
  have hrl : r.length ≤ 900000 := by simp at hlen; omega
  have hxl : x.length ≤ 900000 := by have := hles x (by simp); simp at this; omega
  have HLS := Lib.hid (show ∀ y ∈ r, y.length ≤ 900000 from fun y hy => by have := hles y (by simp [hy]); simp at this; omega)
  obtain ⟨w0, e0, hX0, hb0, hsz0⟩ := Box2.fresh w 0 none 0 0 24
  have H0 := Lib.hid e0
  have HX0 := Lib.hid hX0
  have HB0 := Lib.hid hb0
  clear h1 h2 hs hlen hles e0 hX0 hb0
  go_enter Tryd.func27, Tryd.ntmps27
  go_wp2
  rw [← H0.out]
  go_loopw [4, 5, 6] (fun v fr i wr => ∃ (k f : Nat) (acc : List (List UInt8)), k ≤ s.length ∧ f ≤ k ∧ i = .int .i64 k ∧ fr = .int .i64 f ∧ wr.ownsRow w0.heap.size 9 1 v acc.length (acc.map fun s => .string ⟨s.toArray⟩) ∧ Below w0.heap.size w0 wr ∧ acc.length ≤ k ∧ Hid (acc ++ P.linesR (cut s f k) (s.drop k) = x :: r)) (fun _ _ i _ => s.length - (intOf i).toNat)
  case atStart => exact ⟨0, 0, [], by omega, by omega, rfl, rfl, World.ownsRow_nil _ _ _ _, Below.refl _ _, by simp, by show _ = _; rw [cut_empty]; simpa using HL.out⟩
  case round =>
    obtain ⟨k, f, acc, hk, hf, rfl, rfl, hown, hbw, hac, HN⟩ := hrel
    by_cases hlt : k < s.length
    · obtain ⟨c, hx, hb, _⟩ := drop_cons s k hlt
      have HX := Lib.hid hx
      have HB := Lib.hid hb
      clear hx hb
      have hsz := hbw.size
      by_cases hc : bt s k = 10
      · have hc' : (bt s k == 10) = true := by simp [hc]
        have HC := Lib.hid hc
        clear hc
        have HOWN := Lib.hid (show (acc.map fun s => Value.string ⟨s.toArray⟩) ++ [Value.string ⟨(cut s f k).toArray⟩] = (acc ++ [cut s f k]).map fun s => Value.string ⟨s.toArray⟩ by simp)
        go_wp2_with (at_builtin; refine wpList_append_own _ rfl _ _ 22 rfl w0.heap.size 9 i0 (.string ⟨#[]⟩) 1 16 Tryd.underlying22 hi hz0 hz1 hz2 rfl (by decide) _ _ _ rfl (hown.alloc _) ⟨wr.heap.size, 0, none⟩ 1 1 [.string ⟨(cut s f k).toArray⟩] rfl rfl (one_cells wr _ _) (one_str _) (by unfold maxLen; omega) (by omega) (by simp; omega) ?_)
        intro v2 w2 hown2 hgrow2 _
        rw [HOWN.out] at hown2
        have hb2 : Below w0.heap.size w0 w2 := (hbw.alloc hbw.size _).grown hgrow2 (by simp; omega) (fun k hk => (hown.lt k hk).1)
        clear hown hbw hgrow2
        go_wp2
        go_roundw
        case rel =>
          refine ⟨k + 1, k + 1, acc ++ [cut s f k], by omega, by omega, by go_num, by go_num, by simpa using hown2, hb2, by simp; omega, ?_⟩
          show _ = _
          rw [← HN.out, HX.out, P.linesR_nl HB.out HC.out, cut_empty]; simp
        case measure => simp [intOf]; omega
      · have hc' : (bt s k == 10) = false := by simp [hc]
        have HC := Lib.hid hc
        clear hc
        go_wp2
        go_roundw
        case rel =>
          refine ⟨k + 1, f, acc, by omega, by omega, by go_num, rfl, hown, hbw, by omega, ?_⟩
          show _ = _
          rw [← HN.out, HX.out, P.linesR_go HB.out HC.out, cut_snoc s f k c hf hlt HB.out]
        case measure => simp [intOf]; omega
    · have hacc : acc = x :: r := by
        have := HN.out
        rw [drop_end s k hlt] at this
        simpa [P.linesR] using this
      subst hacc
      obtain ⟨A, c, rfl, hc1, hc2, hA, hS⟩ := own_form hown
      obtain ⟨g, off, rfl, hg, hcs⟩ := hS (by simp)
      have hcell : wr.cell? ⟨g, off, none⟩ = some (.string ⟨x.toArray⟩) := by have := hcs 0 (by simp); simpa using this
      have HT := Lib.hid hS.tail
      have HXr := Lib.hid (HX0.out.later hbw)
      have HBr := Lib.hid (btr HB0.out hbw)
      have hltr := HXr.out.lt
      simp only [List.length_cons] at hc1
      obtain ⟨k0, k1, z0, z1⟩ := HXr.out.cells
      simp only [List.length_cons]
      clear hown hbw hS hcs HN hA
      go_wp2_with fail
      refine (number_ref x _ (by omega)).mono ?_
      rintro e w1 ⟨rfl, rfl⟩
      cases hnum : P.numH x with
      | none =>
        simp only [Option.getD_none]
        have HRR := Lib.hid (show R = (0, [], 6) by rw [← HR.out, hnum])
        clear hnum
        go_wp2
        rw [HRR.out]
        refine bodyPost_ret (v := .tuple #[.agg #[.int .i64 0, .slice none 0 0], .int .i64 6]) (by simp [results, Tryd.results27, go_sem, k0, k1]) rfl ⟨_, rfl, ⟨none, 0, rfl, by simp, by omega, fun _ => rfl, SL.nil _ _⟩, ?_⟩
        exact (HBr.out.setCell (by simp) _).setCell (by simp) _
      | some n =>
        simp only [Option.getD_some]
        obtain ⟨n1, n2⟩ := P.numH_pos hnum
        have hn0 : (n == 0) = false := by simp; omega
        have HRES := Lib.hid (show R = if P.valid n r = 0 then (n, r, 0) else (0, [], P.valid n r) by rw [← HR.out, hnum])
        have HVAL := Lib.hid (fun A c w hS => Valid_ref n A c r 900000 w (by omega) hS HLS.out (by omega))
        obtain ⟨V, hV⟩ : ∃ V, P.valid n r = V := ⟨_, rfl⟩
        rw [hV] at HVAL HRES
        clear hV hnum
        by_cases hc3 : c = 1
        · obtain rfl : r = [] := List.eq_nil_of_length_eq_zero (by omega)
          subst hc3
          have HSB := Lib.hid (SL.nil wr (some ⟨g, off, none⟩))
          obtain ⟨w4, h4, hX4, hb4, hlt4⟩ := Box2.fresh wr n (some ⟨g, off, none⟩) 0 0 24
          simp only [List.length_nil] at hc1 hrl ⊢
          have HX4 := Lib.hid hX4
          have HB4 := Lib.hid hb4
          have H4 := Lib.hid h4
          clear hX4 hb4 h4 k0 k1 z0 z1
          go_wp2_with fail
          rw [← H4.out]
          refine (HVAL.out _ _ w4 (HSB.out.below HB4.out)).mono ?_
          rintro e w5 ⟨rfl, hb5⟩
          have HB5 := Lib.hid (btr HBr.out (btr HB4.out hb5))
          have HK5 := Lib.hid (HXr.out.later (btr HB4.out hb5))
          have HS5 := Lib.hid (HSB.out.below (btr HB4.out hb5))
          obtain ⟨x0, x1, _, _⟩ := (HX4.out.later hb5).cells
          obtain ⟨k0, k1, z0, z1⟩ := HK5.out.cells
          have hlt5 : w.heap.size < w5.heap.size := HK5.out.lt
          clear hb5
          by_cases hV0 : V = 0
          · have fV : (V != 0) = false := by simp [hV0]
            have HRR := Lib.hid (HRES.out.trans (if_pos hV0))
            clear hV0
            go_wp2
            rw [HRR.out]
            refine bodyPost_ret (v := .tuple #[.agg #[.int .i64 n, .slice (some ⟨g, off, none⟩) 0 0], .int .i64 0]) (by simp [results, Tryd.results27, go_sem, k0, k1]) rfl ⟨_, rfl, ⟨some ⟨g, off, none⟩, 0, rfl, by simp <;> omega, by omega, (fun h => by cases h), ?_⟩, ?_⟩
            · exact HS5.out.apart HK5.out 0 1 _ _
            · exact (HB5.out.setCell (by simp) _).setCell (by simp) _
          · have fV : (V != 0) = true := by simp [hV0]
            have HRR := Lib.hid (HRES.out.trans (if_neg hV0))
            clear hV0
            go_wp2
            rw [HRR.out]
            refine bodyPost_ret (v := .tuple #[.agg #[.int .i64 0, .slice none 0 0], .int .i64 V]) (by simp [results, Tryd.results27, go_sem, k0, k1]) rfl ⟨_, rfl, ⟨none, 0, rfl, by simp, by omega, fun _ => rfl, SL.nil _ _⟩, ?_⟩
            exact (HB5.out.setCell (by simp) _).setCell (by simp) _
        · have HSB := HT
          obtain ⟨w4, h4, hX4, hb4, hlt4⟩ := Box2.fresh wr n (some ⟨g, off + 1, none⟩) r.length (c - 1) 24
          have HX4 := Lib.hid hX4
          have HB4 := Lib.hid hb4
          have H4 := Lib.hid h4
          clear hX4 hb4 h4 k0 k1 z0 z1
          go_wp2_with fail
          rw [← H4.out]
          refine (HVAL.out _ _ w4 (HSB.out.below HB4.out)).mono ?_
          rintro e w5 ⟨rfl, hb5⟩
          have HB5 := Lib.hid (btr HBr.out (btr HB4.out hb5))
          have HK5 := Lib.hid (HXr.out.later (btr HB4.out hb5))
          have HS5 := Lib.hid (HSB.out.below (btr HB4.out hb5))
          obtain ⟨x0, x1, _, _⟩ := (HX4.out.later hb5).cells
          obtain ⟨k0, k1, z0, z1⟩ := HK5.out.cells
          have hlt5 : w.heap.size < w5.heap.size := HK5.out.lt
          clear hb5
          by_cases hV0 : V = 0
          · have fV : (V != 0) = false := by simp [hV0]
            have HRR := Lib.hid (HRES.out.trans (if_pos hV0))
            clear hV0
            go_wp2
            rw [HRR.out]
            refine bodyPost_ret (v := .tuple #[.agg #[.int .i64 n, .slice (some ⟨g, off + 1, none⟩) r.length (c - 1)], .int .i64 0]) (by simp [results, Tryd.results27, go_sem, k0, k1]) rfl ⟨_, rfl, ⟨some ⟨g, off + 1, none⟩, (c - 1), rfl, by simp <;> omega, by omega, (fun h => by cases h), ?_⟩, ?_⟩
            · exact HS5.out.apart HK5.out 0 1 _ _
            · exact (HB5.out.setCell (by simp) _).setCell (by simp) _
          · have fV : (V != 0) = true := by simp [hV0]
            have HRR := Lib.hid (HRES.out.trans (if_neg hV0))
            clear hV0
            go_wp2
            rw [HRR.out]
            refine bodyPost_ret (v := .tuple #[.agg #[.int .i64 0, .slice none 0 0], .int .i64 V]) (by simp [results, Tryd.results27, go_sem, k0, k1]) rfl ⟨_, rfl, ⟨none, 0, rfl, by simp, by omega, fun _ => rfl, SL.nil _ _⟩, ?_⟩
            exact (HB5.out.setCell (by simp) _).setCell (by simp) _
theorem Load_ref (s : List UInt8) (w : World) (hl : s.length ≤ 900000) :
    Calls Tryd.prog 27 #[.string ⟨s.toArray⟩] w (HPost w (P.loadH s)) := by
  by_cases h : s ≠ [] ∧ bt s (s.length - 1) = 10
  · cases hs : P.splitNL (s.take (s.length - 1)) with
    | nil => exact absurd hs (P.splitNL_ne _)
    | cons x r =>
      have := Load_fullR s x r w hl h.1 h.2 hs
      unfold P.loadH
      rw [if_neg (by rintro (e | e); exact h.1 e; exact e h.2), hs]
      exact this
  · have := Load_cutR s w (by omega) h
    unfold P.loadH
    rw [if_pos (by
      by_cases e : s = []
      · exact .inl e
      · exact .inr (fun e2 => h ⟨e, e2⟩))]
    exact this
end W
end Go.Proofs.YtbiilbdflmiehaaDoor
