/- Chapter 43: Save of history and of its reference. -/
import Derived.Test.YtbiilbdflmiehaaDoorW43g
namespace Go.Proofs.YtbiilbdflmiehaaDoor
open Go.RowKit K
namespace W

theorem Itoa_any (n : Int) (w : World) (h0 : 0 ≤ n) (h1 : n ≤ 2147483647) (hw : Env w) :
    Calls Tryd.prog 38 #[.int .i64 n] w fun e w' => e = .returned (.string ⟨(Lib.itoa n).toArray⟩) ∧ Below w.heap.size w w' :=
  (Tryd.strconv_Itoa n (by omega) (by omega) w hw.pows).mono fun _ _ ⟨h2, k, os, h3⟩ => ⟨h2, by subst h3; exact Lib.below_grow _ w (Nat.le_refl _) k os⟩

theorem Save_ref (v : Value) (first : Int) (ls : List (List UInt8)) (w : World) (hV : HV w v first ls) (hn : ls.length ≤ 1000) (hf1 : 1 ≤ first) (hf2 : first ≤ 2147483519) (hs : P.total ls ≤ 1000000) (hw : Env w) :
    Calls Tryd.prog 25 #[v] w fun e w' => e = .returned (.string ⟨(P.saveH first ls).toArray⟩) ∧ Below w.heap.size w w' := by
  obtain ⟨A, c, rfl, _, _, _, hS⟩ := hV
  unfold hv
  obtain ⟨w0, h0, c0, c1, hb0, hsz0⟩ := box2 w (.int .i64 first) (.slice A ls.length c) 24
  have hS0 := Lib.hid (hS.below hb0)
  have H0 := Lib.hid h0
  have HI := Lib.hid (Itoa_any first w0 (by omega) (by omega) (hw.below hb0))
  have hil := P.itoa_len first (by omega) (by omega)
  obtain ⟨it, hit⟩ : ∃ it, Lib.itoa first = it := ⟨_, rfl⟩
  obtain ⟨R, hR⟩ : ∃ R, P.saveH first ls = R := ⟨_, rfl⟩
  have HR := Lib.hid (show it ++ 10 :: P.saveLines ls = R by rw [← hR, ← hit]; rfl)
  rw [hR]
  rw [hit] at HI hil
  have hblk := Lib.hid (show ∀ w', Below w0.heap.size w0 w' → w'.cell? ⟨w.heap.size, 1, none⟩ = some (.slice A ls.length c) from fun w' hb => (hb.cell (p := ⟨w.heap.size, 1, none⟩) hsz0).trans c1)
  clear h0 hw hit hR
  go_enter Tryd.func25, Tryd.ntmps25
  go_wp2_with fail
  rw [← H0.out]
  refine HI.out.mono ?_
  rintro e w1 ⟨rfl, hb1⟩
  have d1 := hblk.out w1 hb1
  have hS1 := hS0.out.below hb1
  have hbf := Lib.hid (btr hb0 hb1)
  clear hb1 c0 c1
  go_wp2
  go_loop [3, 4] (fun o i => ∃ (k : Nat) (q : List UInt8), k ≤ ls.length ∧ o = .string ⟨q.toArray⟩ ∧ i = .int .i64 k ∧ q.length ≤ 11 + P.total (ls.take k) ∧ Hid (q ++ P.saveLines (ls.drop k) = R)) (fun _ i => ls.length - (intOf i).toNat)
  case atStart => exact ⟨0, it ++ [10], by omega, rfl, rfl, by simp [P.total]; omega, by show _ = _; rw [← HR.out]; simp⟩
  case round =>
    obtain ⟨k, q, hk, rfl, rfl, hq, HN⟩ := hrel
    have hq2 := P.total_le ls k
    by_cases hlt : k < ls.length
    · obtain ⟨b, off, rfl, hb, hcell⟩ := hS1.get hlt
      have htk := P.total_take ls k hlt
      have hq3 := P.total_le ls (k + 1)
      have HD := Lib.hid (P.drop_getD hlt)
      have HTK := Lib.hid htk
      have hsl : (ls.getD k []).length ≤ 1000000 := by omega
      clear htk
      generalize ls.getD k [] = s at *
      go_wp2
      go_round
      case rel =>
        refine ⟨k + 1, _, by omega, rfl, by go_num, by rw [HTK.out]; simp; omega, ?_⟩
        show _ = _
        rw [← HN.out, HD.out]; simp [P.saveLines]
      case measure => simp [intOf]; omega
    · have HE := Lib.hid (show ls.drop k = [] from List.drop_eq_nil_of_le (by omega))
      go_wp2
      go_ret
      exact ⟨ret_str (by rw [← HN.out, HE.out]; simp [P.saveLines]), hbf.out⟩

theorem string_k (b : Nat) (l : List UInt8) (w : World) (h : Bld b l w) :
    Calls Tryd.prog 40 #[.pointer (some ⟨b, 0, none⟩)] w fun e w' => e = .returned (.string ⟨l.toArray⟩) ∧ Bld b l w' ∧ Bkept b w w' := by
  have hlt := h.lt
  exact (Tryd.Builder_String_any_k b b l w h (by omega)).mono fun e w' ⟨h1, h2, h3, h4⟩ => ⟨h1, h2, h3, h4⟩

set_option maxHeartbeats 1000000 in
theorem Save_any (v : Value) (first : Int) (ls : List (List UInt8)) (w : World) (hV : HV w v first ls) (hn : ls.length ≤ 1000) (hf1 : 1 ≤ first) (hf2 : first ≤ 2147483519) (hs : P.total ls ≤ 1000000) (hw : Env w) :
    Calls Tryd.prog 24 #[v] w fun e w' => e = .returned (.string ⟨(P.saveH first ls).toArray⟩) ∧ Below w.heap.size w w' := by
  obtain ⟨A, c, rfl, _, _, _, hS⟩ := hV
  unfold hv
  obtain ⟨wa, ha, c0, c1, hba, hsza⟩ := box2 w (.int .i64 first) (.slice A ls.length c) 24
  have hsz1 : wa.heap.size = w.heap.size + 1 := by rw [ha]; simp
  obtain ⟨w0, h0⟩ : ∃ w0, w0 = wa.alloc (.cells #[.pointer none, .slice none 0 0] 54) := ⟨_, rfl⟩
  have hB0 : Bld (w.heap.size + 1) [] w0 := by rw [h0, ← hsz1]; exact Lib.IsBuilderF.of (Lib.fresh_isBuilder _ _ wa)
  have hb1 : Below wa.heap.size wa w0 := by rw [h0]; exact (Below.refl _ _).alloc (Nat.le_refl _) _
  have hcell0 : ∀ w', Below (w.heap.size + 1) w0 w' → w'.cell? ⟨w.heap.size, 0, none⟩ = some (.int .i64 first) ∧ w'.cell? ⟨w.heap.size, 1, none⟩ = some (.slice A ls.length c) := fun w' hb =>
    ⟨((hb.cell (p := ⟨w.heap.size, 0, none⟩) (by simp)).trans (hb1.cell (p := ⟨w.heap.size, 0, none⟩) hsza)).trans c0, ((hb.cell (p := ⟨w.heap.size, 1, none⟩) (by simp)).trans (hb1.cell (p := ⟨w.heap.size, 1, none⟩) hsza)).trans c1⟩
  have hw0 : Below w.heap.size w w0 := hba.trans (hb1.mono (by omega))
  have hsl0 : ∀ w', Below (w.heap.size + 1) w0 w' → SL w' A ls ∧ Below w.heap.size w w' := fun w' hb =>
    ⟨hS.below (hw0.trans (hb.mono (by omega))), hw0.trans (hb.mono (by omega))⟩
  have HC := Lib.hid hcell0
  have HSL := Lib.hid hsl0
  have H0 := Lib.hid (h0.trans (by rw [ha]))
  have HI := Lib.hid (fun (w' : World) (h : Env w') => Itoa_any first w' (by omega) (by omega) h)
  have hil := P.itoa_len first (by omega) (by omega)
  obtain ⟨it, hit⟩ : ∃ it, Lib.itoa first = it := ⟨_, rfl⟩
  obtain ⟨R, hR⟩ : ∃ R, P.saveH first ls = R := ⟨_, rfl⟩
  have HR := Lib.hid (show it ++ 10 :: P.saveLines ls = R by rw [← hR, ← hit]; rfl)
  have HW := Lib.hid (hw.below hw0)
  have hszw : w.heap.size + 1 < w0.heap.size := hB0.lt
  rw [hR]
  rw [hit] at HI hil
  obtain ⟨e0, e1⟩ := hcell0 w0 (Below.refl _ _)
  clear ha h0 hb1 hcell0 hsl0 hw hit hR hS hba c0 c1 hsza hsz1 hw0
  go_enter Tryd.func24, Tryd.ntmps24
  go_wp2_with fail
  rw [← H0.out]
  refine (HI.out w0 HW.out).mono ?_
  rintro e w1 ⟨rfl, hb1⟩
  have hB1 := hB0.below hb1
  go_wp2_with fail
  refine (WriteString_k _ _ it _ hB1 (by simp) (by omega)).mono ?_
  rintro e w2 ⟨rfl, hB2, hk2⟩
  go_wp2_with fail
  refine (WriteByte_any _ _ 10 _ hB2 (by simp; omega) (by omega) (by omega)).mono ?_
  rintro e w3 ⟨rfl, hB3, hk3⟩
  have hb3 : Below (w.heap.size + 1) w0 w3 := ((hb1.mono (by omega)).trans hk2.below).trans hk3.below
  obtain ⟨f0, f1⟩ := HC.out w3 hb3
  clear hb1 hB1 hB2 hk2 hk3 e0 e1 hB0
  simp only [List.nil_append] at hB3
  go_wp2
  go_loopw [14] (fun i wr => ∃ (k : Nat) (q : List UInt8), k ≤ ls.length ∧ i = .int .i64 k ∧ Bld (w.heap.size + 1) q wr ∧ Below (w.heap.size + 1) w0 wr ∧ q.length ≤ 11 + P.total (ls.take k) ∧ Hid (q ++ P.saveLines (ls.drop k) = R)) (fun i _ => ls.length - (intOf i).toNat)
  case atStart => exact ⟨0, _, by omega, rfl, hB3, hb3, by simp [P.total]; omega, by show _ = _; rw [← HR.out]; simp [by8]⟩
  case round =>
    obtain ⟨k, q, hk, rfl, hBq, hbw, hq, HN⟩ := hrel
    have hq2 := P.total_le ls k
    by_cases hlt : k < ls.length
    · obtain ⟨hSr, _⟩ := HSL.out wr hbw
      obtain ⟨b, off, rfl, hb, hcell⟩ := hSr.get hlt
      have htk := P.total_take ls k hlt
      have hq3 := P.total_le ls (k + 1)
      have HD := Lib.hid (P.drop_getD hlt)
      have HTK := Lib.hid htk
      have hsl : (ls.getD k []).length ≤ 1000000 := by omega
      clear htk
      generalize ls.getD k [] = s at *
      go_wp2_with fail
      refine (WriteString_k _ _ s _ hBq (by omega) (by omega)).mono ?_
      rintro e w4 ⟨rfl, hB4, hk4⟩
      go_wp2_with fail
      refine (WriteByte_any _ _ 10 _ hB4 (by simp; omega) (by omega) (by omega)).mono ?_
      rintro e w5 ⟨rfl, hB5, hk5⟩
      go_wp2
      go_roundw
      case rel =>
        refine ⟨k + 1, _, by omega, by go_num, hB5, (hbw.trans hk4.below).trans hk5.below, by rw [HTK.out]; simp; omega, ?_⟩
        show _ = _
        rw [← HN.out, HD.out]; simp [P.saveLines, by8]
      case measure => simp [intOf]; omega
    · have HE := Lib.hid (show ls.drop k = [] from List.drop_eq_nil_of_le (by omega))
      obtain ⟨_, hbf⟩ := HSL.out wr hbw
      go_wp2_with fail
      refine (string_k _ _ _ hBq).mono ?_
      rintro e w4 ⟨rfl, _, hk4⟩
      go_wp2
      go_ret
      exact ⟨ret_str (by rw [← HN.out, HE.out]; simp [P.saveLines]), hbf.trans (hk4.below.mono (by omega))⟩
end W
end Go.Proofs.YtbiilbdflmiehaaDoor
