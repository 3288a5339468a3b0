/- Chapter 29: isPath, Find of files. -/
import Derived.Test.YtmccfdmnidbalaaGreatDoorW29d
namespace Go.Proofs.YtmccfdmnidbalaaGreatDoor
open Go.RowKit K
namespace P
theorem prefix47 (s : List UInt8) : Lib.hasPrefix s [47] = (s.head? == some 47) := by
  cases s with
  | nil => rfl
  | cons c r =>
    rw [Bool.eq_iff_iff]
    simp [Lib.hasPrefix, List.isPrefixOf]
    exact eq_comm
end P
namespace W
set_option maxHeartbeats 1000000 in
theorem isPath_of (s : List UInt8) (w : World) (hl : s.length ≤ 1000000) (HN : ∀ x ∈ P.split47 (s.drop 1), NameOK x) (hw : Env w) :
    Calls Tryz.prog 48 #[.string ⟨s.toArray⟩] w fun e w' => e = .returned (.bool (P.pathB s)) ∧ Below w.heap.size w w' := by
  by_cases h0 : s = [47]
  · subst h0
    clear HN
    go_enter Tryz.func48, Tryz.ntmps48
    go_wp2
    go_ret
    exact ⟨rfl, Below.refl _ _⟩
  have d0 : (s == [47]) = false := by simpa using h0
  have HR := Lib.hid (show P.pathB s = (decide (s.length ≤ 128) && s.head? == some 47 && (P.split47 (s.drop 1)).all P.nameB) by unfold P.pathB; rw [d0]; rfl)
  generalize P.pathB s = R at HR
  by_cases h1 : s.length ≤ 128
  case neg =>
    have e1 : ((128 : Int) < (s.length : Int)) = True := eq_true (by omega)
    have HF := Lib.hid (show R = false by rw [HR.out, decide_eq_false h1]; rfl)
    clear h1 h0 HN
    go_enter Tryz.func48, Tryz.ntmps48
    go_wp2
    go_ret
    exact ⟨ret_bool HF.out.symm, Below.refl _ _⟩
  have e1 : ((128 : Int) < (s.length : Int)) = False := eq_false (by omega)
  have HP := Lib.hid (show ∀ w, Calls Tryz.prog 57 #[.string ⟨s.toArray⟩, .string ⟨#[47]⟩] w fun e w' => e = .returned (.bool (s.head? == some 47)) ∧ w' = w from fun w => (Tryz.strings_HasPrefix ⟨s.toArray⟩ ⟨#[47]⟩ w).mono fun e w' ⟨h1, h2⟩ => ⟨by rw [h1]; exact ret_bool (by simpa using P.prefix47 s), h2⟩)
  cases hh : s.head? == some 47 with
  | false =>
    rw [hh] at HP HR
    have HF := Lib.hid (show R = false by rw [HR.out]; simp)
    clear h1 h0 HN hh
    go_enter Tryz.func48, Tryz.ntmps48
    go_wp2_with fail
    refine (HP.out _).mono ?_
    rintro e w1 ⟨rfl, rfl⟩
    go_wp2
    go_ret
    exact ⟨ret_bool HF.out.symm, Below.refl _ _⟩
  | true =>
    rw [hh] at HP HR
    have hpos : 1 ≤ s.length := by cases s; simp at hh; simp
    have hpos' : (1 : Int) ≤ (s.length : Int) := by omega
    have hcut : cut s 1 s.length = s.drop 1 := cut_end s 1
    have HS := Lib.hid (fun w hw => Split_any (s.drop 1) w (by simp; omega) hw)
    have HFR := Lib.hid (show R = (P.split47 (s.drop 1)).all P.nameB by rw [HR.out, decide_eq_true h1]; simp)
    have hlen := P.split47_len (s.drop 1)
    rw [List.length_drop] at hlen
    generalize s.drop 1 = t at *
    generalize P.split47 t = ls at *
    have HNM := Lib.hid HN
    have HE := Lib.hid hw
    have hll : ls.length ≤ 200 := by omega
    clear h1 h0 hh HR HN hw hlen
    go_enter Tryz.func48, Tryz.ntmps48
    go_wp2_with fail
    refine (HP.out _).mono ?_
    rintro e w1 ⟨rfl, rfl⟩
    go_wp2_with fail
    refine (HS.out _ HE.out).mono ?_
    rintro e w1 ⟨rfl, hown, hb1⟩
    have HL := Lib.hid (SL.own hown)
    have HB1 := Lib.hid hb1
    obtain ⟨y, hy⟩ : ∃ y, y = w1 := ⟨_, rfl⟩
    have HLy := HL
    have HBy := HB1
    rw [← hy] at HLy HBy
    clear hown hb1 HL HB1
    go_wp2
    rw [← hy]
    clear hy
    go_loopw [19] (fun i wr => ∃ k : Nat, k ≤ ls.length ∧ i = .int .i64 k ∧ Below y.heap.size y wr ∧ Hid ((ls.drop k).all P.nameB = R)) (fun i _ => ls.length - (intOf i).toNat)
    case atStart => exact ⟨0, by omega, rfl, Below.refl _ _, HFR.out.symm⟩
    case round =>
      obtain ⟨k, hk, rfl, hbw, HK⟩ := hrel
      have HBw := Lib.hid hbw
      by_cases hlt : k < ls.length
      · obtain ⟨b, off, hbo, hb, hc⟩ := (HLy.out.below hbw).get hlt
        simp at hbo
        obtain ⟨rfl, rfl⟩ := hbo
        simp only [Nat.zero_add] at hc
        have HD := Lib.hid (show ls.drop k = ls.getD k [] :: ls.drop (k + 1) by rw [List.getD_eq_getElem?_getD, List.getElem?_eq_getElem hlt, List.drop_eq_getElem_cons hlt]; rfl)
        have hmem : ls.getD k [] ∈ ls := by rw [List.getD_eq_getElem?_getD, List.getElem?_eq_getElem hlt]; exact List.getElem_mem hlt
        have HC := Lib.hid (HNM.out _ hmem wr)
        generalize ls.getD k [] = x at *
        have k0 : (0 : Int) ≤ (k : Int) := by omega
        have k1 : (k : Int) < (ls.length : Int) := by omega
        have HX := Lib.hid (show (ls.drop k).all P.nameB = (P.nameB x && (ls.drop (k + 1)).all P.nameB) by rw [HD.out, List.all_cons])
        generalize P.nameB x = N at *
        clear hmem hbw HD
        cases N with
        | false =>
          have HF := Lib.hid (show R = false by rw [← HK.out, HX.out]; rfl)
          go_wp2_with fail
          refine HC.out.mono ?_
          rintro e w2 ⟨rfl, hb2⟩
          have HB2 := Lib.hid (btr HBy.out (btr HBw.out hb2))
          clear hb2
          go_wp2
          go_ret
          exact ⟨ret_bool HF.out.symm, HB2.out⟩
        | true =>
          have HF := Lib.hid (show (ls.drop (k + 1)).all P.nameB = R by rw [← HK.out, HX.out]; rfl)
          go_wp2_with fail
          refine HC.out.mono ?_
          rintro e w2 ⟨rfl, hb2⟩
          have HB2 := Lib.hid (btr HBw.out hb2)
          clear hb2
          go_wp2
          go_roundw
          case rel => exact ⟨k + 1, by omega, by go_num, HB2.out, HF.out⟩
          case measure => simp [intOf]; omega
      · have HF := Lib.hid (show R = true by rw [← HK.out, List.drop_eq_nil_of_le (by omega)]; rfl)
        clear hbw
        go_wp2
        go_ret
        exact ⟨ret_bool HF.out.symm, btr HBy.out HBw.out⟩
end W
end Go.Proofs.YtmccfdmnidbalaaGreatDoor
