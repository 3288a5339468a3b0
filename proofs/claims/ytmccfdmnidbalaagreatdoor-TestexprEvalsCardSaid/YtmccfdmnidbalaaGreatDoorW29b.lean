/- Chapter 29: integer of testexpr. -/
import Derived.Test.YtmccfdmnidbalaaGreatDoorW29a
namespace Go.Proofs.YtmccfdmnidbalaaGreatDoor
open Go.RowKit K
namespace P
theorem int_none {s : List UInt8} (h : digits? s = false) : intP s = none := by unfold intP; rw [if_neg (by rw [h]; simp)]
theorem digits_empty {s : List UInt8} (h : body s = []) : digits? s = false := by unfold digits?; simp [h]
theorem digits_at {s : List UInt8} (h : body s ≠ []) : digits? s = digAt (body s) 0 := by unfold digits? digAt; simp [h]
end P
namespace W
set_option maxHeartbeats 1000000 in
theorem integer_any (s : List UInt8) (w : World) (hl : s.length ≤ 1000000) (hw : Env w) :
    Calls Tryz.prog 42 #[.string ⟨s.toArray⟩] w (IPost w s) := by
  unfold IPost P.intB
  have HN := Lib.hid (fun (h : P.digits? s = false) => P.int_none h)
  have HP : Hid (P.digits? s = true → Calls Tryz.prog 52 #[.string ⟨s.toArray⟩, .int .i64 10, .int .i64 64] w fun e w' => (∃ v, P.intP s = some v ∧ e = .returned (.tuple #[.int .i64 v, .nilIface]) ∧ Below w.heap.size w w') ∨ (P.intP s = none ∧ (∃ z t p, e = .returned (.tuple #[.int .i64 z, .iface t p])) ∧ Below w.heap.size w w')) := by
    intro hd
    have hlen : (⟨s.toArray⟩ : ByteArray).size = s.length := by simp [ByteArray.size]
    rcases P.parse_intP hd with ⟨v, h1, h2⟩ | ⟨h1, h2⟩
    · refine (Tryz.strconv_ParseInt_10_at64_ok ⟨s.toArray⟩ (by rw [hlen]; omega) v (by simpa using h2) w).mono ?_
      rintro e w' ⟨rfl, rfl | ⟨t, rfl⟩⟩
      · exact .inl ⟨v, h1, rfl, Below.refl _ _⟩
      · exact .inl ⟨v, h1, rfl, Lib.bytesWorld_below _ _ _⟩
    · obtain ⟨te, pe, hr⟩ := hw.range
      refine (Tryz.strconv_ParseInt_10_at64_range ⟨s.toArray⟩ (by rw [hlen]; omega) (by simpa using h2) (.iface te pe) w hr (.inr ⟨te, pe, rfl⟩)).mono ?_
      rintro e w' ⟨N, rfl, -, -, hb⟩
      exact .inr ⟨h1, ⟨_, _, _, rfl⟩, hb⟩
  have HS := Lib.hid (P.sgn_bt s)
  have HE := Lib.hid (fun h => P.digits_empty (s := s) h)
  have HD := Lib.hid (fun h => P.digits_at (s := s) h)
  have HB := Lib.hid (show P.body s = if P.sgn? s = true then s.drop 1 else s from rfl)
  generalize P.body s = b at *
  generalize P.digits? s = D at *
  generalize P.intP s = R at *
  generalize P.sgn? s = S at *
  clear hw
  have hsplit : (S = true ∧ b = s.drop 1 ∧ s ≠ [] ∧ (bt s 0 = 43 ∨ bt s 0 = 45)) ∨ (S = false ∧ b = s ∧ (s = [] ∨ (s ≠ [] ∧ ¬ bt s 0 = 43 ∧ ¬ bt s 0 = 45))) := by
    have h1 := HS.out
    have h2 := HB.out
    cases S with
    | true =>
      have := of_decide_eq_true h1.symm
      exact .inl ⟨rfl, by simpa using h2, this.1, this.2⟩
    | false =>
      have := of_decide_eq_false h1.symm
      refine .inr ⟨rfl, by simpa using h2, ?_⟩
      by_cases hs : s = []
      · exact .inl hs
      · exact .inr ⟨hs, fun h => this ⟨hs, .inl h⟩, fun h => this ⟨hs, .inr h⟩⟩
  rcases hsplit with ⟨h1, h2, h3, h4⟩ | ⟨h1, h2, h3⟩
  · have hemp : s.isEmpty = false := by cases s; simp at h3; rfl
    have hpos : 0 < s.length := by cases s; simp at h3; simp
    have hbl : b.length ≤ 1000000 := by rw [h2]; simp; omega
    have hcut : cut s 1 s.length = b := by rw [cut_end, h2]
    clear h1 h2 h3 HS HB
    rcases h4 with h4 | h4
    · by_cases hbe : b = []
      · have be : (b).isEmpty = true := by rw [hbe]; rfl
        have HR := Lib.hid (HN.out (HE.out hbe))
        clear hbe HP HE HD HN
        go_enter Tryz.func42, Tryz.ntmps42
        go_wp2
        refine bodyPost_ret (v := .tuple #[.int .i64 0, .bool false]) (by simp [results, Tryz.results42, go_sem]) rfl ⟨by rw [HR.out]; rfl, Below.refl _ _⟩
      · have be : (b).isEmpty = false := by cases h : b; exact absurd h hbe; rfl
        have HD0 := Lib.hid (HD.out hbe)
        have hblen : (b).length ≤ 1000000 := by exact hbl
        clear hbe HE HD
        go_enter Tryz.func42, Tryz.ntmps42
        go_wp2
        go_loop [5] (fun i => ∃ k : Nat, k ≤ (b).length ∧ i = .int .i64 k ∧ Hid (P.digAt (b) k = D)) (fun i => (b).length - (intOf i).toNat)
        case atStart => exact ⟨0, by omega, rfl, HD0.out.symm⟩
        case round =>
          obtain ⟨k, hk, rfl, HK⟩ := hrel
          by_cases hlt : k < (b).length
          · have k0 : (0 : Int) ≤ (k : Int) := by omega
            have k1 : (k : Int) < ((b).length : Int) := by omega
            have HNO := Lib.hid (fun h => P.digAt_no (l := b) hlt h)
            have HYES := Lib.hid (fun h h' => P.digAt_yes (l := b) hlt h h')
            have hb0 := bt_nonneg (b) k
            have hb1 := bt_le (b) k
            by_cases h5 : bt b k < 48
            · have HR := Lib.hid (HN.out (by rw [← HK.out]; exact HNO.out (.inl h5)))
              have g5 : (bt b k < 48) = True := eq_true h5
              clear h5
              go_wp2
              refine bodyPost_ret (v := .tuple #[.int .i64 0, .bool false]) (by simp [results, Tryz.results42, go_sem]) rfl ⟨by rw [HR.out]; rfl, Below.refl _ _⟩
            · by_cases h6 : 57 < bt b k
              · have HR := Lib.hid (HN.out (by rw [← HK.out]; exact HNO.out (.inr h6)))
                have g5 : (bt b k < 48) = False := eq_false h5
                have g6 : (57 < bt b k) = True := eq_true h6
                clear h5 h6
                go_wp2
                refine bodyPost_ret (v := .tuple #[.int .i64 0, .bool false]) (by simp [results, Tryz.results42, go_sem]) rfl ⟨by rw [HR.out]; rfl, Below.refl _ _⟩
              · have g5 : (bt b k < 48) = False := eq_false h5
                have g6 : (57 < bt b k) = False := eq_false h6
                have HF := Lib.hid (show P.digAt (b) (k + 1) = D by rw [← HK.out, HYES.out h5 h6])
                clear h5 h6
                go_wp2
                go_round
                case rel => exact ⟨k + 1, by omega, by go_num, HF.out⟩
                case measure => simp [intOf]; omega
          · have HDT := Lib.hid (show D = true by rw [← HK.out]; unfold P.digAt; rw [List.drop_eq_nil_of_le (by omega)]; rfl)
            have HQ := Lib.hid (HP.out HDT.out)
            clear HP
            go_wp2_with fail
            refine HQ.out.mono ?_
            rintro e w1 (⟨v, hR, rfl, hb1⟩ | ⟨hR, ⟨z, t, p, rfl⟩, hb1⟩)
            all_goals
              have HB1 := Lib.hid hb1
              have HR := Lib.hid hR
              clear hb1 hR
              go_wp2
              first
                | refine bodyPost_ret (v := .tuple #[.int .i64 v, .bool true]) (by simp [results, Tryz.results42, go_sem]) rfl ⟨by rw [HR.out]; rfl, HB1.out⟩
                | refine bodyPost_ret (v := .tuple #[.int .i64 0, .bool false]) (by simp [results, Tryz.results42, go_sem]) rfl ⟨by rw [HR.out]; rfl, HB1.out⟩
    · by_cases hbe : b = []
      · have be : (b).isEmpty = true := by rw [hbe]; rfl
        have HR := Lib.hid (HN.out (HE.out hbe))
        clear hbe HP HE HD HN
        go_enter Tryz.func42, Tryz.ntmps42
        go_wp2
        refine bodyPost_ret (v := .tuple #[.int .i64 0, .bool false]) (by simp [results, Tryz.results42, go_sem]) rfl ⟨by rw [HR.out]; rfl, Below.refl _ _⟩
      · have be : (b).isEmpty = false := by cases h : b; exact absurd h hbe; rfl
        have HD0 := Lib.hid (HD.out hbe)
        have hblen : (b).length ≤ 1000000 := by exact hbl
        clear hbe HE HD
        go_enter Tryz.func42, Tryz.ntmps42
        go_wp2
        go_loop [5] (fun i => ∃ k : Nat, k ≤ (b).length ∧ i = .int .i64 k ∧ Hid (P.digAt (b) k = D)) (fun i => (b).length - (intOf i).toNat)
        case atStart => exact ⟨0, by omega, rfl, HD0.out.symm⟩
        case round =>
          obtain ⟨k, hk, rfl, HK⟩ := hrel
          by_cases hlt : k < (b).length
          · have k0 : (0 : Int) ≤ (k : Int) := by omega
            have k1 : (k : Int) < ((b).length : Int) := by omega
            have HNO := Lib.hid (fun h => P.digAt_no (l := b) hlt h)
            have HYES := Lib.hid (fun h h' => P.digAt_yes (l := b) hlt h h')
            have hb0 := bt_nonneg (b) k
            have hb1 := bt_le (b) k
            by_cases h5 : bt b k < 48
            · have HR := Lib.hid (HN.out (by rw [← HK.out]; exact HNO.out (.inl h5)))
              have g5 : (bt b k < 48) = True := eq_true h5
              clear h5
              go_wp2
              refine bodyPost_ret (v := .tuple #[.int .i64 0, .bool false]) (by simp [results, Tryz.results42, go_sem]) rfl ⟨by rw [HR.out]; rfl, Below.refl _ _⟩
            · by_cases h6 : 57 < bt b k
              · have HR := Lib.hid (HN.out (by rw [← HK.out]; exact HNO.out (.inr h6)))
                have g5 : (bt b k < 48) = False := eq_false h5
                have g6 : (57 < bt b k) = True := eq_true h6
                clear h5 h6
                go_wp2
                refine bodyPost_ret (v := .tuple #[.int .i64 0, .bool false]) (by simp [results, Tryz.results42, go_sem]) rfl ⟨by rw [HR.out]; rfl, Below.refl _ _⟩
              · have g5 : (bt b k < 48) = False := eq_false h5
                have g6 : (57 < bt b k) = False := eq_false h6
                have HF := Lib.hid (show P.digAt (b) (k + 1) = D by rw [← HK.out, HYES.out h5 h6])
                clear h5 h6
                go_wp2
                go_round
                case rel => exact ⟨k + 1, by omega, by go_num, HF.out⟩
                case measure => simp [intOf]; omega
          · have HDT := Lib.hid (show D = true by rw [← HK.out]; unfold P.digAt; rw [List.drop_eq_nil_of_le (by omega)]; rfl)
            have HQ := Lib.hid (HP.out HDT.out)
            clear HP
            go_wp2_with fail
            refine HQ.out.mono ?_
            rintro e w1 (⟨v, hR, rfl, hb1⟩ | ⟨hR, ⟨z, t, p, rfl⟩, hb1⟩)
            all_goals
              have HB1 := Lib.hid hb1
              have HR := Lib.hid hR
              clear hb1 hR
              go_wp2
              first
                | refine bodyPost_ret (v := .tuple #[.int .i64 v, .bool true]) (by simp [results, Tryz.results42, go_sem]) rfl ⟨by rw [HR.out]; rfl, HB1.out⟩
                | refine bodyPost_ret (v := .tuple #[.int .i64 0, .bool false]) (by simp [results, Tryz.results42, go_sem]) rfl ⟨by rw [HR.out]; rfl, HB1.out⟩
  · subst h2
    clear h1 HS HB
    rcases h3 with h3 | ⟨h3, h4, h5⟩
    · subst h3
      have HR := Lib.hid (HN.out (HE.out rfl))
      clear HP HE HD HN
      go_enter Tryz.func42, Tryz.ntmps42
      go_wp2
      refine bodyPost_ret (v := .tuple #[.int .i64 0, .bool false]) (by simp [results, Tryz.results42, go_sem]) rfl ⟨by rw [HR.out]; rfl, Below.refl _ _⟩
    · have hemp : b.isEmpty = false := by cases b; simp at h3; rfl
      have hpos : 0 < b.length := by cases b; simp at h3; simp
      have q4 : (bt b 0 == 43) = false := by simpa using h4
      have q5 : (bt b 0 == 45) = false := by simpa using h5
      clear h4 h5 h3
      by_cases hbe : b = []
      · rw [hbe] at hemp; cases hemp
      · have be : (b).isEmpty = false := by cases h : b; exact absurd h hbe; rfl
        have HD0 := Lib.hid (HD.out hbe)
        have hblen : (b).length ≤ 1000000 := by exact hl
        clear hbe HE HD
        go_enter Tryz.func42, Tryz.ntmps42
        go_wp2
        go_loop [5] (fun i => ∃ k : Nat, k ≤ (b).length ∧ i = .int .i64 k ∧ Hid (P.digAt (b) k = D)) (fun i => (b).length - (intOf i).toNat)
        case atStart => exact ⟨0, by omega, rfl, HD0.out.symm⟩
        case round =>
          obtain ⟨k, hk, rfl, HK⟩ := hrel
          by_cases hlt : k < (b).length
          · have k0 : (0 : Int) ≤ (k : Int) := by omega
            have k1 : (k : Int) < ((b).length : Int) := by omega
            have HNO := Lib.hid (fun h => P.digAt_no (l := b) hlt h)
            have HYES := Lib.hid (fun h h' => P.digAt_yes (l := b) hlt h h')
            have hb0 := bt_nonneg (b) k
            have hb1 := bt_le (b) k
            by_cases h5 : bt b k < 48
            · have HR := Lib.hid (HN.out (by rw [← HK.out]; exact HNO.out (.inl h5)))
              have g5 : (bt b k < 48) = True := eq_true h5
              clear h5
              go_wp2
              refine bodyPost_ret (v := .tuple #[.int .i64 0, .bool false]) (by simp [results, Tryz.results42, go_sem]) rfl ⟨by rw [HR.out]; rfl, Below.refl _ _⟩
            · by_cases h6 : 57 < bt b k
              · have HR := Lib.hid (HN.out (by rw [← HK.out]; exact HNO.out (.inr h6)))
                have g5 : (bt b k < 48) = False := eq_false h5
                have g6 : (57 < bt b k) = True := eq_true h6
                clear h5 h6
                go_wp2
                refine bodyPost_ret (v := .tuple #[.int .i64 0, .bool false]) (by simp [results, Tryz.results42, go_sem]) rfl ⟨by rw [HR.out]; rfl, Below.refl _ _⟩
              · have g5 : (bt b k < 48) = False := eq_false h5
                have g6 : (57 < bt b k) = False := eq_false h6
                have HF := Lib.hid (show P.digAt (b) (k + 1) = D by rw [← HK.out, HYES.out h5 h6])
                clear h5 h6
                go_wp2
                go_round
                case rel => exact ⟨k + 1, by omega, by go_num, HF.out⟩
                case measure => simp [intOf]; omega
          · have HDT := Lib.hid (show D = true by rw [← HK.out]; unfold P.digAt; rw [List.drop_eq_nil_of_le (by omega)]; rfl)
            have HQ := Lib.hid (HP.out HDT.out)
            clear HP
            go_wp2_with fail
            refine HQ.out.mono ?_
            rintro e w1 (⟨v, hR, rfl, hb1⟩ | ⟨hR, ⟨z, t, p, rfl⟩, hb1⟩)
            all_goals
              have HB1 := Lib.hid hb1
              have HR := Lib.hid hR
              clear hb1 hR
              go_wp2
              first
                | refine bodyPost_ret (v := .tuple #[.int .i64 v, .bool true]) (by simp [results, Tryz.results42, go_sem]) rfl ⟨by rw [HR.out]; rfl, HB1.out⟩
                | refine bodyPost_ret (v := .tuple #[.int .i64 0, .bool false]) (by simp [results, Tryz.results42, go_sem]) rfl ⟨by rw [HR.out]; rfl, HB1.out⟩
end W
end Go.Proofs.YtmccfdmnidbalaaGreatDoor
