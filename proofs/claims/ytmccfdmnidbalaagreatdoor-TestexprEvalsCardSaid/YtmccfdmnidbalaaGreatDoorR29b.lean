/- Chapter 29: the reference's integer and compare. -/
import Derived.Test.YtmccfdmnidbalaaGreatDoorR29a
namespace Go.Proofs.YtmccfdmnidbalaaGreatDoor
open Go.RowKit K
/-- The length of a string value. -/
def sLen : Value → Nat
  | .string s => s.size
  | _ => 0
theorem sLen_of (l : List UInt8) : sLen (.string ⟨l.toArray⟩) = l.length := by simp [sLen, ByteArray.size]
namespace P
/-- What integer returns. -/
def okB (N D O : Bool) : Bool := N && D && O
theorem okR_no {s : Str} (h : digits? s = false) : okR s = false := by unfold okR; rw [h]; rfl
theorem okR_over {s : Str} (h : overB s = true) : okR s = false := by unfold okR; rw [h]; simp
theorem okR_yes {s : Str} (h1 : digits? s = true) (h : overB s = false) : okR s = true := by unfold okR; rw [h1, h]; rfl
theorem strip0_one {d : Str} (h : ¬ 1 < d.length) : strip0 d = d := by
  match d with
  | [] => rfl
  | [_] => rfl
  | _ :: _ :: _ => simp at h
theorem strip0_stop {d : Str} (h1 : 1 < d.length) (h : (bt d 0 == 48) = false) : strip0 d = d := by
  match d with
  | [] => rfl
  | [_] => rfl
  | c :: e :: r =>
    rw [strip0, if_neg]
    rintro rfl
    simp [bt] at h
theorem strip0_go {d : Str} (h1 : 1 < d.length) (h : (bt d 0 == 48) = true) : strip0 d = strip0 (d.drop 1) := by
  match d with
  | [] => rfl
  | [_] => simp at h1
  | c :: e :: r =>
    rw [strip0, if_pos]
    · rfl
    · simp [bt] at h
      apply UInt8.toNat_inj.1
      simp
      omega
end P
namespace W
/-- What integer of the reference returns. -/
def RInt (w : World) (s : List UInt8) (e : Ending) (w' : World) : Prop := e = .returned (.tuple #[.bool (P.negR s), .string ⟨(P.digR s).toArray⟩, .bool (P.okR s)]) ∧ w = w'
theorem rint_no {w : World} {s : List UInt8} (h : P.okR s = false) : RInt w s (.returned (.tuple #[.bool false, .string ⟨#[]⟩, .bool false])) w := by
  refine ⟨?_, rfl⟩
  have h1 : P.negR s = false := by unfold P.negR; rw [h]; rfl
  have h2 : P.digR s = [] := by unfold P.digR; rw [h]; rfl
  rw [h, h1, h2]
theorem rint_yes {w : World} {s d : List UInt8} {N : Bool} (h : P.okR s = true) (hN : P.neg? s = N) (hd : P.dg s = d) : RInt w s (.returned (.tuple #[.bool (N && d != [48]), .string ⟨d.toArray⟩, .bool true])) w := by
  refine ⟨?_, rfl⟩
  have h1 : P.negR s = (N && d != [48]) := by unfold P.negR; rw [h, hN, hd]; rfl
  have h2 : P.digR s = d := by unfold P.digR; rw [h, if_pos rfl, hd]
  rw [h, h1, h2]
theorem over_cases {s d : List UInt8} {N : Bool} (hD : P.digits? s = true) (hN : P.neg? s = N) (hd : P.dg s = d) (hl : d.length ≤ 1000000) :
    (((19 : Int) < (d.length : Int)) = True ∧ P.okR s = false) ∨ (((19 : Int) < (d.length : Int)) = False ∧ ((d.length : Int) == 19) = true ∧ decide (P.most N < d) = true ∧ P.okR s = false) ∨
    (((19 : Int) < (d.length : Int)) = False ∧ ((d.length : Int) == 19) = true ∧ decide (P.most N < d) = false ∧ P.okR s = true) ∨ (((19 : Int) < (d.length : Int)) = False ∧ ((d.length : Int) == 19) = false ∧ P.okR s = true) := by
  have h := P.over_iff hD
  rw [hN, hd] at h
  by_cases h1 : 19 < d.length
  · exact .inl ⟨eq_true (by omega), P.okR_over (h.2 (.inl h1))⟩
  · have f1 : ((19 : Int) < (d.length : Int)) = False := eq_false (by omega)
    by_cases h2 : d.length = 19
    · have f2 : ((d.length : Int) == 19) = true := by simp; omega
      by_cases h3 : P.most N < d
      · exact .inr (.inl ⟨f1, f2, decide_eq_true h3, P.okR_over (h.2 (.inr ⟨h2, h3⟩))⟩)
      · refine .inr (.inr (.inl ⟨f1, f2, decide_eq_false h3, P.okR_yes hD ?_⟩))
        cases ho : P.overB s with
        | false => rfl
        | true => rcases h.1 ho with h4 | ⟨_, h4⟩ <;> contradiction
    · refine .inr (.inr (.inr ⟨f1, by simp; omega, P.okR_yes hD ?_⟩))
      cases ho : P.overB s with
      | false => rfl
      | true => rcases h.1 ho with h4 | ⟨h4, _⟩ <;> contradiction
set_option maxHeartbeats 4000000 in
set_option maxRecDepth 100000 in
theorem integer_ref (s : List UInt8) (w : World) (hl : s.length ≤ 1000000) :
    Calls Tryz.prog 46 #[.string ⟨s.toArray⟩] w (RInt w s) := by
  have HGP := fun (t : TypeId) (d : List UInt8) => binOp_gtr_lists t d [57, 50, 50, 51, 51, 55, 50, 48, 51, 54, 56, 53, 52, 55, 55, 53, 56, 48, 55]
  have HGN := fun (t : TypeId) (d : List UInt8) => binOp_gtr_lists t d [57, 50, 50, 51, 51, 55, 50, 48, 51, 54, 56, 53, 52, 55, 55, 53, 56, 48, 56]
  have HGPH := Lib.hid HGP
  have HGNH := Lib.hid HGN
  clear HGP HGN
  have HNO := Lib.hid (fun (h : P.digits? s = false) => rint_no (w := w) (P.okR_no h))
  have HNX := Lib.hid (fun (h : P.okR s = false) => rint_no (w := w) h)
  have HS := Lib.hid (P.sgn_bt s)
  have HE := Lib.hid (fun h => P.digits_empty (s := s) h)
  have HD := Lib.hid (fun h => P.digits_at (s := s) h)
  have HB := Lib.hid (show P.body s = if P.sgn? s = true then s.drop 1 else s from rfl)
  have HDG := Lib.hid (show P.dg s = P.strip0 (P.body s) from rfl)
  have hneg : P.neg? s = decide (s ≠ [] ∧ bt s 0 = 45) := by
    cases s with
    | nil => simp [P.neg?]
    | cons c r => unfold P.neg?; rw [P.head_cons]; simp [bt]; omega
  have HYES := Lib.hid (fun (h : P.okR s = true) N d (hN : P.neg? s = N) (hd : P.dg s = d) => rint_yes (w := w) h hN hd)
  have HOV := Lib.hid (fun N d (hD : P.digits? s = true) (hN : P.neg? s = N) (hd : P.dg s = d) (hl : d.length ≤ 1000000) => over_cases hD hN hd hl)
  have hsplit : (P.body s = s.drop 1 ∧ s ≠ [] ∧ (bt s 0 = 43 ∨ bt s 0 = 45)) ∨ (P.body s = s ∧ (s = [] ∨ (s ≠ [] ∧ ¬ bt s 0 = 43 ∧ ¬ bt s 0 = 45))) := by
    have h1 := HS.out
    have h2 := HB.out
    cases hS : P.sgn? s with
    | true =>
      rw [hS] at h1 h2
      have := of_decide_eq_true h1.symm
      exact .inl ⟨by simpa using h2, this.1, this.2⟩
    | false =>
      rw [hS] at h1 h2
      have := of_decide_eq_false h1.symm
      refine .inr ⟨by simpa using h2, ?_⟩
      by_cases hs : s = []
      · exact .inl hs
      · exact .inr ⟨hs, fun h => this ⟨hs, .inl h⟩, fun h => this ⟨hs, .inr h⟩⟩
  clear HS HB
  have hcases : (s = [] ∧ P.body s = []) ∨ (s.isEmpty = false ∧ 0 < s.length ∧ ∃ b : List UInt8, P.body s = b ∧ b.length ≤ 1000000 ∧ ((cut s 1 s.length = b ∧ (bt s 0 == 45) = true ∧ P.neg? s = true) ∨ (cut s 1 s.length = b ∧ (bt s 0 == 45) = false ∧ (bt s 0 == 43) = true ∧ P.neg? s = false) ∨ (b = s ∧ (bt s 0 == 45) = false ∧ (bt s 0 == 43) = false ∧ P.neg? s = false))) := by
    rcases hsplit with ⟨h2, h3, h4⟩ | ⟨h2, h3⟩
    · have hemp : s.isEmpty = false := by cases s; simp at h3; rfl
      have hpos : 0 < s.length := by cases s; simp at h3; simp
      refine .inr ⟨hemp, hpos, s.drop 1, h2, by simp; omega, ?_⟩
      rcases h4 with h4 | h4
      · exact .inr (.inl ⟨by rw [cut_end], by rw [h4]; rfl, by rw [h4]; rfl, by rw [hneg]; simp [h4]⟩)
      · exact .inl ⟨by rw [cut_end], by rw [h4]; rfl, by rw [hneg]; simp [h3, h4]⟩
    · rcases h3 with h3 | ⟨h3, h4, h5⟩
      · exact .inl ⟨h3, by rw [h2, h3]⟩
      · have hemp : s.isEmpty = false := by cases s; simp at h3; rfl
        have hpos : 0 < s.length := by cases s; simp at h3; simp
        exact .inr ⟨hemp, hpos, s, h2, hl, .inr (.inr ⟨rfl, by simpa using h5, by simpa using h4, by rw [hneg]; simp [h5]⟩)⟩
  clear hsplit hneg
  generalize P.digits? s = D at *
  generalize P.dg s = G at *
  generalize P.okR s = OK at *
  generalize P.neg? s = NG at *
  rcases hcases with ⟨rfl, hb⟩ | ⟨hemp, hpos, b, hb, hbl, hcases⟩
  · have HR := Lib.hid (HNO.out (HE.out hb))
    clear hb HNO HNX HE HD HDG HYES HOV HGPH HGNH
    go_enter Tryz.func46, Tryz.ntmps46
    go_wp2
    go_ret3
    exact HR.out
  rw [hb] at HE HD HDG
  clear hb
  by_cases hbe : b = []
  · have HR := Lib.hid (HNO.out (HE.out hbe))
    have be : b.isEmpty = true := by rw [hbe]; rfl
    clear hbe HNO HNX HE HD HDG HYES HOV HGPH HGNH
    rcases hcases with ⟨hcut, q1, -⟩ | ⟨hcut, q1, q2, -⟩ | ⟨rfl, q1, q2, -⟩
    · go_enter Tryz.func46, Tryz.ntmps46
      go_wp2
      go_ret3
      exact HR.out
    · go_enter Tryz.func46, Tryz.ntmps46
      go_wp2
      go_ret3
      exact HR.out
    · rw [be] at hemp; cases hemp
  have be : b.isEmpty = false := by cases h : b; exact absurd h hbe; rfl
  have HD0 := Lib.hid (HD.out hbe)
  have HBP := Lib.hid (show 0 < b.length from List.length_pos_iff.2 hbe)
  clear hbe HE HD
  rcases hcases with ⟨hcut, q1, hN⟩ | ⟨hcut, q1, q2, hN⟩ | ⟨rfl, q1, q2, hN⟩
  all_goals
    have HN := Lib.hid hN
    clear hN
    go_enter Tryz.func46, Tryz.ntmps46
    go_wp2
    go_loop [6] (fun i => ∃ k : Nat, k ≤ b.length ∧ i = .int .i64 k ∧ Hid (P.digAt b k = D)) (fun i => b.length - (intOf i).toNat)
    case atStart => exact ⟨0, by omega, rfl, HD0.out.symm⟩
    case round =>
      obtain ⟨k, hk, rfl, HK⟩ := hrel
      by_cases hlt : k < b.length
      · have k0 : (0 : Int) ≤ (k : Int) := by omega
        have k1 : (k : Int) < (b.length : Int) := by omega
        have HNO2 := Lib.hid (fun h => HNO.out (by rw [← HK.out]; exact P.digAt_no (l := b) hlt h))
        have HYES2 := Lib.hid (fun h h' => P.digAt_yes (l := b) hlt h h')
        have hb0 := bt_nonneg b k
        have hb1 := bt_le b k
        by_cases h5 : bt b k < 48
        · have HR := Lib.hid (HNO2.out (.inl h5))
          have g5 : (bt b k < 48) = True := eq_true h5
          clear h5
          go_wp2
          go_ret3
          exact HR.out
        · by_cases h6 : 57 < bt b k
          · have HR := Lib.hid (HNO2.out (.inr h6))
            have g5 : (bt b k < 48) = False := eq_false h5
            have g6 : (57 < bt b k) = True := eq_true h6
            clear h5 h6
            go_wp2
            go_ret3
            exact HR.out
          · have g5 : (bt b k < 48) = False := eq_false h5
            have g6 : (57 < bt b k) = False := eq_false h6
            have HF := Lib.hid (show P.digAt b (k + 1) = D by rw [← HK.out, HYES2.out h5 h6])
            clear h5 h6
            go_wp2
            go_round
            case rel => exact ⟨k + 1, by omega, by go_num, HF.out⟩
            case measure => simp [intOf]; omega
      · have HDT := Lib.hid (show D = true by rw [← HK.out]; unfold P.digAt; rw [List.drop_eq_nil_of_le (by omega)]; rfl)
        clear HNO HK
        go_wp2
        go_loop [0] (fun v => ∃ d : List UInt8, v = .string ⟨d.toArray⟩ ∧ d.length ≤ 1000000 ∧ 0 < d.length ∧ Hid (P.strip0 d = G)) (fun v => sLen v)
        case atStart => exact ⟨b, rfl, hbl, HBP.out, HDG.out.symm⟩
        case round =>
          obtain ⟨d, rfl, hdl, hd0, HSD⟩ := hrel
          have hdc : (1 < d.length ∧ (bt d 0 == 48) = true) ∨ (((1 : Int) < (d.length : Int)) = False ∧ G = d) ∨ (((1 : Int) < (d.length : Int)) = True ∧ (bt d 0 == 48) = false ∧ G = d) := by
            by_cases h1 : 1 < d.length
            · cases h2 : (bt d 0 == 48) with
              | true => exact .inl ⟨h1, rfl⟩
              | false => exact .inr (.inr ⟨eq_true (by omega), rfl, by rw [← HSD.out, P.strip0_stop h1 h2]⟩)
            · exact .inr (.inl ⟨eq_false (by omega), by rw [← HSD.out, P.strip0_one h1]⟩)
          rcases hdc with ⟨h1, h2⟩ | hdc
          · have h1' : ((1 : Int) < (d.length : Int)) = True := eq_true (by omega)
            have hcd : cut d 1 d.length = d.drop 1 := cut_end d 1
            have hx : (d.drop 1).length = d.length - 1 := List.length_drop
            have HF := Lib.hid (show P.strip0 (d.drop 1) = G by rw [← HSD.out, P.strip0_go h1 h2])
            generalize d.drop 1 = d1 at *
            have HL := Lib.hid (show d1.length < d.length ∧ 0 < d1.length ∧ d1.length ≤ 1000000 by omega)
            clear hx h1
            go_wp2
            go_round
            case rel => exact ⟨d1, rfl, HL.out.2.2, HL.out.2.1, HF.out⟩
            case measure => rw [sLen_of, sLen_of]; exact HL.out.1
          · have hDG : G = d := by rcases hdc with ⟨_, h⟩ | ⟨_, _, h⟩ <;> exact h
            have HOV2 := HOV.out _ d HDT.out HN.out hDG hdl
            have HY := Lib.hid (fun h => HYES.out h _ d HN.out hDG)
            have hgp := fun t => HGPH.out t d
            have hgn := fun t => HGNH.out t d
            have hdc2 : (((1 : Int) < (d.length : Int)) = False) ∨ (((1 : Int) < (d.length : Int)) = True ∧ (bt d 0 == 48) = false) := by
              rcases hdc with ⟨h, _⟩ | ⟨h, h', _⟩
              · exact .inl h
              · exact .inr ⟨h, h'⟩
            clear hdc hDG HSD HYES HOV
            unfold P.most P.mostN P.mostP at HOV2
            simp only [if_true, Bool.false_eq_true, if_false] at HOV2
            rcases hdc2 with w1 | ⟨w1, w2⟩
            all_goals
              rcases HOV2 with ⟨o1, o2⟩ | ⟨o1, o2, o3, o4⟩ | ⟨o1, o2, o3, o4⟩ | ⟨o1, o2, o3⟩
              · have HR := Lib.hid (HNX.out o2)
                clear o2
                go_wp2
                go_ret3
                exact HR.out
              · have HR := Lib.hid (HNX.out o4)
                clear o4
                go_wp2
                go_ret3
                exact HR.out
              · have HR := Lib.hid (HY.out o4)
                clear o4
                go_wp2
                go_ret3
                exact HR.out
              · have HR := Lib.hid (HY.out o3)
                clear o3
                go_wp2
                go_ret3
                exact HR.out
end W
end Go.Proofs.YtmccfdmnidbalaaGreatDoor
