/- Chapter 29: the law TestexprNumbers, walked. -/
import Derived.Test.YtmccfdmnidbalaaDoorW29s
namespace Go.Proofs.YtmccfdmnidbalaaDoor
open Go.RowKit K
namespace P
theorem bin3_num {s t : Str} {a b : Int} (op : Str) (ho : text? op = false) (hs : intP s = some a) (ht : intP t = some b) : bin3 s op t = (cmpV op a b, 0) := by
  have n1 : ¬ op = [61] ∧ ¬ op = [33, 61] := by unfold text? at ho; simp at ho; exact ho
  unfold bin3 binI binV
  rw [ho, hs, ht, if_neg n1.1, if_neg n1.2]
  simp
end P
namespace W
theorem cut_zeros (k : Nat) (h : k ≤ 8) : cut [48, 48, 48, 48, 48, 48, 48, 48] 0 k = List.replicate k 48 := by
  have : ∀ k, k ≤ 8 → cut [48, 48, 48, 48, 48, 48, 48, 48] 0 k = List.replicate k 48 := by decide
  exact this k h
set_option maxHeartbeats 4000000 in
set_option maxRecDepth 100000 in
theorem TestexprNumbers_any (a : Int) (ha : (Lit.int .i64 a).wf = true) (b : Int) (hb : (Lit.int .i64 b).wf = true) (z : Int) (hz : (Lit.int .u8 z).wf = true) (w : World) (hw : Env w) :
    Calls Tryd.prog 5 #[.int .i64 a, .int .i64 b, .int .u8 z] w fun e w' => e = .returned (.bool true) ∧ Below w.heap.size w w' := by
  obtain ⟨a0, a1⟩ : -9223372036854775808 ≤ a ∧ a ≤ 9223372036854775807 := by simpa [Lit.wf, IntKind.min, IntKind.max, IntKind.signed, IntKind.bits] using ha
  obtain ⟨b0, b1⟩ : -9223372036854775808 ≤ b ∧ b ≤ 9223372036854775807 := by simpa [Lit.wf, IntKind.min, IntKind.max, IntKind.signed, IntKind.bits] using hb
  obtain ⟨z0, z1⟩ : 0 ≤ z ∧ z ≤ 255 := by simpa [Lit.wf, IntKind.min, IntKind.max, IntKind.signed, IntKind.bits] using hz
  have HA := Lib.hid (fun w' (hb : Below w.heap.size w w') => awake_any w' (hw.below hb))
  have HEV := Lib.hid (fun s op t (ho : P.isBin op = true) (h1 : s.length ≤ 1000000) (h2 : t.length ≤ 1000000) w' (hb : Below w.heap.size w w') => eval_any w' s op t (hw.below hb) ho h1 h2)
  unfold EPost at HEV
  have HDA := Lib.hid (Decimal_any a w a0 a1)
  have HDB := Lib.hid (fun w' => Decimal_any b w' b0 b1)
  obtain ⟨k, hk⟩ : ∃ k : Nat, z % 9 = (k : Int) := ⟨(z % 9).toNat, by omega⟩
  have hk8 : k ≤ 8 := by omega
  have t1 : z.tmod 9 = (k : Int) := by rw [Int.tmod_eq_emod_of_nonneg z0]; exact hk
  have hlA := P.decI_len a
  have hlB := P.decI_len b
  have HIB := Lib.hid (P.int_decI b0 b1)
  have HIA := Lib.hid (P.int_decI a0 a1)
  have HIP := Lib.hid (fun h => P.int_plus k h a1)
  have hcut := cut_zeros k hk8
  obtain ⟨zs, hzs⟩ : ∃ zs, List.replicate k (48 : UInt8) = zs := ⟨_, rfl⟩
  have hzl : zs.length = k := by rw [← hzs]; simp
  rw [hzs] at hcut HIP
  generalize P.decI a = DA at *
  generalize P.decI b = DB at *
  have HZL := Lib.hid hzl
  have hzl8 : zs.length ≤ 8 := by omega
  clear hzs ha hb hz hw hzl
  by_cases hneg : a < 0
  · have g0 : ((0 : Int) ≤ a) = False := eq_false (by omega)
    have HL := Lib.hid (show P.bin3 DA [45, 108, 116] DB = (decide (a < b), 0) from P.bin3_num _ rfl HIA.out HIB.out)
    have HQ := Lib.hid (show P.bin3 DA [45, 101, 113] DB = (decide (a = b), 0) from P.bin3_num _ rfl HIA.out HIB.out)
    have HM := Lib.hid (show P.bin3 DB [45, 108, 101] DA = (decide (b ≤ a), 0) from P.bin3_num _ rfl HIB.out HIA.out)
    have E1 := Lib.hid (fun w' hb => HEV.out DA [45, 108, 116] DB rfl (by omega) (by omega) w' hb)
    have E2 := Lib.hid (fun w' hb => HEV.out DA [45, 101, 113] DB rfl (by omega) (by omega) w' hb)
    have E3 := Lib.hid (fun w' hb => HEV.out DB [45, 108, 101] DA rfl (by omega) (by omega) w' hb)
    rw [HL.out] at E1
    rw [HQ.out] at E2
    rw [HM.out] at E3
    clear HL HQ HM HEV HIA HIB HIP hneg
    have htri : ((a < b) = True ∧ (a == b) = false ∧ (b ≤ a) = False) ∨ ((a < b) = False ∧ (a == b) = true ∧ (b ≤ a) = True) ∨ ((a < b) = False ∧ (a == b) = false ∧ (b ≤ a) = True) := by
      rcases Int.lt_trichotomy a b with h | h | h
      · exact .inl ⟨eq_true h, by simp; omega, eq_false (by omega)⟩
      · exact .inr (.inl ⟨eq_false (by omega), by simp; omega, eq_true (by omega)⟩)
      · exact .inr (.inr ⟨eq_false (by omega), by simp; omega, eq_true (by omega)⟩)
    have HTRI : Hid ((decide (a < b) = true ∧ decide (a = b) = false ∧ decide (b ≤ a) = false) ∨ (decide (a < b) = false ∧ decide (a = b) = true ∧ decide (b ≤ a) = true) ∨ (decide (a < b) = false ∧ decide (a = b) = false ∧ decide (b ≤ a) = true)) := by
      rcases Int.lt_trichotomy a b with h | h | h
      · exact .inl ⟨decide_eq_true h, decide_eq_false (by omega), decide_eq_false (by omega)⟩
      · exact .inr (.inl ⟨decide_eq_false (by omega), decide_eq_true h, decide_eq_true (by omega)⟩)
      · exact .inr (.inr ⟨decide_eq_false (by omega), decide_eq_false (by omega), decide_eq_true (by omega)⟩)
    rcases htri with ⟨q1, q2, q3⟩ | ⟨q1, q2, q3⟩ | ⟨q1, q2, q3⟩
    all_goals
      have r1 : decide (a < b) = decide (a < b) := rfl
      simp only [q1, q3] at E1 E3
      have hq2 : decide (a = b) = (a == b) := by rw [Bool.eq_iff_iff]; simp
      rw [hq2, q2] at E2
      clear hq2 r1 HTRI
      go_enter Tryd.func5, Tryd.ntmps5
      go_wp2_with fail
      refine HDA.out.mono ?_
      rintro e w1 ⟨rfl, hb1⟩
      have HB1 := Lib.hid hb1
      clear hb1
      go_wp2_with fail
      refine (HDB.out w1).mono ?_
      rintro e w2 ⟨rfl, hb2⟩
      have HB2 := Lib.hid (btr HB1.out hb2)
      clear hb2
      go_wp2_with fail
      refine (E1.out w2 HB2.out).mono ?_
      rintro e w3 ⟨rfl, hb3⟩
      have HB3 := Lib.hid (btr HB2.out hb3)
      clear hb3
      go_wp2_with fail
      refine (E2.out w3 HB3.out).mono ?_
      rintro e w4 ⟨rfl, hb4⟩
      have HB4 := Lib.hid (btr HB3.out hb4)
      clear hb4
      go_wp2_with fail
      refine (E3.out w4 HB4.out).mono ?_
      rintro e w5 ⟨rfl, hb5⟩
      have HB5 := Lib.hid (btr HB4.out hb5)
      clear hb5
      go_wp2_with fail
      refine (HA.out w5 HB5.out).mono ?_
      rintro e w6 ⟨rfl, hb6⟩
      have HB6 := Lib.hid (btr HB5.out hb6)
      clear hb6
      go_wp2
      go_ret
      exact ⟨rfl, HB6.out⟩
  · have g0 : ((0 : Int) ≤ a) = True := eq_true (by omega)
    have HIS := Lib.hid (HIP.out (by omega))
    have hlS : (43 :: (zs ++ DA)).length ≤ 1000000 := by simp; omega
    have HL := Lib.hid (show P.bin3 (43 :: (zs ++ DA)) [45, 108, 116] DB = (decide (a < b), 0) from P.bin3_num _ rfl HIS.out HIB.out)
    have HQ := Lib.hid (show P.bin3 (43 :: (zs ++ DA)) [45, 101, 113] DB = (decide (a = b), 0) from P.bin3_num _ rfl HIS.out HIB.out)
    have HM := Lib.hid (show P.bin3 DB [45, 108, 101] (43 :: (zs ++ DA)) = (decide (b ≤ a), 0) from P.bin3_num _ rfl HIB.out HIS.out)
    have E1 := Lib.hid (fun w' hb => HEV.out (43 :: (zs ++ DA)) [45, 108, 116] DB rfl hlS (by omega) w' hb)
    have E2 := Lib.hid (fun w' hb => HEV.out (43 :: (zs ++ DA)) [45, 101, 113] DB rfl hlS (by omega) w' hb)
    have E3 := Lib.hid (fun w' hb => HEV.out DB [45, 108, 101] (43 :: (zs ++ DA)) rfl (by omega) hlS w' hb)
    rw [HL.out] at E1
    rw [HQ.out] at E2
    rw [HM.out] at E3
    clear HL HQ HM HEV HIA HIB HIP HIS hneg hlS
    have htri : ((a < b) = True ∧ (a == b) = false ∧ (b ≤ a) = False) ∨ ((a < b) = False ∧ (a == b) = true ∧ (b ≤ a) = True) ∨ ((a < b) = False ∧ (a == b) = false ∧ (b ≤ a) = True) := by
      rcases Int.lt_trichotomy a b with h | h | h
      · exact .inl ⟨eq_true h, by simp; omega, eq_false (by omega)⟩
      · exact .inr (.inl ⟨eq_false (by omega), by simp; omega, eq_true (by omega)⟩)
      · exact .inr (.inr ⟨eq_false (by omega), by simp; omega, eq_true (by omega)⟩)
    have HTRI : Hid ((decide (a < b) = true ∧ decide (a = b) = false ∧ decide (b ≤ a) = false) ∨ (decide (a < b) = false ∧ decide (a = b) = true ∧ decide (b ≤ a) = true) ∨ (decide (a < b) = false ∧ decide (a = b) = false ∧ decide (b ≤ a) = true)) := by
      rcases Int.lt_trichotomy a b with h | h | h
      · exact .inl ⟨decide_eq_true h, decide_eq_false (by omega), decide_eq_false (by omega)⟩
      · exact .inr (.inl ⟨decide_eq_false (by omega), decide_eq_true h, decide_eq_true (by omega)⟩)
      · exact .inr (.inr ⟨decide_eq_false (by omega), decide_eq_false (by omega), decide_eq_true (by omega)⟩)
    rcases htri with ⟨q1, q2, q3⟩ | ⟨q1, q2, q3⟩ | ⟨q1, q2, q3⟩
    all_goals
      have r1 : decide (a < b) = decide (a < b) := rfl
      simp only [q1, q3] at E1 E3
      have hq2 : decide (a = b) = (a == b) := by rw [Bool.eq_iff_iff]; simp
      rw [hq2, q2] at E2
      clear hq2 r1 HTRI
      go_enter Tryd.func5, Tryd.ntmps5
      go_wp2_with fail
      refine HDA.out.mono ?_
      rintro e w1 ⟨rfl, hb1⟩
      have HB1 := Lib.hid hb1
      clear hb1
      go_wp2_with fail
      refine (HDB.out w1).mono ?_
      rintro e w2 ⟨rfl, hb2⟩
      have HB2 := Lib.hid (btr HB1.out hb2)
      clear hb2
      go_wp2_with fail
      refine (E1.out w2 HB2.out).mono ?_
      rintro e w3 ⟨rfl, hb3⟩
      have HB3 := Lib.hid (btr HB2.out hb3)
      clear hb3
      go_wp2_with fail
      refine (E2.out w3 HB3.out).mono ?_
      rintro e w4 ⟨rfl, hb4⟩
      have HB4 := Lib.hid (btr HB3.out hb4)
      clear hb4
      go_wp2_with fail
      refine (E3.out w4 HB4.out).mono ?_
      rintro e w5 ⟨rfl, hb5⟩
      have HB5 := Lib.hid (btr HB4.out hb5)
      clear hb5
      go_wp2_with fail
      refine (HA.out w5 HB5.out).mono ?_
      rintro e w6 ⟨rfl, hb6⟩
      have HB6 := Lib.hid (btr HB5.out hb6)
      clear hb6
      go_wp2
      go_ret
      exact ⟨rfl, HB6.out⟩
end W
end Go.Proofs.YtmccfdmnidbalaaDoor
