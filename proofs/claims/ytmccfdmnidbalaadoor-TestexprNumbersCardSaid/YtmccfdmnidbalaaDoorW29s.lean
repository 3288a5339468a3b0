/- Chapter 29: decimals of the reference. -/
import Derived.Test.YtmccfdmnidbalaaDoorW29r
import Derived.Test.YtmccfdmnidbalaaDoorP29f
namespace Go.Proofs.YtmccfdmnidbalaaDoor
open Go.RowKit K
namespace W
/-- string([]byte{c}) -/
theorem one_byte (w : World) (c : Int) (h0 : 0 ≤ c) (h1 : c ≤ 255) :
    (convert 49 9 (.slice (some ⟨w.heap.size, 0, none⟩) 1 1)).run Tryd.prog (w.alloc (.cells #[.int .u8 c] 5)) = .ok (.string ⟨[by8 c].toArray⟩) (w.alloc (.cells #[.int .u8 c] 5)) :=
  run_convert_bytes_back (P := Tryd.prog) _ _ _ _ ⟨w.heap.size, 0, none⟩ 1 [by8 c] Tryd.underlying49 Tryd.underlying5 Tryd.underlying9 (fun j hj => by
    have : j = 0 := by simpa using hj
    subst this
    have := by8_toNat c h0 h1
    simp [Addr.add, this])
theorem by8_dg (n : Nat) : by8 (48 + ((n % 10 : Nat) : Int)) = P.dg n := by
  unfold by8 P.dg
  congr 1
set_option maxHeartbeats 1000000 in
theorem digits_any (n : Nat) (w : World) (hn : n ≤ 18446744073709551615) :
    Calls Tryd.prog 17 #[.int .u64 n] w fun e w' => e = .returned (.string ⟨(P.decS n).toArray⟩) ∧ Below w.heap.size w w' := by
  obtain ⟨R, hR⟩ : ∃ R, P.decS n = R := ⟨_, rfl⟩
  rw [hR]
  have HR := Lib.hid (show P.decN 20 n [] = R from hR)
  have HN := Lib.hid (show n < 10 ^ 20 by omega)
  clear hR
  go_enter Tryd.func17, Tryd.ntmps17
  go_wp2
  go_loopw [0, 3] (fun v o wr => ∃ (m f : Nat) (out : List UInt8), v = .int .u64 m ∧ o = .string ⟨out.toArray⟩ ∧ m ≤ 18446744073709551615 ∧ out.length + f ≤ 20 ∧ Below w.heap.size w wr ∧ Hid (1 ≤ f ∧ m < 10 ^ f) ∧ Hid (P.decN f m out = R)) (fun v _ _ => (intOf v).toNat)
  case atStart => exact ⟨n, 20, [], rfl, rfl, hn, by simp, Below.refl _ _, ⟨by omega, HN.out⟩, HR.out⟩
  case round =>
    obtain ⟨m, f, out, rfl, rfl, hm, hol, hbw, HF, HK⟩ := hrel
    have HBw := Lib.hid hbw
    obtain ⟨f1, rfl⟩ : ∃ f1, f = f1 + 1 := ⟨f - 1, by have := HF.out.1; omega⟩
    have hsz := hbw.size
    by_cases h9 : m ≤ 9
    · have g1 : ((9 : Int) < (m : Int)) = False := eq_false (by omega)
      have HG := Lib.hid (show P.dg m :: out = R by rw [← HK.out, P.decN, if_pos h9])
      have hm10 : m % 10 = m := by omega
      have HD := Lib.hid (show by8 (48 + (m : Int)) = P.dg m by have := by8_dg m; rw [hm10] at this; exact this)
      have hcv := one_byte wr (48 + (m : Int)) (by omega) (by omega)
      clear hbw hm10
      go_wp2
      go_ret
      exact ⟨by rw [← HG.out, ← HD.out]; rfl, HBw.out.alloc HBw.out.size _⟩
    · have g1 : ((9 : Int) < (m : Int)) = True := eq_true (by omega)
      have HG := Lib.hid (show P.decN f1 (m / 10) (P.dg m :: out) = R by rw [← HK.out, P.decN, if_neg h9])
      have HD := Lib.hid (by8_dg m)
      have HF1 := Lib.hid (show 1 ≤ f1 ∧ m / 10 < 10 ^ f1 by
        have h2 := HF.out.2
        rw [Nat.pow_succ] at h2
        refine ⟨?_, by omega⟩
        rcases Nat.eq_zero_or_pos f1 with h0 | h0
        · subst h0; simp at h2; omega
        · exact h0)
      have HLQ := Lib.hid (show m / 10 < m by omega)
      obtain ⟨d, hd⟩ : ∃ d, m % 10 = d := ⟨_, rfl⟩
      obtain ⟨q, hq⟩ : ∃ q, m / 10 = q := ⟨_, rfl⟩
      have hd9 : d ≤ 9 := by omega
      have hqm : q ≤ m := by omega
      have t1 : (m : Int).tmod 10 = (d : Int) := by rw [Int.tmod_eq_emod_of_nonneg (by omega)]; omega
      have t2 : (m : Int) % 10 = (d : Int) := by omega
      have t3 : (m : Int).tdiv 10 = (q : Int) := by rw [Int.tdiv_eq_ediv_of_nonneg (by omega)]; omega
      have t4 : (m : Int) / 10 = (q : Int) := by omega
      rw [hd] at HD
      rw [hq] at HG HF1 HLQ
      have hcv := one_byte wr (48 + (d : Int)) (by omega) (by omega)
      have hf1 := HF1.out.1
      clear hbw hd hq h9
      go_wp2
      go_roundw
      case rel => exact ⟨q, f1, P.dg m :: out, by go_num, by rw [← HD.out], by omega, by simp; omega, HBw.out.alloc HBw.out.size _, HF1.out, HG.out⟩
      case measure => simp [intOf]; exact HLQ.out
theorem Decimal_any (a : Int) (w : World) (h0 : -9223372036854775808 ≤ a) (h1 : a ≤ 9223372036854775807) :
    Calls Tryd.prog 11 #[.int .i64 a] w fun e w' => e = .returned (.string ⟨(P.decI a).toArray⟩) ∧ Below w.heap.size w w' := by
  have HD := Lib.hid (fun n w hn => digits_any n w hn)
  have HI := Lib.hid (show P.decI a = if a < 0 then 45 :: P.decS (-a).toNat else P.decS a.toNat from rfl)
  have hlen := P.decI_len a
  generalize P.decI a = R at HI hlen
  by_cases hn : a < 0
  · obtain ⟨n, hn'⟩ : ∃ n : Nat, a = -(n : Int) - 1 := ⟨(-a - 1).toNat, by omega⟩
    subst hn'
    have hnb : n + 1 ≤ 9223372036854775808 := by omega
    have HR := Lib.hid (show R = 45 :: P.decS (n + 1) by rw [HI.out, if_pos hn, show (-(-(n : Int) - 1)).toNat = n + 1 by omega])
    have HDN := Lib.hid (fun w => HD.out (n + 1) w (by omega))
    have hl2 := P.decS_len (n + 1)
    generalize P.decS (n + 1) = D at HR HDN hl2
    have t1 : (-(n : Int) - 1) + 1 = -(n : Int) := by omega
    have t2 : -(-(n : Int)) = (n : Int) := by omega
    clear HI HD hlen
    go_enter Tryd.func11, Tryd.ntmps11
    go_wp2_with fail
    refine (HDN.out _).mono ?_
    rintro e w1 ⟨rfl, hb1⟩
    have HB1 := Lib.hid hb1
    clear hb1
    go_wp2
    go_ret
    exact ⟨by rw [HR.out]; rfl, HB1.out⟩
  · obtain ⟨n, rfl⟩ := Int.eq_ofNat_of_zero_le (show 0 ≤ a by omega)
    have HR := Lib.hid (show R = P.decS n by rw [HI.out, if_neg hn]; rfl)
    have HDN := Lib.hid (fun w => HD.out n w (by omega))
    clear HI HD hlen
    go_enter Tryd.func11, Tryd.ntmps11
    go_wp2_with fail
    refine (HDN.out _).mono ?_
    rintro e w1 ⟨rfl, hb1⟩
    have HB1 := Lib.hid hb1
    clear hb1
    go_wp2
    go_ret
    exact ⟨by rw [HR.out]; rfl, HB1.out⟩
end W
end Go.Proofs.YtmccfdmnidbalaaDoor
