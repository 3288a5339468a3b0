/- Chapter 9: AliasOne, walked. -/
import Derived.Test.YtelhobphphkidaaGreatDoorV09
import Derived.Test.YtelhobphphkidaaGreatDoorP09o
import Derived.Test.YtelhobphphkidaaGreatDoorR09
import Derived.Test.YtelhobphphkidaaGreatDoorW09x
namespace Go.Proofs.YtelhobphphkidaaGreatDoor
open Go.RowKit K
namespace W
theorem one_as (V : World) (n v : List UInt8) : AS (V.alloc (.cells #[.string ⟨n.toArray⟩, .string ⟨v.toArray⟩] 47)) (.slice (some ⟨V.heap.size, 0, none⟩) 1 1) [(n, v)] := by
  have h := al_new V (.cells #[.string ⟨n.toArray⟩, .string ⟨v.toArray⟩] 47)
  refine ⟨_, 1, rfl, by simp, by unfold maxLen; omega, fun k a ha => ?_⟩
  match k, ha with
  | 0, ha =>
    simp at ha
    subst ha
    exact ⟨V.heap.size, 0, rfl, by simp, Lib.cell_of_heap h 0, Lib.cell_of_heap h 1⟩
  | k + 1, ha => simp at ha
set_option maxRecDepth 100000 in
set_option maxHeartbeats 2000000 in
theorem AliasOne_any (n q : List UInt8) (w : World) :
    Calls Tryz.prog 8 #[.string ⟨n.toArray⟩, .string ⟨q.toArray⟩] w fun e w' => e = .returned (.bool true) ∧ Below w.heap.size w w' := by
  by_cases hc : n.length ≤ 200 ∧ q.length ≤ 200
  case neg =>
    have HA := Lib.hid (awake_any w)
    have hcc : 200 < n.length ∨ (n.length ≤ 200 ∧ 200 < q.length) := by omega
    clear hc
    rcases hcc with h | ⟨h, h2⟩
    · have h1 : ((200 : Int) < (n.length : Int)) = True := eq_true (by omega)
      go_enter Tryz.func8, Tryz.ntmps8
      go_wp2_with fail
      refine HA.out.mono ?_
      rintro e w2 ⟨rfl, hb⟩
      have HB2 := Lib.hid hb
      clear hb
      go_wp2
      go_ret
      exact ⟨rfl, HB2.out⟩
    · have h1 : ((200 : Int) < (n.length : Int)) = False := eq_false (by omega)
      have h3 : ((200 : Int) < (q.length : Int)) = True := eq_true (by omega)
      go_enter Tryz.func8, Tryz.ntmps8
      go_wp2_with fail
      refine HA.out.mono ?_
      rintro e w2 ⟨rfl, hb⟩
      have HB2 := Lib.hid hb
      clear hb
      go_wp2
      go_ret
      exact ⟨rfl, HB2.out⟩
  obtain ⟨hn, hq⟩ := hc
  have h1 : ((200 : Int) < (n.length : Int)) = False := eq_false (by omega)
  have h2 : ((200 : Int) < (q.length : Int)) = False := eq_false (by omega)
  have HQ := Lib.hid (Quote_ref q w (by omega))
  have hvl := P.quote_le q
  have HSZ := Lib.hid (And.intro hn hq)
  have HX := Lib.hid (fun (hv : AL.valid [(n, P.quote q)] = 0) (hr : AL.resB (P.quote q) = false) => AX.one_expand hv hr (by omega) hn)
  obtain ⟨v, hv⟩ : ∃ v, P.quote q = v := ⟨_, rfl⟩
  rw [hv] at HQ HX hvl
  have HVL := Lib.hid (show v.length ≤ 802 by omega)
  have HR := Lib.hid (Reserved_ref v w)
  obtain ⟨r, hr⟩ : ∃ r, AL.resB v = r := ⟨_, rfl⟩
  rw [hr] at HR HX
  clear hn hq hvl hv hr
  cases r with
  | true =>
    have HA := Lib.hid (awake_any w)
    go_enter Tryz.func8, Tryz.ntmps8
    go_wp2_with fail
    refine HQ.out.mono ?_
    rintro e w2 ⟨rfl, rfl⟩
    go_wp2_with fail
    refine HR.out.mono ?_
    rintro e w2 ⟨rfl, rfl⟩
    go_wp2_with fail
    refine HA.out.mono ?_
    rintro e w2 ⟨rfl, hb⟩
    have HB2 := Lib.hid hb
    clear hb
    go_wp2
    go_ret
    exact ⟨rfl, HB2.out⟩
  | false =>
    obtain ⟨V, hV⟩ : ∃ V, V = w.alloc (.cells #[.string ⟨n.toArray⟩, .string ⟨v.toArray⟩] 47) := ⟨_, rfl⟩
    have HAS := Lib.hid (show AS V (.slice (some ⟨w.heap.size, 0, none⟩) 1 1) [(n, v)] by rw [hV]; exact one_as w n v)
    have HB0 := Lib.hid (show Below w.heap.size w V by rw [hV]; exact balloc _ _)
    have hz : ∀ a ∈ [(n, v)], a.1.length ≤ 10000 ∧ a.2.length ≤ 10000 := fun a ha => by
      simp at ha
      subst ha
      have := HSZ.out
      have := HVL.out
      dsimp only
      omega
    have HVA := Lib.hid (Valid_any [(n, v)] _ V HAS.out hz)
    have HVR := Lib.hid (fun W (h : AS W (.slice (some ⟨w.heap.size, 0, none⟩) 1 1) [(n, v)]) => Valid_ref [(n, v)] _ W h hz)
    have HZ := Lib.hid hz
    have HV := Lib.hid hV
    obtain ⟨x, hx⟩ : ∃ x, AL.valid [(n, v)] = x := ⟨_, rfl⟩
    rw [hx] at HVA HVR HX
    clear hV hz hx
    by_cases h0 : x = 0
    case neg =>
      have hx1 : (x == 0) = false := by rw [beq_eq_false_iff_ne]; exact h0
      have hx2 : (x != 0) = true := by simp [bne, hx1]
      clear HX h0
      go_enter Tryz.func8, Tryz.ntmps8
      go_wp2_with fail
      refine HQ.out.mono ?_
      rintro e w2 ⟨rfl, rfl⟩
      go_wp2_with fail
      refine HR.out.mono ?_
      rintro e w2 ⟨rfl, rfl⟩
      go_wp2_with fail
      rw [← HV.out]
      refine HVA.out.mono ?_
      rintro e w2 ⟨rfl, hb⟩
      have HB2 := Lib.hid (btr HB0.out hb)
      have HR2 := Lib.hid (HVR.out w2 (HAS.out.go hb))
      clear hb HVA HVR
      go_wp2_with fail
      refine HR2.out.mono ?_
      rintro e w3 ⟨rfl, hb⟩
      have HB3 := Lib.hid (btr HB2.out hb)
      have HA := Lib.hid (awake_any w3)
      clear hb
      go_wp2_with fail
      refine HA.out.mono ?_
      rintro e w4 ⟨rfl, hb⟩
      have HB4 := Lib.hid (btr HB3.out hb)
      clear hb
      go_wp2
      go_ret
      exact ⟨rfl, HB4.out⟩
    subst h0
    have HEX := Lib.hid (fun W (h : AS W (.slice (some ⟨w.heap.size, 0, none⟩) 1 1) [(n, v)]) => Expand_any [(n, v)] (AX.oneS n) (AX.oneT n v, 0) 12 (some ⟨w.heap.size, 0, none⟩) 1 W h HZ.out (by have := HSZ.out; unfold AX.oneS; simp; omega) (by decide) (HX.out rfl rfl))
    have z1 := HSZ.out.1
    have z2 := HVL.out
    obtain ⟨p1, e1⟩ : ∃ p, n ++ [32] = p := ⟨_, rfl⟩
    obtain ⟨p2, e2⟩ : ∃ p, p1 ++ n = p := ⟨_, rfl⟩
    obtain ⟨p3, e3⟩ : ∃ p, p2 ++ [10] = p := ⟨_, rfl⟩
    obtain ⟨p4, e4⟩ : ∃ p, p3 ++ n = p := ⟨_, rfl⟩
    obtain ⟨p5, e5⟩ : ∃ p, p4 ++ [59] = p := ⟨_, rfl⟩
    have e6 : p5 ++ n = AX.oneS n := by rw [← e5, ← e4, ← e3, ← e2, ← e1]; unfold AX.oneS; simp
    obtain ⟨r1, f1⟩ : ∃ p, v ++ [32] = p := ⟨_, rfl⟩
    obtain ⟨r2, f2⟩ : ∃ p, r1 ++ n = p := ⟨_, rfl⟩
    obtain ⟨r3, f3⟩ : ∃ p, r2 ++ [10] = p := ⟨_, rfl⟩
    obtain ⟨r4, f4⟩ : ∃ p, r3 ++ v = p := ⟨_, rfl⟩
    obtain ⟨r5, f5⟩ : ∃ p, r4 ++ [59] = p := ⟨_, rfl⟩
    have f6 : r5 ++ v = AX.oneT n v := by rw [← f5, ← f4, ← f3, ← f2, ← f1]; unfold AX.oneT; simp
    have l1 : p1.length = n.length + 1 := by rw [← e1]; simp
    have l2 : p2.length = 2 * n.length + 1 := by rw [← e2]; simp; omega
    have l3 : p3.length = 2 * n.length + 2 := by rw [← e3]; simp; omega
    have l4 : p4.length = 3 * n.length + 2 := by rw [← e4]; simp; omega
    have l5 : p5.length = 3 * n.length + 3 := by rw [← e5]; simp; omega
    have m1 : r1.length = v.length + 1 := by rw [← f1]; simp
    have m2 : r2.length = v.length + 1 + n.length := by rw [← f2]; simp; omega
    have m3 : r3.length = v.length + 2 + n.length := by rw [← f3]; simp; omega
    have m4 : r4.length = 2 * v.length + 2 + n.length := by rw [← f4]; simp; omega
    have m5 : r5.length = 2 * v.length + 3 + n.length := by rw [← f5]; simp; omega
    have a1 := str_add n [32] p1 e1 (by omega) (by decide)
    have a2 := str_add p1 n p2 e2 (by omega) (by omega)
    have a3 := str_add p2 [10] p3 e3 (by omega) (by decide)
    have a4 := str_add p3 n p4 e4 (by omega) (by omega)
    have a5 := str_add p4 [59] p5 e5 (by omega) (by decide)
    have a6 := str_add p5 n (AX.oneS n) e6 (by omega) (by omega)
    have b1 := str_add v [32] r1 f1 (by omega) (by decide)
    have b2 := str_add r1 n r2 f2 (by omega) (by omega)
    have b3 := str_add r2 [10] r3 f3 (by omega) (by decide)
    have b4 := str_add r3 v r4 f4 (by omega) (by omega)
    have b5 := str_add r4 [59] r5 f5 (by omega) (by decide)
    have b6 := str_add r5 v (AX.oneT n v) f6 (by omega) (by omega)
    clear HX z1 z2 e1 e2 e3 e4 e5 e6 f1 f2 f3 f4 f5 f6 l1 l2 l3 l4 l5 m1 m2 m3 m4 m5
    obtain ⟨SS, hSS⟩ : ∃ SS, AX.oneS n = SS := ⟨_, rfl⟩
    obtain ⟨TT, hTT⟩ : ∃ TT, AX.oneT n v = TT := ⟨_, rfl⟩
    rw [hSS, hTT] at HEX
    rw [hSS] at a6
    rw [hTT] at b6
    clear hSS hTT
    go_enter Tryz.func8, Tryz.ntmps8
    go_wp2_with fail
    refine HQ.out.mono ?_
    rintro e w2 ⟨rfl, rfl⟩
    go_wp2_with fail
    refine HR.out.mono ?_
    rintro e w2 ⟨rfl, rfl⟩
    go_wp2_with fail
    rw [← HV.out]
    refine HVA.out.mono ?_
    rintro e w2 ⟨rfl, hb⟩
    have HB2 := Lib.hid (btr HB0.out hb)
    have HE2 := Lib.hid (HEX.out w2 (HAS.out.go hb))
    clear hb HVA HVR HEX
    go_wp2_with fail
    refine HE2.out.mono ?_
    rintro e w3 ⟨rfl, hb⟩
    have HB3 := Lib.hid (btr HB2.out hb)
    have HA := Lib.hid (awake_any w3)
    clear hb
    go_wp2_with fail
    refine HA.out.mono ?_
    rintro e w4 ⟨rfl, hb⟩
    have HB4 := Lib.hid (btr HB3.out hb)
    clear hb
    go_wp2
    go_ret
    exact ⟨rfl, HB4.out⟩
end W
end Go.Proofs.YtelhobphphkidaaGreatDoor
