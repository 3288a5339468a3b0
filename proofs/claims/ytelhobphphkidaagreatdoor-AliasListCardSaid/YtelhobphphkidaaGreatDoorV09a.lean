/- Chapter 9: AliasValids, AliasUnsets, walked. -/
import Derived.Test.YtelhobphphkidaaGreatDoorV09
import Derived.IntWalk
namespace Go.Proofs.YtelhobphphkidaaGreatDoor
open Go.RowKit K
namespace AL
theorem few_len {l : List Al} (h : fewB l = true) : l.length ≤ 70 ∧ ∀ a ∈ l, a.1.length ≤ 10000 ∧ a.2.length ≤ 10000 := by
  unfold fewB at h
  rw [Bool.and_eq_true, decide_eq_true_eq, decide_eq_true_eq] at h
  refine ⟨h.1, fun a ha => ?_⟩
  have := tot_mem ha
  omega
theorem low_len (l : List Al) (n : Str) : (low l n).length ≤ l.length := by
  unfold low
  exact (List.takeWhile_prefix _).length_le
theorem unset_len (l : List Al) (n : Str) : (unset l n).1.length ≤ l.length := by
  rw [unset_eq]
  unfold unsetR
  split
  · split
    · exact Nat.le_refl _
    · exact List.length_filter_le _ _
  · exact Nat.le_refl _
theorem set_len (l : List Al) (n v : Str) : (set l n v).1.length ≤ l.length + 1 := by
  rw [set_eq]
  unfold setR
  have h1 : (without l n).length ≤ l.length := List.length_filter_le _ _
  have h2 := low_len (without l n) n
  split
  · split
    · simp
    split
    · simp
    split
    · simp
    · simp
      omega
  · simp
end AL
namespace W
abbrev Sized (l : List AL.Al) : Prop := ∀ a ∈ l, a.1.length ≤ 140737488351232 ∧ a.2.length ≤ 140737488351232
set_option maxRecDepth 100000 in
set_option maxHeartbeats 1000000 in
theorem AliasValids_any (v : Value) (l : List AL.Al) (w : World) (hV : TV w v l) (hz : Sized l) :
    Calls Tryz.prog 3 #[v] w fun e w' => e = .returned (.bool true) ∧ Below w.heap.size w w' := by
  obtain ⟨A, c, rfl⟩ := hV.val
  have HF := Lib.hid (few_any l _ w hV.as hz)
  have HV := Lib.hid hV
  clear hV hz
  obtain ⟨f, hf⟩ : ∃ f, AL.fewB l = f := ⟨_, rfl⟩
  rw [hf] at HF
  cases f with
  | false =>
    go_enter Tryz.func3, Tryz.ntmps3
    go_wp2_with fail
    refine HF.out.mono ?_
    rintro e w1 ⟨rfl, hb⟩
    have HB := Lib.hid hb
    have HA := Lib.hid (awake_any w1)
    clear hb
    go_wp2_with fail
    refine HA.out.mono ?_
    rintro e w2 ⟨rfl, hb⟩
    have HB2 := Lib.hid (btr HB.out hb)
    clear hb
    go_wp2
    go_ret
    exact ⟨rfl, HB2.out⟩
  | true =>
    obtain ⟨hl, hzz⟩ := AL.few_len hf
    have HZ := Lib.hid hzz
    clear hf hl hzz
    go_enter Tryz.func3, Tryz.ntmps3
    go_wp2_with fail
    refine HF.out.mono ?_
    rintro e w1 ⟨rfl, hb⟩
    have HB := Lib.hid hb
    have HV1 := Lib.hid (Valid_any l _ w1 (HV.out.below hb).as HZ.out)
    clear hb HF
    go_wp2_with fail
    refine HV1.out.mono ?_
    rintro e w2 ⟨rfl, hb⟩
    have HB2 := Lib.hid (btr HB.out hb)
    have HV2 := Lib.hid (Valid_ref l _ w2 (HV.out.below HB2.out).as HZ.out)
    clear hb HV1
    go_wp2_with fail
    refine HV2.out.mono ?_
    rintro e w3 ⟨rfl, hb⟩
    have HB3 := Lib.hid (btr HB2.out hb)
    have HA := Lib.hid (awake_any w3)
    clear hb HV2
    go_wp2_with fail
    refine HA.out.mono ?_
    rintro e w4 ⟨rfl, hb⟩
    have HB4 := Lib.hid (btr HB3.out hb)
    clear hb
    go_wp2
    go_ret
    exact ⟨rfl, HB4.out⟩
set_option maxRecDepth 100000 in
set_option maxHeartbeats 1000000 in
theorem AliasUnsets_any (v : Value) (l : List AL.Al) (n : List UInt8) (w : World) (hV : TV w v l) (hz : Sized l) :
    Calls Tryz.prog 5 #[v, .string ⟨n.toArray⟩] w fun e w' => e = .returned (.bool true) ∧ Below w.heap.size w w' := by
  obtain ⟨A, c, rfl⟩ := hV.val
  have HF := Lib.hid (few_any l _ w hV.as hz)
  have HV := Lib.hid hV
  clear hV hz
  obtain ⟨f, hf⟩ : ∃ f, AL.fewB l = f := ⟨_, rfl⟩
  rw [hf] at HF
  by_cases hc : f = true ∧ n.length ≤ 5000
  case neg =>
    cases f with
    | false =>
      clear hc
      go_enter Tryz.func5, Tryz.ntmps5
      go_wp2_with fail
      refine HF.out.mono ?_
      rintro e w1 ⟨rfl, hb⟩
      have HB := Lib.hid hb
      have HA := Lib.hid (awake_any w1)
      clear hb
      go_wp2_with fail
      refine HA.out.mono ?_
      rintro e w2 ⟨rfl, hb⟩
      have HB2 := Lib.hid (btr HB.out hb)
      clear hb
      go_wp2
      go_ret
      exact ⟨rfl, HB2.out⟩
    | true =>
      have hn : ((5000 : Int) < (n.length : Int)) = True := eq_true (by simp at hc; omega)
      clear hc
      go_enter Tryz.func5, Tryz.ntmps5
      go_wp2_with fail
      refine HF.out.mono ?_
      rintro e w1 ⟨rfl, hb⟩
      have HB := Lib.hid hb
      have HA := Lib.hid (awake_any w1)
      clear hb
      go_wp2_with fail
      refine HA.out.mono ?_
      rintro e w2 ⟨rfl, hb⟩
      have HB2 := Lib.hid (btr HB.out hb)
      clear hb
      go_wp2
      go_ret
      exact ⟨rfl, HB2.out⟩
  case pos =>
    obtain ⟨rfl, hn⟩ := hc
    obtain ⟨hl, hzz⟩ := AL.few_len hf
    have HZ := Lib.hid hzz
    have HL := Lib.hid hl
    have hn2 : ((5000 : Int) < (n.length : Int)) = False := eq_false (by omega)
    clear hf hl hzz hn
    go_enter Tryz.func5, Tryz.ntmps5
    go_wp2_with fail
    refine HF.out.mono ?_
    rintro e w1 ⟨rfl, hb⟩
    have HB := Lib.hid hb
    have HV1 := Lib.hid (Unset_any l n _ w1 (HV.out.below hb) HZ.out)
    clear hb HF
    go_wp2_with fail
    refine HV1.out.mono ?_
    rintro e w2 ⟨v2, rfl, hb, hv2⟩
    have HB2 := Lib.hid (btr HB.out hb)
    have HV2 := Lib.hid (Unset_ref l n _ w2 (HV.out.below HB2.out) HZ.out (by have := HL.out; omega))
    rw [← AL.unset_eq] at HV2
    obtain ⟨A2, c2, rfl⟩ := hv2.val
    have HN2 := Lib.hid hv2
    clear hb HV1 hv2
    go_wp2_with fail
    refine HV2.out.mono ?_
    rintro e w3 ⟨v3, rfl, hb, hv3⟩
    obtain ⟨A3, c3, rfl⟩ := hv3.val
    have HB3 := Lib.hid (btr HB2.out hb)
    have HN3 := Lib.hid (HN2.out.below hb)
    have HM3 := Lib.hid hv3
    have HG := Lib.hid (Get_any l n _ w3 (HV.out.below HB3.out).as (by have := HL.out; omega))
    clear hb HV2 hv3 HN2
    go_wp2_with fail
    refine HG.out.mono ?_
    rintro e w4 ⟨rfl, hb⟩
    have HB4 := Lib.hid (btr HB3.out hb)
    have HN4 := Lib.hid (HN3.out.below hb)
    have HM4 := Lib.hid (HM3.out.below hb)
    have HG4 := Lib.hid (Get_ref l n _ w4 (HV.out.below HB4.out).as (by have := HL.out; omega))
    clear hb HG HN3 HM3
    go_wp2_with fail
    refine HG4.out.mono ?_
    rintro e w5 ⟨rfl, rfl⟩
    have HS := Lib.hid (Same_any (AL.unset l n).1 _ _ w4 (by have := AL.unset_len l n; have := HL.out; omega) HN4.out.as HM4.out.as)
    clear HG4
    go_wp2_with fail
    refine HS.out.mono ?_
    rintro e w5 ⟨rfl, hb⟩
    have HB5 := Lib.hid (btr HB4.out hb)
    have HA := Lib.hid (awake_any w5)
    clear hb HS
    go_wp2_with fail
    refine HA.out.mono ?_
    rintro e w6 ⟨rfl, hb⟩
    have HB6 := Lib.hid (btr HB5.out hb)
    clear hb
    go_wp2
    go_ret
    exact ⟨rfl, HB6.out⟩
end W
end Go.Proofs.YtelhobphphkidaaGreatDoor
