/- Chapter 9: AliasSets, walked. -/
import Derived.Test.YtelhobphphkidaaGreatDoorV09a
import Derived.Deep.Upon
namespace Go.Proofs.YtelhobphphkidaaGreatDoor
open Go.RowKit K
namespace W
/-- append([]api.Alias{}, l...) -/
theorem app_copy {w : World} {A : Option Addr} {c : Nat} {l : List AL.Al} (h : TV w (.slice A l.length c) l) (hl : l.length ≤ 1000) :
    ∃ A' c' w', (Builtin.append_ #[22, 22] 22 #[.slice (some ⟨w.heap.size, 0, none⟩) 0 0, .slice A l.length c]).run Tryz.prog (w.alloc (.cells #[] 47)) = .ok (.slice A' l.length c') w' ∧ TV w' (.slice A' l.length c') l ∧ Below w.heap.size w w' := by
  obtain ⟨i0, hi, hz0, hz1, hz2⟩ := info_parts infoAl
  obtain ⟨A1, c1, h1, h2, h3, h4, h5⟩ := h
  injection h1 with h1 _ h6
  subst h1 h6
  cases A with
  | none =>
    have hc := h4 rfl
    subst hc
    have hl0 : l = [] := List.eq_nil_of_length_eq_zero (by omega)
    subst hl0
    refine ⟨some ⟨w.heap.size, 0, none⟩, 0, w.alloc (.cells #[] 47), run_append_nothing _ _ _ _ 47 i0 Tryz.underlying22 hi _ 0 0 (Nat.le_refl _) _ (Src.ofNil _ Tryz.underlying22 0), ⟨_, 0, rfl, by simp, by omega, by simp, TL.nil _ _⟩, balloc _ _⟩
  | some ad =>
    have hm : (w.alloc (.cells #[] 47)).ownsRow w.heap.size 47 2 (.slice (some ⟨w.heap.size, 0, none⟩) 0 0) 0 [] := World.ownsRow_made w #[] 0 (Nat.le_refl _) (by unfold maxLen; omega) (by simp)
    obtain ⟨v', w', r1, r2, r3, -, -⟩ := run_append_own_at (P := Tryz.prog) (w.alloc (.cells #[] 47)) w.heap.size 22 22 47 i0 _ 2 32 Tryz.underlying22 hi hz0 hz1 hz2 rfl (by decide) _ 0 _ hm ad l.length c (tcells l) (by rw [tcells_length]) (TL_news (h5.below (balloc _ _))) (tcells_one l) (by unfold maxLen; omega) (by omega) (by simp)
    have hT : TV w' v' l := TV.own (by simpa using r2)
    obtain ⟨A', c', rfl⟩ := hT.val
    exact ⟨A', c', w', r1, hT, ((Below.refl _ w).alloc (Nat.le_refl _) _).grown r3 (by simp) (fun k hk => (hm.lt k hk).1)⟩
set_option maxRecDepth 100000 in
set_option maxHeartbeats 1000000 in
theorem AliasSets_any (v : Value) (l : List AL.Al) (n u : List UInt8) (w : World) (hV : TV w v l) (hz : Sized l) :
    Calls Tryz.prog 4 #[v, .string ⟨n.toArray⟩, .string ⟨u.toArray⟩] w fun e w' => e = .returned (.bool true) ∧ Below w.heap.size w w' := by
  obtain ⟨A, c, rfl⟩ := hV.val
  have HF := Lib.hid (few_any l _ w hV.as hz)
  have HV := Lib.hid hV
  clear hV hz
  obtain ⟨f, hf⟩ : ∃ f, AL.fewB l = f := ⟨_, rfl⟩
  rw [hf] at HF
  by_cases hc : f = true ∧ n.length ≤ 5000 ∧ u.length ≤ 5000
  case neg =>
    have hcc : f = false ∨ (f = true ∧ 5000 < n.length) ∨ (f = true ∧ n.length ≤ 5000 ∧ 5000 < u.length) := by
      cases f
      · exact .inl rfl
      · simp at hc
        by_cases h : n.length ≤ 5000
        · exact .inr (.inr ⟨rfl, h, hc h⟩)
        · exact .inr (.inl ⟨rfl, by omega⟩)
    clear hc
    rcases hcc with rfl | ⟨rfl, hn⟩ | ⟨rfl, hn, hu⟩
    · go_enter Tryz.func4, Tryz.ntmps4
      go_wp2_with fail
      refine HF.out.mono ?_
      rintro e w1 ⟨rfl, hb⟩
      have HB := Lib.hid hb
      have HA := Lib.hid (awake_any w1)
      clear hb
      go_wp2_with fail
      refine HA.out.mono ?_
      rintro e w2 ⟨rfl, hb⟩
      have HB2 := Lib.hid (btr HB.out hb)
      clear hb
      go_wp2
      go_ret
      exact ⟨rfl, HB2.out⟩
    · have hn : ((5000 : Int) < (n.length : Int)) = True := eq_true (by omega)
      go_enter Tryz.func4, Tryz.ntmps4
      go_wp2_with fail
      refine HF.out.mono ?_
      rintro e w1 ⟨rfl, hb⟩
      have HB := Lib.hid hb
      have HA := Lib.hid (awake_any w1)
      clear hb
      go_wp2_with fail
      refine HA.out.mono ?_
      rintro e w2 ⟨rfl, hb⟩
      have HB2 := Lib.hid (btr HB.out hb)
      clear hb
      go_wp2
      go_ret
      exact ⟨rfl, HB2.out⟩
    · have hn : ((5000 : Int) < (n.length : Int)) = False := eq_false (by omega)
      have hu : ((5000 : Int) < (u.length : Int)) = True := eq_true (by omega)
      go_enter Tryz.func4, Tryz.ntmps4
      go_wp2_with fail
      refine HF.out.mono ?_
      rintro e w1 ⟨rfl, hb⟩
      have HB := Lib.hid hb
      have HA := Lib.hid (awake_any w1)
      clear hb
      go_wp2_with fail
      refine HA.out.mono ?_
      rintro e w2 ⟨rfl, hb⟩
      have HB2 := Lib.hid (btr HB.out hb)
      clear hb
      go_wp2
      go_ret
      exact ⟨rfl, HB2.out⟩
  case pos =>
    obtain ⟨rfl, hn, hu⟩ := hc
    obtain ⟨hl, hzz⟩ := AL.few_len hf
    have HZ := Lib.hid hzz
    have HL := Lib.hid hl
    have HNU := Lib.hid (And.intro hn hu)
    have hn2 : ((5000 : Int) < (n.length : Int)) = False := eq_false (by omega)
    have hu2 : ((5000 : Int) < (u.length : Int)) = False := eq_false (by omega)
    clear hf hl hzz hn hu
    go_enter Tryz.func4, Tryz.ntmps4
    go_wp2_with fail
    refine HF.out.mono ?_
    rintro e w1 ⟨rfl, hb⟩
    obtain ⟨A1, c1, V1, hrun, hv1, hb1⟩ := app_copy (HV.out.below hb) (by have := HL.out; omega)
    have HRUN := Lib.hid hrun
    have HB := Lib.hid (btr hb hb1)
    have HW1 := Lib.hid hv1
    have HV1 := Lib.hid (Set_any l n u _ V1 (HV.out.below HB.out) HZ.out (by have := HNU.out; omega) (by have := HNU.out; omega))
    clear hb HF hrun hb1 hv1
    go_wp2_with (at_builtin; refine append_eq rfl _ _ 22 rfl _ _ _ rfl rfl HRUN.out ?_)
    refine HV1.out.mono ?_
    rintro e w2 ⟨v2, rfl, hb, hv2⟩
    have HB2 := Lib.hid (btr HB.out hb)
    have HW2 := Lib.hid (HW1.out.below hb)
    have HV2 := Lib.hid (Set_ref l n u _ w2 HW2.out HZ.out (by have := HNU.out; omega) (by have := HNU.out; omega))
    rw [← AL.set_eq] at HV2
    obtain ⟨A2, c2, rfl⟩ := hv2.val
    have HN2 := Lib.hid hv2
    clear hb HV1 hv2 HW1
    go_wp2_with fail
    refine HV2.out.mono ?_
    rintro e w3 ⟨v3, rfl, hb, hv3⟩
    obtain ⟨A3, c3, rfl⟩ := hv3.val
    have HB3 := Lib.hid (btr HB2.out hb)
    have HW3 := Lib.hid (HW2.out.below hb)
    have HS := Lib.hid (Same_any (AL.set l n u).1 _ _ w3 (by have := AL.set_len l n u; have := HL.out; omega) (HN2.out.below hb).as hv3.as)
    clear hb HV2 hv3 HN2 HW2
    go_wp2_with fail
    refine HS.out.mono ?_
    rintro e w4 ⟨rfl, hb⟩
    have HB4 := Lib.hid (btr HB3.out hb)
    have HS2 := Lib.hid (Same_any l _ _ w4 (by have := HL.out; omega) (HV.out.below HB4.out).as (HW3.out.below hb).as)
    clear hb HS HW3
    go_wp2_with fail
    refine HS2.out.mono ?_
    rintro e w5 ⟨rfl, hb⟩
    have HB5 := Lib.hid (btr HB4.out hb)
    have HA := Lib.hid (awake_any w5)
    clear hb HS2
    go_wp2_with fail
    refine HA.out.mono ?_
    rintro e w6 ⟨rfl, hb⟩
    have HB6 := Lib.hid (btr HB5.out hb)
    clear hb
    go_wp2
    go_ret
    exact ⟨rfl, HB6.out⟩
end W
end Go.Proofs.YtelhobphphkidaaGreatDoor
