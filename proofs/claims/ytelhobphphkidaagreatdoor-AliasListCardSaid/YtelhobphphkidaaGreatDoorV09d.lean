/- Chapter 9: AliasList, walked. -/
import Derived.Test.YtelhobphphkidaaGreatDoorV09b
namespace Go.Proofs.YtelhobphphkidaaGreatDoor
open Go.RowKit K
namespace AL
theorem set_zero_valid {l m : List Al} {n v : Str} (h : set l n v = (m, 0)) : valid l = 0 := by
  unfold set at h
  by_cases h0 : valid l = 0
  · exact h0
  · rw [if_neg h0] at h
    exact congrArg Prod.snd h
theorem get_mem : ∀ {l : List Al} {k : Nat} {a : Al}, Sorted l → l[k]? = some a → get l a.1 = some a.2
  | [], k, a, _, h => by simp at h
  | b :: r, 0, a, _, h => by
    simp at h
    subst h
    rw [get, if_pos rfl]
  | b :: r, k + 1, a, hs, h => by
    unfold Sorted at hs
    rw [List.pairwise_cons] at hs
    have h2 : r[k]? = some a := by simpa using h
    have h1 := hs.1 a (List.mem_of_getElem? h2)
    rw [get, if_neg (by intro e; rw [e] at h1; exact List.lt_irrefl _ h1)]
    exact get_mem hs.2 h2
/-- What AliasList's loop asks. -/
theorem list_get {l m : List Al} {n v : Str} (h : set l n v = (m, 0)) {k : Nat} {a : Al} (ha : l[k]? = some a) (hne : a.1 ≠ n) : get m a.1 = some a.2 := by
  have h2 := set_zero_valid h
  obtain ⟨-, -, h3, -⟩ := list_law h h2
  rw [h3 _ hne]
  exact get_mem ((valid_zero l).1 h2).2.2 ha
end AL
namespace W
set_option maxRecDepth 100000 in
set_option maxHeartbeats 4000000 in
theorem AliasList_any (v : Value) (l : List AL.Al) (n u : List UInt8) (w : World) (hV : TV w v l) (hz : Sized l) :
    Calls Tryz.prog 9 #[v, .string ⟨n.toArray⟩, .string ⟨u.toArray⟩] w fun e w' => e = .returned (.bool true) ∧ Below w.heap.size w w' := by
  obtain ⟨A, c, rfl⟩ := hV.val
  have HF := Lib.hid (few_any l _ w hV.as hz)
  have HV := Lib.hid hV
  clear hV hz
  obtain ⟨f, hf⟩ : ∃ f, AL.fewB l = f := ⟨_, rfl⟩
  rw [hf] at HF
  by_cases hc : f = true ∧ n.length ≤ 5000 ∧ u.length ≤ 5000
  case neg =>
    have hcc : f = false ∨ (f = true ∧ 5000 < n.length) ∨ (f = true ∧ n.length ≤ 5000 ∧ 5000 < u.length) := by
      cases f
      · exact .inl rfl
      · simp at hc
        by_cases h : n.length ≤ 5000
        · exact .inr (.inr ⟨rfl, h, hc h⟩)
        · exact .inr (.inl ⟨rfl, by omega⟩)
    clear hc
    rcases hcc with rfl | ⟨rfl, hn⟩ | ⟨rfl, hn, hu⟩
    · go_enter Tryz.func9, Tryz.ntmps9
      go_wp2_with fail
      refine HF.out.mono ?_
      rintro e w1 ⟨rfl, hb⟩
      have HB := Lib.hid hb
      have HA := Lib.hid (awake_any w1)
      clear hb
      go_wp2_with fail
      refine HA.out.mono ?_
      rintro e w2 ⟨rfl, hb⟩
      have HB2 := Lib.hid (btr HB.out hb)
      clear hb
      go_wp2
      go_ret
      exact ⟨rfl, HB2.out⟩
    · have hn : ((5000 : Int) < (n.length : Int)) = True := eq_true (by omega)
      go_enter Tryz.func9, Tryz.ntmps9
      go_wp2_with fail
      refine HF.out.mono ?_
      rintro e w1 ⟨rfl, hb⟩
      have HB := Lib.hid hb
      have HA := Lib.hid (awake_any w1)
      clear hb
      go_wp2_with fail
      refine HA.out.mono ?_
      rintro e w2 ⟨rfl, hb⟩
      have HB2 := Lib.hid (btr HB.out hb)
      clear hb
      go_wp2
      go_ret
      exact ⟨rfl, HB2.out⟩
    · have hn : ((5000 : Int) < (n.length : Int)) = False := eq_false (by omega)
      have hu : ((5000 : Int) < (u.length : Int)) = True := eq_true (by omega)
      go_enter Tryz.func9, Tryz.ntmps9
      go_wp2_with fail
      refine HF.out.mono ?_
      rintro e w1 ⟨rfl, hb⟩
      have HB := Lib.hid hb
      have HA := Lib.hid (awake_any w1)
      clear hb
      go_wp2_with fail
      refine HA.out.mono ?_
      rintro e w2 ⟨rfl, hb⟩
      have HB2 := Lib.hid (btr HB.out hb)
      clear hb
      go_wp2
      go_ret
      exact ⟨rfl, HB2.out⟩
  case pos =>
    obtain ⟨rfl, hn, hu⟩ := hc
    obtain ⟨hl, hzz⟩ := AL.few_len hf
    have HZ := Lib.hid hzz
    have HL := Lib.hid hl
    have HNU := Lib.hid (And.intro hn hu)
    have hn2 : ((5000 : Int) < (n.length : Int)) = False := eq_false (by omega)
    have hu2 : ((5000 : Int) < (u.length : Int)) = False := eq_false (by omega)
    obtain ⟨m, x, hm⟩ : ∃ m x, AL.set l n u = (m, x) := ⟨_, _, rfl⟩
    clear hf hl hzz hn hu
    by_cases hx : x = 0
    case neg =>
      have hx1 : (x == 0) = false := by rw [beq_eq_false_iff_ne]; exact hx
      have hx2 : (x != 0) = true := by simp [bne, hx1]
      have HM := Lib.hid hm
      clear hm hx
      go_enter Tryz.func9, Tryz.ntmps9
      go_wp2_with fail
      refine HF.out.mono ?_
      rintro e w1 ⟨rfl, hb⟩
      have HB := Lib.hid hb
      have HV1 := Lib.hid (Set_any l n u _ w1 (HV.out.below hb) HZ.out (by have := HNU.out; omega) (by have := HNU.out; omega))
      rw [HM.out] at HV1
      clear hb HF
      go_wp2_with fail
      refine HV1.out.mono ?_
      rintro e w2 ⟨v2, rfl, hb, hv2⟩
      have HB2 := Lib.hid (btr HB.out hb)
      obtain ⟨A2, c2, rfl⟩ := hv2.val
      have HA := Lib.hid (awake_any w2)
      clear hb HV1 hv2
      go_wp2_with fail
      refine HA.out.mono ?_
      rintro e w6 ⟨rfl, hb⟩
      have HB6 := Lib.hid (btr HB2.out hb)
      clear hb
      go_wp2
      go_ret
      exact ⟨rfl, HB6.out⟩
    subst hx
    obtain ⟨g1, g2, -, q, g4, g5, g6, g7⟩ := AL.list_law hm (AL.set_zero_valid hm)
    have HLG := Lib.hid (fun (k : Nat) (a : AL.Al) (ha : l[k]? = some a) (hne : a.1 ≠ n) => AL.list_get hm ha hne)
    have hml : m.length ≤ 71 := by have := AL.set_len l n u; rw [hm] at this; have h2 : m.length ≤ l.length + 1 := this; have h3 := HL.out; omega
    have hmz : ∀ a ∈ m, a.1.length ≤ 10000 ∧ a.2.length ≤ 10000 := fun a ha => by
      obtain ⟨h1, h2⟩ := ((AL.valid_zero m).1 g2).2.1 a ha
      unfold AL.named at h1
      simp at h1
      omega
    have hqz : ∀ a ∈ q, a.1.length ≤ 10000 ∧ a.2.length ≤ 10000 := fun a ha => by
      obtain ⟨h1, h2⟩ := ((AL.valid_zero q).1 g7).2.1 a ha
      unfold AL.named at h1
      simp at h1
      omega
    have HM := Lib.hid hm
    have HG := Lib.hid (And.intro g1 (And.intro g2 (And.intro g4 (And.intro g5 (And.intro g6 g7)))))
    have HMZ := Lib.hid (And.intro hml (And.intro hmz hqz))
    clear hm g1 g2 g4 g5 g6 g7 hml hmz hqz
    go_enter Tryz.func9, Tryz.ntmps9
    go_wp2_with fail
    refine HF.out.mono ?_
    rintro e w1 ⟨rfl, hb⟩
    have HB := Lib.hid hb
    have HV1 := Lib.hid (Set_any l n u _ w1 (HV.out.below hb) HZ.out (by have := HNU.out; omega) (by have := HNU.out; omega))
    rw [HM.out] at HV1
    clear hb HF
    go_wp2_with fail
    refine HV1.out.mono ?_
    rintro e w2 ⟨v2, rfl, hb, hv2⟩
    obtain ⟨A2, c2, rfl⟩ := hv2.val
    have HB2 := Lib.hid (btr HB.out hb)
    have HN2 := Lib.hid hv2
    have HG2 := Lib.hid (Get_any m n _ w2 hv2.as (by have := HMZ.out.1; omega))
    rw [HG.out.1] at HG2
    dsimp only at HG2
    clear hb HV1 hv2
    go_wp2_with fail
    refine HG2.out.mono ?_
    rintro e w3 ⟨rfl, hb⟩
    have HB3 := Lib.hid (btr HB2.out hb)
    have HN3 := Lib.hid (HN2.out.below hb)
    have HV3 := Lib.hid (Valid_any m _ w3 HN3.out.as HMZ.out.2.1)
    rw [HG.out.2.1] at HV3
    clear hb HG2 HN2
    go_wp2_with fail
    refine HV3.out.mono ?_
    rintro e w4 ⟨rfl, hb⟩
    have HB4 := Lib.hid (btr HB3.out hb)
    have HN4 := Lib.hid (HN3.out.below hb)
    clear hb HV3 HN3
    have k0 : (0 : Int) ≤ (l.length : Int) := by omega
    go_wp2
    go_loopw [11] (fun i wr => ∃ k : Nat, k ≤ l.length ∧ i = .int .i64 k ∧ Hid (Below w4.heap.size w4 wr)) (fun i _ => l.length - (intOf i).toNat)
    case atStart => exact ⟨0, Nat.zero_le _, rfl, Lib.hid (Below.refl _ _)⟩
    case round =>
      obtain ⟨k, hk, rfl, HBR⟩ := hrel
      by_cases hlt : k < l.length
      · have hlt2 : ((k : Int) < (l.length : Int)) = True := eq_true (by omega)
        have hk0 : (0 : Int) ≤ (k : Int) := by omega
        have hw1 : IntKind.i64.wrap ((k : Int) + 1) = (k : Int) + 1 := IntWalk.i64_in _ (by have := HL.out; omega)
        obtain ⟨a, b, off, ha, rfl, hb, c0, c1⟩ := (HV.out.below (btr HB4.out HBR.out)).as.get hlt
        have HGT := Lib.hid (Get_any m a.1 _ wr (HN4.out.below HBR.out).as (by have := HMZ.out.1; omega))
        have HCC := Lib.hid (fun (V : World) (h : Below wr.heap.size wr V) => And.intro (cell_go (W := wr) c0 h) (cell_go (W := wr) c1 h))
        obtain ⟨b1, hb1⟩ : ∃ b1, (a.1 == n) = b1 := ⟨_, rfl⟩
        have hb2 : (a.1 != n) = !b1 := by rw [← hb1]; rfl
        have HA := Lib.hid ha
        clear ha hb
        cases b1 with
        | true =>
          have hb3 : (a.1 != n) = false := by rw [hb2]; rfl
          go_wp2_with fail
          refine HGT.out.mono ?_
          rintro e w5 ⟨rfl, hb⟩
          obtain ⟨d0, d1⟩ := HCC.out w5 hb
          have HB5 := Lib.hid (btr HBR.out hb)
          clear hb HGT
          go_wp2
          go_roundw
          case rel => exact ⟨k + 1, hlt, by go_num, HB5⟩
          case measure => simp [intOf]; omega
        | false =>
          have hb3 : (a.1 != n) = true := by rw [hb2]; rfl
          have hg := HLG.out k a HA.out (by simpa using hb1)
          rw [hg] at HGT
          dsimp only [Option.getD_some, Option.isSome_some] at HGT
          have h6 : (a.2 != a.2) = false := by simp
          clear hg
          go_wp2_with fail
          refine HGT.out.mono ?_
          rintro e w5 ⟨rfl, hb⟩
          obtain ⟨d0, d1⟩ := HCC.out w5 hb
          have HB5 := Lib.hid (btr HBR.out hb)
          clear hb HGT
          go_wp2
          go_roundw
          case rel => exact ⟨k + 1, hlt, by go_num, HB5⟩
          case measure => simp [intOf]; omega
      · have hlt2 : ((k : Int) < (l.length : Int)) = False := eq_false (by omega)
        have HU := Lib.hid (Unset_any m n _ wr (HN4.out.below HBR.out) HMZ.out.2.1)
        rw [HG.out.2.2.1] at HU
        clear hlt
        go_wp2_with fail
        refine HU.out.mono ?_
        rintro e w5 ⟨v5, rfl, hb, hv5⟩
        obtain ⟨A5, c5, rfl⟩ := hv5.val
        have HB5 := Lib.hid (btr HB4.out (btr HBR.out hb))
        have HN5 := Lib.hid hv5
        have HGQ := Lib.hid (Get_any q n _ w5 hv5.as (by have := HG.out.2.2.2.2.1; have := HMZ.out.1; omega))
        rw [HG.out.2.2.2.1] at HGQ
        dsimp only [Option.getD_none, Option.isSome_none] at HGQ
        have e1 : IntKind.i64.wrap ((m.length : Int) - 1) = (q.length : Int) := by
          have := HG.out.2.2.2.2.1
          rw [IntWalk.i64_in _ (by have := HMZ.out.1; omega)]
          omega
        clear hb hv5 HU
        go_wp2_with fail
        refine HGQ.out.mono ?_
        rintro e w6 ⟨rfl, hb⟩
        have HB6 := Lib.hid (btr HB5.out hb)
        have HVQ := Lib.hid (Valid_any q _ w6 (HN5.out.below hb).as HMZ.out.2.2)
        rw [HG.out.2.2.2.2.2] at HVQ
        clear hb HGQ HN5
        go_wp2_with fail
        refine HVQ.out.mono ?_
        rintro e w7 ⟨rfl, hb⟩
        have HB7 := Lib.hid (btr HB6.out hb)
        have HA := Lib.hid (awake_any w7)
        clear hb HVQ
        go_wp2_with fail
        refine HA.out.mono ?_
        rintro e w8 ⟨rfl, hb⟩
        have HB8 := Lib.hid (btr HB7.out hb)
        clear hb HA
        go_wp2
        go_ret
        exact ⟨rfl, HB8.out⟩
end W
end Go.Proofs.YtelhobphphkidaaGreatDoor
