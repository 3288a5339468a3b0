/- Chapter 9: the reference's without, Unset and Same. -/
import Derived.Test.YtelhobphphkidaaGreatDoorW09e
import Derived.Laws.StructEq
namespace Go.Proofs.YtelhobphphkidaaGreatDoor
open Go.RowKit K
namespace W
set_option maxRecDepth 100000 in
set_option maxHeartbeats 1000000 in
theorem without_ref (v : Value) (ts : List Tr) (n : List UInt8) (w : World) (hV : TV w v ts) (hn : ts.length ≤ 1000000) :
    Calls Tryz.prog 30 #[v, .string ⟨n.toArray⟩] w (TPost w (AL.without ts n)) := by
  obtain ⟨i0, hi, hz0, hz1, hz2⟩ := info_parts infoAl
  obtain ⟨A, c, rfl, hc1, hc2, -, hT⟩ := hV
  obtain ⟨R, hR⟩ : ∃ R, AL.without ts n = R := ⟨_, rfl⟩
  rw [hR]
  have HR := Lib.hid (show AL.without ts n = R from hR)
  have HT := Lib.hid hT
  clear hR hT
  go_enter Tryz.func30, Tryz.ntmps30
  go_wp2
  go_loopw [5, 6] (fun o i wr => ∃ (k : Nat) (acc : List Tr), k ≤ ts.length ∧ i = .int .i64 k ∧ acc.length ≤ k ∧ wr.ownsRow w.heap.size 47 2 o acc.length (tcells acc) ∧ Below w.heap.size w wr ∧ Hid (acc ++ AL.without (ts.drop k) n = R)) (fun _ i _ => ts.length - (intOf i).toNat)
  case atStart => exact ⟨0, [], by omega, rfl, by simp, World.ownsRow_nil _ _ _ _, Below.refl _ _, by show _ = _; simpa using HR.out⟩
  case round =>
    obtain ⟨k, acc, hk, rfl, hac, hown, hbw, HN⟩ := hrel
    by_cases hlt : k < ts.length
    · obtain ⟨b, off, rfl, hb, hc0, hc1'⟩ := (HT.out.below hbw).get hlt
      have HD := Lib.hid (drop_getT hlt)
      obtain ⟨⟨z, s⟩, ht⟩ : ∃ t, ts.getD k ([], []) = t := ⟨_, rfl⟩
      rw [ht] at HD hc0 hc1'
      simp only at hc0 hc1'
      clear ht
      have hsz := hbw.size
      have HB := Lib.hid hbw
      have HO := Lib.hid hown
      by_cases hq : z = n
      · have e1 : (z != n) = false := by simp [hq]
        have e2 : (z == n) = true := by simp [hq]
        have HF := Lib.hid (show acc ++ AL.without (ts.drop (k + 1)) n = R by rw [← HN.out, HD.out]; unfold AL.without; rw [List.filter_cons_of_neg (by simp [hq])])
        clear hq hown hbw
        go_wp2
        go_roundw
        case rel => exact ⟨k + 1, acc, by omega, by go_num, by omega, HO.out, HB.out, HF.out⟩
        case measure => simp [intOf]; omega
      · have e1 : (z != n) = true := by simp [hq]
        have e2 : (z == n) = false := by simp [hq]
        have HF := Lib.hid (show (acc ++ [(z, s)]) ++ AL.without (ts.drop (k + 1)) n = R by rw [← HN.out, HD.out]; unfold AL.without; rw [List.filter_cons_of_pos (by simp [hq])]; simp)
        have HSN := Lib.hid (tcells_snoc acc (z, s))
        clear hq hbw
        go_wp2_with (at_builtin; refine wpList_append_own _ rfl _ _ 22 rfl w.heap.size 47 i0 (.agg #[.string ⟨#[]⟩, .string ⟨#[]⟩]) 2 32 Tryz.underlying22 hi hz0 hz1 hz2 rfl (by decide) _ _ _ rfl (hown.alloc _) ⟨wr.heap.size, 0, none⟩ 1 1 [.string ⟨z.toArray⟩, .string ⟨s.toArray⟩] rfl rfl (pair_news1 wr _ _ _) (pair_one _ _) (by unfold maxLen; omega) (by omega) (by simp; omega) ?_)
        intro v2 w2 hown2 hgrow2 _
        have hb2 : Below w.heap.size w w2 := (HB.out.alloc HB.out.size _).grown hgrow2 (by have := HB.out.size; simp; omega) (fun k hk => (HO.out.lt k hk).1)
        rw [HSN.out] at hown2
        clear hown hgrow2
        go_wp2
        go_roundw
        case rel => exact ⟨k + 1, acc ++ [(z, s)], by omega, by go_num, by simp; omega, by simpa using hown2, hb2, HF.out⟩
        case measure => simp [intOf]; omega
    · have HF := Lib.hid (show acc = R by have := HN.out; rw [List.drop_eq_nil_of_le (by omega)] at this; simpa [AL.without] using this)
      have HB := Lib.hid hbw
      have HO := Lib.hid hown
      clear hown hbw
      go_wp2
      go_ret
      exact ⟨_, rfl, by rw [← HF.out]; exact HO.out, HB.out⟩
set_option maxRecDepth 100000 in
set_option maxHeartbeats 4000000 in
theorem Unset_ref (l : List AL.Al) (n : List UInt8) (v : Value) (w : World) (hV : TV w v l) (hz : ∀ a ∈ l, a.1.length ≤ 10000 ∧ a.2.length ≤ 10000) (hl : l.length ≤ 1000) :
    Calls Tryz.prog 18 #[v, .string ⟨n.toArray⟩] w (LPost w (AL.unsetR l n)) := by
  obtain ⟨R, hR⟩ : ∃ R, AL.unsetR l n = R := ⟨_, rfl⟩
  rw [hR]
  unfold AL.unsetR at hR
  obtain ⟨A, c, rfl⟩ := hV.val
  have HV := Lib.hid hV
  have HVA := Lib.hid (Valid_ref l _ w hV.as hz)
  have HGT := Lib.hid (fun V (hA : AS V (.slice A l.length c) l) => Get_ref l n (.slice A l.length c) V hA (by omega))
  have HWO := Lib.hid (fun V (hA : TV V (.slice A l.length c) l) => without_ref (.slice A l.length c) l n V hA (by omega))
  clear hz hV hl
  obtain ⟨vz, hvz⟩ : ∃ vz, AL.valid l = vz := ⟨_, rfl⟩
  rw [hvz] at HVA hR
  by_cases h0 : vz = 0
  case neg =>
    rw [if_neg h0] at hR
    have e0 : (vz == 0) = false := by rw [beq_eq_false_iff_ne]; exact h0
    have e1 : (vz != 0) = true := by simp [bne, e0]
    have HRE := Lib.hid hR
    clear hR hvz h0
    go_enter Tryz.func18, Tryz.ntmps18
    go_wp2_with fail
    refine HVA.out.mono ?_
    rintro e w1 ⟨rfl, hb⟩
    have HB := Lib.hid hb
    clear hb
    go_wp2
    go_ret2
    rw [← HRE.out]
    exact ⟨_, rfl, HB.out, HV.out.below HB.out⟩
  rw [if_pos h0] at hR
  subst h0
  have HR := Lib.hid hR
  clear hR hvz
  cases hg : AL.get l n with
  | none =>
    rw [hg] at HGT
    have HRE := Lib.hid (show (l, (8 : Int)) = R from by rw [← HR.out, if_pos hg])
    clear hg
    go_enter Tryz.func18, Tryz.ntmps18
    go_wp2_with fail
    refine HVA.out.mono ?_
    rintro e w1 ⟨rfl, hb⟩
    have HB := Lib.hid hb
    clear hb
    have HG1 := Lib.hid (HGT.out w1 (HV.out.below HB.out).as)
    go_wp2_with fail
    refine HG1.out.mono ?_
    rintro e w2 ⟨rfl, rfl⟩
    go_wp2
    go_ret2
    rw [← HRE.out]
    exact ⟨_, rfl, HB.out, HV.out.below HB.out⟩
  | some o =>
    rw [hg] at HGT
    have HRE := Lib.hid (show (AL.without l n, (0 : Int)) = R from by rw [← HR.out, if_neg (by rw [hg]; simp)])
    clear hg
    go_enter Tryz.func18, Tryz.ntmps18
    go_wp2_with fail
    refine HVA.out.mono ?_
    rintro e w1 ⟨rfl, hb⟩
    have HB := Lib.hid hb
    clear hb
    have HG1 := Lib.hid (HGT.out w1 (HV.out.below HB.out).as)
    go_wp2_with fail
    refine HG1.out.mono ?_
    rintro e w2 ⟨rfl, rfl⟩
    have HW1 := Lib.hid (HWO.out _ (HV.out.below HB.out))
    go_wp2_with fail
    refine HW1.out.mono ?_
    rintro e w3 ⟨v3, rfl, hown, hb⟩
    have HB3 := Lib.hid (btr HB.out hb)
    have HT3 := Lib.hid (TV.own hown)
    clear hown hb
    go_wp2
    go_ret2
    rw [← HRE.out]
    exact ⟨_, rfl, HB3.out, HT3.out⟩
set_option maxRecDepth 100000 in
set_option maxHeartbeats 4000000 in
/-- Same at equal lists. -/
theorem Same_any (l : List AL.Al) (v u : Value) (w : World) (hn : l.length ≤ 1000000) (h : AS w v l) (h' : AS w u l) :
    Calls Tryz.prog 16 #[v, u] w fun e w' => e = .returned (.bool true) ∧ Below w.heap.size w w' := by
  obtain ⟨A, ca, rfl⟩ := h.slice
  obtain ⟨B, cb, rfl⟩ := h'.slice
  obtain ⟨n, hnn⟩ : ∃ n, n = l.length := ⟨_, rfl⟩
  have HNN := Lib.hid hnn
  have HA := Lib.hid h
  have HB := Lib.hid h'
  rw [← hnn] at hn ⊢
  have n0 : (0 : Int) ≤ (n : Int) := by omega
  have e1 : ((n : Int) != (n : Int)) = false := by simp
  clear h h' hnn
  go_enter Tryz.func16, Tryz.ntmps16
  go_wp2
  go_loopg [5] n (fun g i wr => ∃ k : Nat, k ≤ n ∧ g = n - k ∧ i = .int .i64 k ∧ Hid (Below w.heap.size w wr))
  case atStart => exact ⟨0, Nat.zero_le _, rfl, rfl, Lib.hid (Below.refl _ _)⟩
  case round =>
    obtain ⟨k, hk, rfl, rfl, HBW⟩ := hrel
    by_cases hlt : k < n
    · have hlt2 : (k : Int) < (n : Int) := by omega
      obtain ⟨⟨nm, vl⟩, qa, oa, ha, rfl, hq1, a0, a1⟩ := (HA.out.go HBW.out).get (k := k) (by have := HNN.out; omega)
      obtain ⟨⟨nm', vl'⟩, qb, ob, hb, rfl, hq2, b0, b1⟩ := (HB.out.go HBW.out).get (k := k) (by have := HNN.out; omega)
      rw [ha] at hb
      injection hb with hb
      injection hb with e2 e3
      subst e2 e3
      dsimp only at a0 a1 b0 b1
      have s1 : Tryz.prog.stoodInHeld 47 = false := by kernel_rfl
      clear ha
      go_wp2_with fail
      go_quiet (fail)
      go_wp2
      go_roundg (n - (k + 1))
      case measure => omega
      case rel => exact ⟨k + 1, hlt, rfl, by go_num, Lib.hid (bdN HBW.out _)⟩
    · have hlt2 : ¬ (k : Int) < (n : Int) := by omega
      go_wp2
      go_ret
      exact ⟨rfl, HBW.out⟩
end W
end Go.Proofs.YtelhobphphkidaaGreatDoor
