/- Chapter 34: find, Small, Right, Same of the reference. -/
import Derived.Test.YtfigidknocpdaaaDoorW34d
import Derived.Test.YtfigidknocpdaaaDoorP34b
import Derived.RegionTactic
import Derived.BigRegion
import Derived.Deep.QuietTactic
import Derived.BigQuiet
import Derived.Laws.StructEq
namespace Go.Proofs.YtfigidknocpdaaaDoor
open Go.RowKit K
namespace W
theorem bdN {B : Nat} {a w : World} (h : Below B a w) (n : Nat) : Below B a (w.drewN n) := ⟨h.os, h.tape, h.output, h.size, h.block⟩

theorem find_ref (v : Value) (ts : List Tr) (sig : Int) (w : World) (hV : TV w v ts) (hn : ts.length ≤ 1000000) :
    Calls Tryd.prog 39 #[v, .int .i64 sig] w fun e w' => e = .returned (.int .i64 (P.find ts sig)) ∧ w = w' := by
  obtain ⟨A, c, rfl, hc1, hc2, -, hT⟩ := hV
  obtain ⟨R, hR⟩ : ∃ R, P.find ts sig = R := ⟨_, rfl⟩
  rw [hR]
  have HR := Lib.hid (show P.findL sig 0 (ts.drop 0) = R from hR)
  clear hR
  go_enter Tryd.func39, Tryd.ntmps39
  go_wp2
  go_loop [5] (fun i => ∃ k : Nat, k ≤ ts.length ∧ i = .int .i64 k ∧ Hid (P.findL sig k (ts.drop k) = R)) (fun i => ts.length - (intOf i).toNat)
  case atStart => exact ⟨0, by omega, rfl, HR.out⟩
  case round =>
    obtain ⟨k, hk, rfl, HN⟩ := hrel
    by_cases hlt : k < ts.length
    · obtain ⟨b, off, rfl, hb, hc0, hc1'⟩ := hT.get hlt
      have HD := Lib.hid (drop_getT hlt)
      obtain ⟨⟨z, s⟩, ht⟩ : ∃ t, ts.getD k (0, []) = t := ⟨_, rfl⟩
      rw [ht] at HD hc0 hc1'
      simp only at hc0 hc1'
      clear ht
      by_cases hq : z = sig
      · have e1 : (z == sig) = true := by simp [hq]
        have HF := Lib.hid (show R = k by rw [← HN.out, HD.out, P.findL_hit hq])
        clear hq
        go_wp2
        go_ret
        exact ⟨ret_int HF.out.symm, rfl⟩
      · have e1 : (z == sig) = false := by simp [hq]
        have HF := Lib.hid (show P.findL sig (k + 1) (ts.drop (k + 1)) = R by rw [← HN.out, HD.out, P.findL_miss hq])
        clear hq
        go_wp2
        go_round
        case rel => exact ⟨k + 1, by omega, by go_num, HF.out⟩
        case measure => simp [intOf]; omega
    · have HF := Lib.hid (show R = -1 by rw [← HN.out, List.drop_eq_nil_of_le (by omega)]; rfl)
      go_wp2
      go_ret
      exact ⟨ret_int HF.out.symm, rfl⟩

theorem Small_ref (v : Value) (ts : List Tr) (w : World) (hV : TV w v ts) (hs : ∀ t ∈ ts, t.2.length ≤ 140737488351232) :
    Calls Tryd.prog 36 #[v] w fun e w' => e = .returned (.bool (P.smallB ts)) ∧ w = w' := by
  obtain ⟨A, c, rfl, hc1, hc2, -, hT⟩ := hV
  obtain ⟨R, hR⟩ : ∃ R, P.smallB ts = R := ⟨_, rfl⟩
  rw [hR]
  have HR := Lib.hid (show (decide (ts.length ≤ 30) && ts.all fun t => decide (t.2.length ≤ 500)) = R from hR)
  have HS := Lib.hid hs
  clear hR hs
  go_enter Tryd.func36, Tryd.ntmps36
  go_wp2
  go_loop [3] (fun i => ∃ k : Nat, k ≤ ts.length ∧ i = .int .i64 k ∧ Hid ((ts.take k).all (fun t => decide (t.2.length ≤ 500)) = true)) (fun i => ts.length - (intOf i).toNat)
  case atStart => exact ⟨0, by omega, rfl, by show _ = _; simp⟩
  case round =>
    obtain ⟨k, hk, rfl, HN⟩ := hrel
    by_cases hlt : k < ts.length ∧ k < 30
    · obtain ⟨hlt, h30⟩ := hlt
      obtain ⟨b, off, rfl, hb, hc0, hc1'⟩ := hT.get hlt
      have hmem : ts.getD k (0, []) ∈ ts := by rw [List.getD_eq_getElem?_getD, List.getElem?_eq_getElem hlt]; exact List.getElem_mem hlt
      have hsl := HS.out _ hmem
      have HTK := Lib.hid (show ts.take (k + 1) = ts.take k ++ [ts.getD k (0, [])] by rw [List.take_succ_eq_append_getElem hlt, List.getD_eq_getElem?_getD, List.getElem?_eq_getElem hlt]; rfl)
      have HM := Lib.hid hmem
      obtain ⟨⟨z, s⟩, ht⟩ : ∃ t, ts.getD k (0, []) = t := ⟨_, rfl⟩
      rw [ht] at HTK hc0 hc1' HM hsl
      simp only at hc0 hc1' hsl
      have f30 : ((k : Int) < 30) = True := eq_true (by omega)
      have H30 := Lib.hid h30
      clear ht hmem h30
      by_cases hq : 500 < s.length
      · have e1 : ((500 : Int) < (s.length : Int)) = True := eq_true (by omega)
        have HF := Lib.hid (show R = false by
          rw [← HR.out]
          have : (ts.all fun t => decide (t.2.length ≤ 500)) = false := by
            rw [List.all_eq_false]
            exact ⟨_, HM.out, by simp; omega⟩
          rw [this]; simp)
        clear hq
        go_wp2
        go_ret
        exact ⟨ret_bool HF.out.symm, rfl⟩
      · have e1 : ((500 : Int) < (s.length : Int)) = False := eq_false (by omega)
        have HF := Lib.hid (show (ts.take (k + 1)).all (fun t => decide (t.2.length ≤ 500)) = true by rw [HTK.out, List.all_append, HN.out]; simp; omega)
        clear hq
        go_wp2
        go_round
        case rel => exact ⟨k + 1, by omega, by go_num, HF.out⟩
        case measure => simp [intOf]; omega
    · have HF := Lib.hid (show R = decide (ts.length ≤ 30) by
        rw [← HR.out]
        by_cases h : ts.length ≤ 30
        · have := HN.out
          rw [List.take_of_length_le (by omega)] at this
          rw [this]; simp
        · simp [h])
      by_cases h1 : k < ts.length
      case' pos =>
        have h30 : ¬ k < 30 := fun h => hlt ⟨h1, h⟩
        have f30 : ((k : Int) < 30) = False := eq_false (by omega)
        have H30 := Lib.hid h30
        clear h30
      all_goals
        clear hlt
        go_wp2
        all_goals
          go_ret
          exact ⟨ret_bool (by rw [HF.out, decide_eq_decide]; go_light; omega), rfl⟩

set_option maxHeartbeats 1000000 in
theorem Right_ref (v : Value) (ts : List Tr) (w : World) (hV : TV w v ts) (hn : ts.length ≤ 1000000) :
    Calls Tryd.prog 30 #[v] w fun e w' => e = .returned (.bool (P.right ts)) ∧ Below w.heap.size w w' := by
  obtain ⟨A, c, rfl, hc1, hc2, -, hT⟩ := hV
  obtain ⟨R, hR⟩ : ∃ R, P.right ts = R := ⟨_, rfl⟩
  rw [hR]
  have HR := Lib.hid (show P.rightAt ts 0 = R from hR)
  have HT := Lib.hid hT
  clear hR hT
  go_enter Tryd.func30, Tryd.ntmps30
  go_wp2
  go_loopw [3] (fun i wr => ∃ k : Nat, k ≤ ts.length ∧ i = .int .i64 k ∧ -1 ≤ P.prevAt ts k ∧ Below w.heap.size w wr ∧ Hid (P.rightAt ts k = R)) (fun i _ => ts.length - (intOf i).toNat)
  case atStart => exact ⟨0, by omega, rfl, by simp [P.prevAt], Below.refl _ _, HR.out⟩
  case round =>
    obtain ⟨k, hk, rfl, hp, hbw, HN⟩ := hrel
    have HB := Lib.hid hbw
    by_cases hlt : k < ts.length
    · obtain ⟨b, off, rfl, hb, hc0, hc1'⟩ := (HT.out.below hbw).get hlt
      have HG := Lib.hid (fun z s (ht : ts.getD k (0, []) = (z, s)) => P.rightAt_no hlt ht)
      have HX := Lib.hid (fun z s (ht : ts.getD k (0, []) = (z, s)) => P.rightAt_next hlt ht)
      have HPV := Lib.hid (show ∀ z s, ts.getD k (0, []) = (z, s) → P.prevAt ts (k + 1) = z from fun z s ht => by unfold P.prevAt; rw [if_neg (by omega), Nat.add_sub_cancel, ht])
      obtain ⟨⟨z, s⟩, ht⟩ : ∃ t, ts.getD k (0, []) = t := ⟨_, rfl⟩
      have hg := HG.out z s ht
      have hx := HX.out z s ht
      have hpv := HPV.out z s ht
      rw [ht] at hc0 hc1'
      simp only at hc0 hc1'
      have k0 : (0 : Int) ≤ (k : Int) := by omega
      have k1 : (k : Int) < (ts.length : Int) := by omega
      clear HG HX HPV ht hbw
      rcases Nat.eq_zero_or_pos k with hk0 | hk0
      · subst hk0
        have hp0 : P.prevAt ts 0 = -1 := rfl
        simp only [Nat.zero_mul, Nat.add_zero] at hc0 hc1'
        by_cases h1 : z < 0
        · have HF := Lib.hid (hg (.inl (by omega)))
          clear hg hx hp hp0 hpv
          go_wp2_with fail
          go_quiet (fail)
          go_wp2
          go_ret
          exact ⟨ret_bool (by rw [← HN.out, HF.out]), bdN HB.out _⟩
        · have d1 : decide (z < 0) = false := by simpa using h1
          by_cases h2 : 20 < z
          · have HF := Lib.hid (hg (.inr h2))
            clear hg hx hp hp0 hpv
            go_wp2_with fail
            go_quiet (fail)
            go_wp2
            go_ret
            exact ⟨ret_bool (by rw [← HN.out, HF.out]), bdN HB.out _⟩
          · have d2 : decide (20 < z) = false := by simpa using h2
            have HF := Lib.hid (hx (by omega) (by omega))
            have hpz : -1 ≤ P.prevAt ts (0 + 1) := by rw [hpv]; omega
            have HPZ := Lib.hid hpz
            clear hg hx hp hp0 hpv hpz
            go_wp2_with fail
            go_quiet (fail)
            go_wp2
            go_roundw
            case rel => exact ⟨0 + 1, by omega, by go_num, HPZ.out, bdN HB.out _, by show _ = _; rw [← HF.out, HN.out]⟩
            case measure => simp [intOf]; omega
      · obtain ⟨j, rfl⟩ : ∃ j, k = j + 1 := ⟨k - 1, by omega⟩
        obtain ⟨b', off', hbo, _, hcj, _⟩ := (HT.out.below HB.out).get (i := j) (by omega)
        simp at hbo
        obtain ⟨rfl, rfl⟩ := hbo
        obtain ⟨⟨zp, sp⟩, htp⟩ : ∃ t, ts.getD j (0, []) = t := ⟨_, rfl⟩
        have hpp : P.prevAt ts (j + 1) = zp := by unfold P.prevAt; rw [if_neg (by omega), Nat.add_sub_cancel, htp]
        rw [htp] at hcj
        simp only at hcj
        rw [hpp] at hg hx hp
        have j0 : (0 : Int) ≤ (j : Int) := by omega
        have j1 : (j : Int) < (ts.length : Int) := by omega
        have jk : (0 : Int) < (j : Int) + 1 := by omega
        clear htp hpp
        by_cases h1 : z < 0
        · have HF := Lib.hid (hg (.inl (by omega)))
          clear hg hx hp hpv
          go_wp2_with fail
          go_quiet (fail)
          go_wp2
          go_ret
          exact ⟨ret_bool (by rw [← HN.out, HF.out]), bdN HB.out _⟩
        · have d1 : decide (z < 0) = false := by simpa using h1
          by_cases h2 : 20 < z
          · have HF := Lib.hid (hg (.inr h2))
            clear hg hx hp hpv
            go_wp2_with fail
            go_quiet (fail)
            go_wp2
            go_ret
            exact ⟨ret_bool (by rw [← HN.out, HF.out]), bdN HB.out _⟩
          · have d2 : decide (20 < z) = false := by simpa using h2
            by_cases h3 : z ≤ zp
            · have HF := Lib.hid (hg (.inl h3))
              clear hg hx hp hpv
              go_wp2_with fail
              go_quiet (fail)
              go_wp2
              go_ret
              exact ⟨ret_bool (by rw [← HN.out, HF.out]), bdN HB.out _⟩
            · have d3 : decide (z ≤ zp) = false := by simpa using h3
              have HF := Lib.hid (hx (by omega) (by omega))
              have hpz : -1 ≤ P.prevAt ts (j + 1 + 1) := by rw [hpv]; omega
              have HPZ := Lib.hid hpz
              clear hg hx hp hpv hpz
              go_wp2_with fail
              go_quiet (fail)
              go_wp2
              go_roundw
              case rel => exact ⟨j + 1 + 1, by omega, by go_num, HPZ.out, bdN HB.out _, by show _ = _; rw [← HF.out, HN.out]⟩
              case measure => simp [intOf]; omega
    · have HF := Lib.hid (P.rightAt_end hlt)
      go_wp2
      go_ret
      exact ⟨ret_bool (by rw [← HN.out, HF.out]), HB.out⟩

set_option maxHeartbeats 1000000 in
theorem Same_ref (va vb : Value) (la lb : List Tr) (w : World) (hVa : TV w va la) (hVb : TV w vb lb) (hna : la.length ≤ 1000000) :
    Calls Tryd.prog 20 #[va, vb] w fun e w' => e = .returned (.bool (decide (la = lb))) ∧ Below w.heap.size w w' := by
  obtain ⟨A, ca, rfl, _, _, _, hTa⟩ := hVa
  obtain ⟨B, cb, rfl, _, _, _, hTb⟩ := hVb
  by_cases hn : la.length = lb.length
  case neg =>
    have f2 : ((la.length : Int) != (lb.length : Int)) = true := by simp; omega
    have HG := Lib.hid (show decide (la = lb) = false by simp; intro e; exact hn (by rw [e]))
    clear hn
    go_enter Tryd.func20, Tryd.ntmps20
    go_wp2
    go_ret
    exact ⟨ret_bool HG.out.symm, Below.refl _ _⟩
  obtain ⟨n, hna'⟩ : ∃ n, la.length = n := ⟨_, rfl⟩
  have hnb' : lb.length = n := by omega
  rw [hna', hnb']
  rw [hna'] at hna
  have HNA := Lib.hid hna'
  have HNB := Lib.hid hnb'
  obtain ⟨res, hres⟩ : ∃ res, decide (la = lb) = res := ⟨_, rfl⟩
  have HR := Lib.hid hres
  rw [hres]
  have HTa := Lib.hid hTa
  have HTb := Lib.hid hTb
  clear hres hn hna' hnb' hTa hTb
  have hp1 : Tryd.prog.stoodInHeld 30 = false := by kernel_rfl
  have hp2 : Tryd.prog.eqGuardType Tryd.prog.depth 30 = false := by kernel_rfl
  go_enter Tryd.func20, Tryd.ntmps20
  go_wp2
  go_loopw [5] (fun i wr => ∃ k : Nat, k ≤ n ∧ i = .int .i64 k ∧ Below w.heap.size w wr ∧ Hid (decide (la.drop k = lb.drop k) = res)) (fun i _ => n - (intOf i).toNat)
  case atStart => exact ⟨0, by omega, rfl, Below.refl _ _, HR.out⟩
  case round =>
    obtain ⟨k, hk, rfl, hbw, HN⟩ := hrel
    have HBW := Lib.hid hbw
    by_cases hlt : k < n
    · obtain ⟨b, off, rfl, hb, hc0, hc1⟩ := (HTa.out.below hbw).get (i := k) (by have := HNA.out; omega)
      obtain ⟨b', off', rfl, hb', hd0, hd1⟩ := (HTb.out.below hbw).get (i := k) (by have := HNB.out; omega)
      have hda := Lib.hid (drop_getT (ts := la) (k := k) (by have := HNA.out; omega))
      have hdb := Lib.hid (drop_getT (ts := lb) (k := k) (by have := HNB.out; omega))
      obtain ⟨⟨z, s⟩, ht⟩ : ∃ t, la.getD k (0, []) = t := ⟨_, rfl⟩
      obtain ⟨⟨z', s'⟩, ht'⟩ : ∃ t, lb.getD k (0, []) = t := ⟨_, rfl⟩
      rw [ht] at hda hc0 hc1
      rw [ht'] at hdb hd0 hd1
      simp only at hc0 hc1 hd0 hd1
      have hk0 : (0 : Int) ≤ (k : Int) := by omega
      have hk1 : (k : Int) < (n : Int) := by omega
      clear ht ht' hbw
      by_cases h1 : z = z'
      · subst h1
        by_cases h2 : s = s'
        · subst h2
          have HF := Lib.hid (show decide (la.drop (k + 1) = lb.drop (k + 1)) = res by rw [← HN.out, hda.out, hdb.out]; simp)
          go_wp2_with fail
          go_quiet (fail)
          go_wp2
          go_roundw
          case rel => exact ⟨k + 1, by omega, by go_num, bdN HBW.out _, HF.out⟩
          case measure => simp [intOf]; omega
        · have e2 : (s == s') = false := by simp [h2]
          have HF := Lib.hid (show res = false by rw [← HN.out, hda.out, hdb.out]; simp [h2])
          clear h2
          go_wp2_with fail
          go_quiet (fail)
          go_wp2
          go_ret
          exact ⟨ret_bool HF.out.symm, bdN HBW.out _⟩
      · have e1 : (z == z') = false := by simp [h1]
        have HF := Lib.hid (show res = false by rw [← HN.out, hda.out, hdb.out]; simp [h1])
        clear h1
        go_wp2_with fail
        go_quiet (fail)
        go_wp2
        go_ret
        exact ⟨ret_bool HF.out.symm, bdN HBW.out _⟩
    · have e1 := Lib.hid (show la.drop k = [] from List.drop_eq_nil_of_le (by have := HNA.out; omega))
      have e2 := Lib.hid (show lb.drop k = [] from List.drop_eq_nil_of_le (by have := HNB.out; omega))
      go_wp2
      go_ret
      exact ⟨ret_bool (by rw [← HN.out, e1.out, e2.out]; rfl), HBW.out⟩
end W
end Go.Proofs.YtfigidknocpdaaaDoor
