/- Chapter 34: the law TrapTakes, walked. -/
import Derived.Test.YtfigidknocpdaaaDoorP34e
namespace Go.Proofs.YtfigidknocpdaaaDoor
open Go.RowKit K
namespace P
/-- How many of the traps from k on are counted. -/
def cntAt (ts : List Tr) (ps : List Int) (k : Nat) : Nat := cnt (ts.drop k) ps
theorem cntAt_end {ts : List Tr} {ps : List Int} {k : Nat} (h : ¬ k < ts.length) : cntAt ts ps k = 0 := by
  unfold cntAt
  rw [List.drop_eq_nil_of_le (by omega)]
  rfl
theorem cntAt_yes {ts : List Tr} {ps : List Int} {k : Nat} {t : Tr} (h : k < ts.length) (ht : ts.getD k (0, []) = t) (hc : cntB ps t = true) : cntAt ts ps k = cntAt ts ps (k + 1) + 1 := by
  unfold cntAt cnt
  rw [drop_getT h, ht, List.filter_cons_of_pos hc]
  rfl
theorem cntAt_no {ts : List Tr} {ps : List Int} {k : Nat} {t : Tr} (h : k < ts.length) (ht : ts.getD k (0, []) = t) (hc : cntB ps t = false) : cntAt ts ps k = cntAt ts ps (k + 1) := by
  unfold cntAt cnt
  rw [drop_getT h, ht, List.filter_cons_of_neg (by rw [hc]; simp)]
end P
namespace W
set_option maxHeartbeats 4000000 in
set_option maxRecDepth 100000 in
theorem TrapTakes_any (v : Value) (ts : List Tr) (vp : Value) (ps : List Int) (w : World) (hV : TV w v ts) (hS : ∀ t ∈ ts, t.2.length ≤ 140737488351232) (hP : IV w vp ps) (hpw : ∀ z ∈ ps, (Lit.int .i64 z).wf = true) (hw : Env w) :
    Calls Tryd.prog 6 #[v, vp] w fun e w' => e = .returned (.bool true) ∧ Below w.heap.size w w' := by
  have HA := Lib.hid (fun w' (hb : Below w.heap.size w w') => awake_any w' (hw.below hb))
  have HOK := Lib.hid (ok_any v ts w hV hS)
  obtain ⟨A, c, hv, -, -, -, hT⟩ := id hV
  obtain ⟨Ap, cp, rfl, hp1, hp2, -, hI⟩ := hP
  cases hok : P.okB ts with
  | false =>
    rw [hok] at HOK
    subst hv
    clear hok hS hw hV hI hpw hT
    go_enter Tryd.func6, Tryd.ntmps6
    go_wp2_with fail; refine (HOK.out).mono ?_; rintro e w1 ⟨rfl, hb⟩
    have HB := Lib.hid hb
    clear hb
    go_wp2_with fail
    refine (HA.out _ HB.out).mono ?_
    rintro e w2 ⟨rfl, hb2⟩
    have HB2 := Lib.hid (btr HB.out hb2)
    clear hb2
    go_wp2
    go_ret
    exact ⟨rfl, HB2.out⟩
  | true =>
    rw [hok] at HOK
    obtain ⟨hn, hr, hsm⟩ := P.ok_len hok
    by_cases hl : 60 < ps.length
    · have e1 : ((60 : Int) < (ps.length : Int)) = True := eq_true (by omega)
      subst hv
      clear hok hS hw hV hl hn hr hsm hI hpw hT
      go_enter Tryd.func6, Tryd.ntmps6
      go_wp2_with fail; refine (HOK.out).mono ?_; rintro e w1 ⟨rfl, hb⟩
      have HB := Lib.hid hb
      clear hb
      go_wp2_with fail
      refine (HA.out _ HB.out).mono ?_
      rintro e w2 ⟨rfl, hb2⟩
      have HB2 := Lib.hid (btr HB.out hb2)
      clear hb2
      go_wp2
      go_ret
      exact ⟨rfl, HB2.out⟩
    · have e1 : ((60 : Int) < (ps.length : Int)) = False := eq_false (by omega)
      have H1 := Lib.hid (fun w' (hb : Below w.heap.size w w') (Ar : Option Addr) (cr : Nat) (rs : List Int) (hr1 : IL .i64 w' Ar rs) (hr2 : rs.length ≤ 60) (hr3 : ∀ z ∈ rs, z ∈ ps) => Next_q v ts Ar cr rs w' (hV.below hb) (by omega) hr hr1 (by omega) (fun z hz => hpw z (hr3 z hz)))
      have HNS := Lib.hid (fun (rs : List Int) (last : Int) (hh : ∀ p ∈ P.due ts rs, last < p) (m : Int) (s : List UInt8) (zs : List Int) (f : Bool) (hq : P.nextP ts rs = (m, s, zs, f)) => P.next_step hr hh hq)
      have HD0 := Lib.hid (P.due_pos hr ps)
      have HT := Lib.hid hT
      have HI := Lib.hid hI
      have HPL := Lib.hid (show ps.length ≤ 60 by omega)
      have hpl : ps.length ≤ 1000 := by omega
      have hn' : ts.length ≤ 1000 := by omega
      subst hv
      clear hok hS hw hV hl hr hsm hI hpw hT hn
      go_enter Tryd.func6, Tryd.ntmps6
      go_wp2_with fail; refine (HOK.out).mono ?_; rintro e w1 ⟨rfl, hb⟩
      have HB := Lib.hid hb
      clear hb
      obtain ⟨y, hy⟩ : ∃ y, y = w1 := ⟨_, rfl⟩
      have HBY := HB
      rw [← hy] at HBY
      clear HB
      go_wp2
      rw [← hy]
      clear hy
      obtain ⟨W, hW⟩ : ∃ W, P.cnt ts ps = W := ⟨_, rfl⟩
      have HW := Lib.hid hW
      have HWL := Lib.hid (show W ≤ 1000 by rw [← hW]; unfold P.cnt; have := List.length_filter_le (P.cntB ps) ts; omega)
      clear hW
      go_loopw [5, 6, 7, 8] (fun l n r i wr => ∃ (k nn : Nat) (last : Int) (rs : List Int) (Ar : Option Addr) (cr : Nat), l = .int .i64 last ∧ n = .int .i64 nn ∧ r = .slice Ar rs.length cr ∧ i = .int .i64 k ∧ rs.length + k ≤ ps.length ∧ IL .i64 wr Ar rs ∧ Below w.heap.size w wr ∧ Hid (nn + P.cnt ts rs = W) ∧ Hid (∀ p ∈ P.due ts rs, last < p) ∧ Hid (∀ z ∈ rs, z ∈ ps)) (fun _ _ _ i _ => ps.length + 1 - (intOf i).toNat)
      case atStart => exact ⟨0, 0, 0, ps, Ap, cp, rfl, rfl, rfl, rfl, by omega, HI.out.below HBY.out, HBY.out, by show _ = _; rw [HW.out]; omega, HD0.out, fun z hz => hz⟩
      case round =>
        obtain ⟨k, nn, last, rs, Ar, cr, rfl, rfl, rfl, rfl, hlen, hIr, hbw, HC, HD, HM⟩ := hrel
        have HBw := Lib.hid hbw
        have k1 : ((k : Int) ≤ (ps.length : Int)) = True := eq_true (by omega)
        have HN := Lib.hid (H1.out wr hbw Ar cr rs hIr (by have := HPL.out; omega) HM.out)
        obtain ⟨⟨m, s, zs, f⟩, hq⟩ : ∃ q, P.nextP ts rs = q := ⟨_, rfl⟩
        have hst := HNS.out rs last HD.out m s zs f hq
        rw [hq] at HN
        have hnn : nn ≤ 1000 := by have := HC.out; have := HWL.out; omega
        clear hq hIr hbw
        rcases hst with ⟨rfl, hc0, rfl, rfl, rfl⟩ | ⟨rfl, q1, q2, q3, q4, q5, q6⟩
        · have HNW := Lib.hid (show nn = W by have := HC.out; omega)
          clear hc0
          go_wp2_with fail
          refine HN.out.mono ?_
          rintro e w2 ⟨A2, c2, rfl, -, hb2⟩
          have HB2 := Lib.hid (btr HBw.out hb2)
          obtain ⟨x2, hx2⟩ : ∃ x, x = w2.alloc (.cells #[.int .i64 0, .string ⟨#[]⟩] 30) := ⟨_, rfl⟩
          have HX2 := Lib.hid hx2
          have HBx := Lib.hid (show Below w.heap.size w x2 by rw [hx2]; exact btr HB2.out (balloc _ _))
          clear hx2 hb2
          simp only
          go_wp2
          rw [← HX2.out]
          clear HX2
          obtain ⟨y2, hy2⟩ : ∃ y, y = x2 := ⟨_, rfl⟩
          have HBy := HBx
          rw [← hy2] at HBy ⊢
          clear hy2 HBx HN HD HM HC k1 hlen
          go_loopw [12, 13] (fun wt i wr => ∃ (k cw : Nat), wt = .int .i64 cw ∧ i = .int .i64 k ∧ k ≤ ts.length ∧ Below y2.heap.size y2 wr ∧ Hid (cw + P.cntAt ts ps k = W)) (fun _ i _ => ts.length - (intOf i).toNat)
          case atStart => exact ⟨0, 0, rfl, rfl, by omega, Below.refl _ _, by show _ = _; rw [Nat.zero_add]; exact HW.out⟩
          case round =>
            obtain ⟨k, cw, rfl, rfl, hk, hbw, HC⟩ := hrel
            have hcw : cw ≤ 1000 := by have := HC.out; have := HWL.out; omega
            by_cases hlt : k < ts.length
            · obtain ⟨⟨z, s⟩, ht⟩ : ∃ t, ts.getD k (0, []) = t := ⟨_, rfl⟩
              have HYES := Lib.hid (fun hc => P.cntAt_yes (ps := ps) hlt ht hc)
              have HNO := Lib.hid (fun hc => P.cntAt_no (ps := ps) hlt ht hc)
              have HT2 := Lib.hid (show ∀ w', Below y2.heap.size y2 w' → ∃ b off, A = some ⟨b, off, none⟩ ∧ b < w'.heap.size ∧ w'.cell? ⟨b, off + k * 2, none⟩ = some (.int .i64 z) ∧ w'.cell? ⟨b, off + k * 2 + 1, none⟩ = some (.string ⟨s.toArray⟩) from fun w' hb => by
                have := (HT.out.below (btr HBy.out hb)).get hlt
                rw [ht] at this
                exact this)
              obtain ⟨wm, hwm⟩ : ∃ wm, wm = wr := ⟨_, rfl⟩
              have HBm := Lib.hid hbw
              rw [← hwm] at HBm
              clear ht hbw
              go_wp2
              rw [← hwm]
              clear hwm
              go_loopw [12, 14] (fun wt i wr => ∃ j : Nat, wt = .int .i64 cw ∧ i = .int .i64 j ∧ j ≤ ps.length ∧ Below wm.heap.size wm wr ∧ Hid (∀ p ∈ ps.take j, ¬ (P.actB (z, s) = true ∧ p = z))) (fun _ i _ => ps.length - (intOf i).toNat)
              case atStart => exact ⟨0, rfl, rfl, by omega, Below.refl _ _, by show ∀ _, _; simp⟩
              case round =>
                obtain ⟨j, rfl, rfl, hj, hbi, HQ⟩ := hrel
                have HBi := Lib.hid hbi
                by_cases hjl : j < ps.length
                · obtain ⟨b, off, rfl, hb, hc0, hc1⟩ := HT2.out _ (btr HBm.out hbi)
                  obtain ⟨bp, op, rfl, hbp, hd0⟩ := (HI.out.below (btr HBy.out (btr HBm.out hbi))).get hjl
                  have HTK := Lib.hid (show ps.take (j + 1) = ps.take j ++ [ps.getD j 0] by rw [List.take_succ_eq_append_getElem hjl, List.getD_eq_getElem?_getD, List.getElem?_eq_getElem hjl]; rfl)
                  have HMP := Lib.hid (show ps.getD j 0 ∈ ps by rw [List.getD_eq_getElem?_getD, List.getElem?_eq_getElem hjl]; exact List.getElem_mem hjl)
                  generalize ps.getD j 0 = p at *
                  have k0 : (0 : Int) ≤ (k : Int) := by omega
                  have k1 : (k : Int) < (ts.length : Int) := by omega
                  have j0 : (0 : Int) ≤ (j : Int) := by omega
                  have j1 : (j : Int) < (ps.length : Int) := by omega
                  have HNX := Lib.hid (show ¬ (P.actB (z, s) = true ∧ p = z) → ∀ p' ∈ ps.take (j + 1), ¬ (P.actB (z, s) = true ∧ p' = z) from fun hx p' hp' => by
                    rw [HTK.out, List.mem_append] at hp'
                    rcases hp' with hp' | hp'
                    · exact HQ.out p' hp'
                    · rw [List.mem_singleton.1 hp']; exact hx)
                  clear hbi
                  by_cases hz : z = 0
                  · have e0 : (z != 0) = false := by simp [hz]
                    have HF := Lib.hid (HNX.out (by rintro ⟨h1, -⟩; simp [P.actB, hz] at h1))
                    clear hz
                    go_wp2_with fail
                    go_quiet (fail)
                    go_wp2
                    go_roundw
                    case rel => first | exact ⟨j + 1, rfl, by go_num, by omega, bdN HBi.out _, HF.out⟩ | ((repeat apply Exists.intro); exact ⟨⟨j + 1, rfl, by go_num, by omega, bdN HBi.out _, HF.out⟩, rfl⟩)
                    case measure => simp [intOf]; omega
                  · have e0 : (z != 0) = true := by simp [hz]
                    rcases List.eq_nil_or_concat s with hs | hs
                    · subst hs
                      have HF := Lib.hid (HNX.out (by rintro ⟨h1, -⟩; simp [P.actB] at h1))
                      clear hz
                      go_wp2_with fail
                      go_quiet (fail)
                      go_wp2
                      go_roundw
                      case rel => first | exact ⟨j + 1, rfl, by go_num, by omega, bdN HBi.out _, HF.out⟩ | ((repeat apply Exists.intro); exact ⟨⟨j + 1, rfl, by go_num, by omega, bdN HBi.out _, HF.out⟩, rfl⟩)
                      case measure => simp [intOf]; omega
                    · have hs1 : s ≠ [] := by rintro rfl; simp at hs
                      have hs2 : s.isEmpty = false := by cases s; simp at hs1; rfl
                      have hs3 : (s != []) = true := by simpa using hs1
                      by_cases hp : p = z
                      · have e2 : (p == z) = true := by simp [hp]
                        have HF := Lib.hid (show cw + 1 + P.cntAt ts ps (k + 1) = W by
                          have h1 := HYES.out (by unfold P.cntB P.actB; simp only [Bool.and_eq_true, decide_eq_true_eq]; exact ⟨⟨e0, hs3⟩, by rw [← hp]; exact HMP.out⟩)
                          have h2 := HC.out
                          omega)
                        clear hz hs hs1 hp hs3
                        go_wp2_with fail
                        go_quiet (fail)
                        go_wp2
                        go_roundw
                        case rel => first | exact ⟨k + 1, cw + 1, by go_num, by go_num, by omega, btr HBm.out (bdN HBi.out _), HF.out⟩ | ((repeat apply Exists.intro); exact ⟨⟨k + 1, cw + 1, by go_num, by go_num, by omega, btr HBm.out (bdN HBi.out _), HF.out⟩, rfl⟩)
                        case measure => simp [intOf]; omega
                      · have e2 : (p == z) = false := by simp [hp]
                        have HF := Lib.hid (HNX.out (by rintro ⟨-, h1⟩; exact hp h1))
                        clear hz hs hs1 hp hs3
                        go_wp2_with fail
                        go_quiet (fail)
                        go_wp2
                        go_roundw
                        case rel => first | exact ⟨j + 1, rfl, by go_num, by omega, bdN HBi.out _, HF.out⟩ | ((repeat apply Exists.intro); exact ⟨⟨j + 1, rfl, by go_num, by omega, bdN HBi.out _, HF.out⟩, rfl⟩)
                        case measure => simp [intOf]; omega
                · have HF := Lib.hid (show cw + P.cntAt ts ps (k + 1) = W by
                    have h1 := HNO.out (by
                      unfold P.cntB
                      cases ha : P.actB (z, s) with
                      | false => rfl
                      | true =>
                        simp only [Bool.true_and, decide_eq_false_iff_not]
                        intro hm
                        exact HQ.out z (by rw [List.take_of_length_le (by omega)]; exact hm) ⟨ha, rfl⟩)
                    have h2 := HC.out
                    omega)
                  clear hbi
                  go_wp2
                  go_roundw
                  case rel => first | exact ⟨k + 1, cw, rfl, by go_num, by omega, btr HBm.out HBi.out, HF.out⟩ | ((repeat apply Exists.intro); exact ⟨⟨k + 1, cw, rfl, by go_num, by omega, btr HBm.out HBi.out, HF.out⟩, rfl⟩)
                  case measure => simp [intOf]; omega
            · have HF := Lib.hid (show cw = nn by have h1 := HC.out; have h2 := HNW.out; rw [P.cntAt_end hlt] at h1; omega)
              have HBw2 := Lib.hid (btr HBy.out hbw)
              have e5 : ((nn : Int) == (cw : Int)) = true := by have := HF.out; simp; omega
              clear hbw
              go_wp2_with fail
              refine (HA.out _ HBw2.out).mono ?_
              rintro e w6 ⟨rfl, hb6⟩
              have HB6 := Lib.hid (btr HBw2.out hb6)
              clear hb6
              go_wp2
              go_ret
              exact ⟨rfl, HB6.out⟩
        · have HQ4 := Lib.hid (show nn + 1 + P.cnt ts zs = W by have := HC.out; omega)
          have hs2 : s.isEmpty = false := by cases s; exact absurd rfl q2; rfl
          have g1 : (m ≤ last) = False := eq_false (by omega)
          have g2 : ((rs.length : Int) ≤ (zs.length : Int)) = False := eq_false (by omega)
          have HQ3 := Lib.hid q3
          have HQ5 := Lib.hid q5
          have HQ6 := Lib.hid (show ∀ z ∈ zs, z ∈ ps from fun z hz => HM.out z (q6 z hz))
          clear q1 q2 q3 q4 q5 q6
          go_wp2_with fail
          refine HN.out.mono ?_
          rintro e w2 ⟨A2, c2, rfl, hI2, hb2⟩
          have HB2 := Lib.hid (btr HBw.out hb2)
          obtain ⟨x2, hx2⟩ : ∃ x, x = w2.alloc (.cells #[.int .i64 m, .string ⟨s.toArray⟩] 30) := ⟨_, rfl⟩
          have HX2 := Lib.hid hx2
          have HBx := Lib.hid (show Below w.heap.size w x2 by rw [hx2]; exact btr HB2.out (balloc _ _))
          have HIx := Lib.hid (show IL .i64 x2 A2 zs by rw [hx2]; exact hI2.below (balloc _ _))
          clear hx2 hb2 hI2
          simp only
          go_wp2
          rw [← HX2.out]
          clear HX2
          go_roundw
          case rel => exact ⟨k + 1, nn + 1, m, zs, A2, c2, rfl, by go_num, rfl, by go_num, by have := HQ3.out; omega, HIx.out, HBx.out, HQ4.out, HQ5.out, HQ6.out⟩
          case measure => simp [intOf]; omega
end W
end Go.Proofs.YtfigidknocpdaaaDoor
