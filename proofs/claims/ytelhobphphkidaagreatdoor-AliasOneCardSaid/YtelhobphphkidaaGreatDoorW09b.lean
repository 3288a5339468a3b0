/- Chapter 9: few, Valid and its reference, the reference's Get. -/
import Derived.Test.YtelhobphphkidaaGreatDoorW09a
import Derived.StillTailTactics
namespace Go.Proofs.YtelhobphphkidaaGreatDoor
open Go.RowKit K
theorem binOp_leq_al (t : TypeId) (a b : List UInt8) : binOp .leq t (.string ⟨a.toArray⟩) (.string ⟨b.toArray⟩) = pure (.bool (!decide (b < a))) := by
  rw [binOp_string_leq, Lib.toList_data, Lib.toList_data, Proofs.bytesLess_eq]
  congr 2
  by_cases h : a < b
  · have : ¬ b < a := fun h' => List.lt_irrefl a (List.lt_trans h h')
    simp [h, this]
  · by_cases h2 : a = b
    · subst h2; simp
    · have := AL.lt_of_not h h2
      simp [h, this, h2]
theorem binOp_geq_al (t : TypeId) (a b : List UInt8) : binOp .geq t (.string ⟨a.toArray⟩) (.string ⟨b.toArray⟩) = pure (.bool (!decide (a < b))) := by
  rw [binOp_string_geq, Lib.toList_data, Lib.toList_data, Proofs.bytesLess_eq]
theorem binOp_lss_al (t : TypeId) (a b : List UInt8) : binOp .lss t (.string ⟨a.toArray⟩) (.string ⟨b.toArray⟩) = pure (.bool (decide (a < b))) := by
  rw [binOp_string_lss, Lib.toList_data, Lib.toList_data, Proofs.bytesLess_eq]
namespace AL
def tot : List Al → Nat
  | [] => 0
  | a :: r => a.1.length + a.2.length + tot r
theorem tot_append : ∀ a b : List Al, tot (a ++ b) = tot a + tot b
  | [], b => by simp [tot]
  | q :: r, b => by rw [List.cons_append, tot, tot, tot_append r b]; omega
theorem tot_mem : ∀ {l : List Al} {q : Al}, q ∈ l → q.1.length + q.2.length ≤ tot l
  | [], q, h => by simp at h
  | x :: r, q, h => by
    rw [tot]
    rcases List.mem_cons.1 h with rfl | h
    · omega
    · have := tot_mem h; omega
def fewB (l : List Al) : Bool := decide (l.length ≤ 70) && decide (tot l ≤ 10000)
theorem take_one {α : Type} {l : List α} {k : Nat} {x : α} (h : l[k]? = some x) : l.take (k + 1) = l.take k ++ [x] := by
  rw [List.take_add_one, h]
  rfl
/-- The name ahead of an index. -/
def prev (l : List Al) (k : Nat) : Option Str := if k = 0 then none else (l[k - 1]?).map (·.1)
end AL
namespace W
set_option maxRecDepth 100000 in
set_option maxHeartbeats 4000000 in
theorem few_any (l : List AL.Al) (v : Value) (w : World) (hA : AS w v l) (hz : ∀ a ∈ l, a.1.length ≤ 140737488351232 ∧ a.2.length ≤ 140737488351232) : Calls Tryz.prog 10 #[v] w fun e w' => e = .returned (.bool (AL.fewB l)) ∧ Below w.heap.size w w' := by
  obtain ⟨A, c, rfl⟩ := hA.slice
  have HA := Lib.hid hA
  have HZ := Lib.hid hz
  obtain ⟨m, hm⟩ : ∃ m, m = l.length := ⟨_, rfl⟩
  have HM := Lib.hid hm
  rw [← hm]
  have m0 : (0 : Int) ≤ (m : Int) := by omega
  clear hA hz
  by_cases h70 : m ≤ 70
  case neg =>
    have t1 : ((70 : Int) < (m : Int)) = True := eq_true (by omega)
    have HRE := Lib.hid (show AL.fewB l = false by unfold AL.fewB; rw [decide_eq_false (by omega)]; rfl)
    clear h70 hm
    go_enter Tryz.func10, Tryz.ntmps10
    go_wp2
    go_ret
    exact ⟨ret_bool HRE.out.symm, Below.refl _ _⟩
  have t1 : ((70 : Int) < (m : Int)) = False := eq_false (by omega)
  have m70 : (m : Int) ≤ 70 := by omega
  have HRE := Lib.hid (show AL.fewB l = decide (AL.tot l ≤ 10000) by unfold AL.fewB; rw [decide_eq_true (by omega), Bool.true_and])
  clear h70 hm
  go_enter Tryz.func10, Tryz.ntmps10
  go_wp2
  go_loopg [3, 4] m (fun g x i wr => ∃ k sm : Nat, k ≤ m ∧ g = m - k ∧ i = .int .i64 k ∧ x = .int .i64 sm ∧ Hid (Below w.heap.size w wr) ∧ Hid (sm = AL.tot (l.take k)) ∧ Hid (sm ≤ 10000))
  case atStart => exact ⟨0, 0, Nat.zero_le _, rfl, rfl, rfl, Lib.hid (Below.refl _ _), Lib.hid rfl, Lib.hid (by omega)⟩
  case round =>
    obtain ⟨k, sm, hk, rfl, rfl, rfl, HBW, HSM, HLE⟩ := hrel
    by_cases hlt : k < m
    · have hlt2 : (k : Int) < (m : Int) := by omega
      obtain ⟨⟨nm, vl⟩, b, off, ha, rfl, hb, c0, c1⟩ := (HA.out.go HBW.out).get (k := k) (by have := HM.out; omega)
      dsimp only at c0 c1
      obtain ⟨z1, z2⟩ := HZ.out _ (List.mem_of_getElem? ha)
      dsimp only at z1 z2
      obtain ⟨s1, hs1⟩ : ∃ s1 : Nat, s1 = sm + nm.length := ⟨_, rfl⟩
      obtain ⟨sn, hsn⟩ : ∃ sn : Nat, sn = s1 + vl.length := ⟨_, rfl⟩
      have HSN := Lib.hid (show sn = AL.tot (l.take (k + 1)) by rw [hsn, hs1, HSM.out, AL.take_one ha, AL.tot_append]; simp [AL.tot]; omega)
      have HLT := Lib.hid hlt
      have s0 : (0 : Int) ≤ (sm : Int) := by omega
      have s10 : (0 : Int) ≤ (s1 : Int) := by omega
      have sn0 : (0 : Int) ≤ (sn : Int) := by omega
      have v0 : (0 : Int) ≤ (nm.length : Int) := by omega
      have v1 : (0 : Int) ≤ (vl.length : Int) := by omega
      have w1 : IntKind.i64.wrap ((sm : Int) + (nm.length : Int)) = (s1 : Int) := by rw [IntWalk.i64_in _ (by have := HLE.out; omega)]; omega
      have w2 : IntKind.i64.wrap ((s1 : Int) + (vl.length : Int)) = (sn : Int) := by rw [IntWalk.i64_in _ (by have := HLE.out; omega)]; omega
      have W1 := Lib.hid w1
      have W2 := Lib.hid w2
      clear ha z1 z2 hs1 hsn w1 w2
      by_cases h5 : sn ≤ 10000
      · have t5 : ((10000 : Int) < (sn : Int)) = False := eq_false (by omega)
        have H5 := Lib.hid h5
        clear h5
        have w1 := W1.out
        have w2 := W2.out
        go_wp2_with fail
        go_quiet (fail)
        go_wp2
        go_roundg (m - (k + 1))
        case measure => have := HLT.out; omega
        case rel => exact ⟨k + 1, sn, HLT.out, rfl, by go_num, rfl, Lib.hid (by first | exact bdN HBW.out _ | exact HBW.out), HSN, H5⟩
      · have t5 : ((10000 : Int) < (sn : Int)) = True := eq_true (by omega)
        have HF := Lib.hid (show AL.fewB l = false by
          rw [HRE.out, decide_eq_false]
          have h1 := HSN.out
          have h2 := List.take_append_drop (k + 1) l
          have h3 : AL.tot (l.take (k + 1)) ≤ AL.tot l := by conv => rhs; rw [← h2, AL.tot_append]
                                                             omega
          omega)
        clear h5
        have w1 := W1.out
        have w2 := W2.out
        go_wp2_with fail
        go_quiet (fail)
        go_wp2
        go_ret
        exact ⟨ret_bool HF.out.symm, by first | exact bdN HBW.out _ | exact HBW.out⟩
    · have hlt2 : ¬ (k : Int) < (m : Int) := by omega
      have hkm : k = m := by omega
      have HF := Lib.hid (show AL.fewB l = true by
        rw [HRE.out, decide_eq_true]
        have h1 := HSM.out
        rw [hkm, HM.out, List.take_length] at h1
        have := HLE.out
        omega)
      clear hkm
      go_wp2
      go_ret
      exact ⟨ret_bool HF.out.symm, HBW.out⟩
set_option maxRecDepth 100000 in
set_option maxHeartbeats 4000000 in
theorem Valid_any (l : List AL.Al) (v : Value) (w : World) (hA : AS w v l) (hz : ∀ a ∈ l, a.1.length ≤ 10000 ∧ a.2.length ≤ 10000) : Calls Tryz.prog 12 #[v] w fun e w' => e = .returned (.int .i64 (AL.valid l)) ∧ Below w.heap.size w w' := by
  obtain ⟨A, c, rfl⟩ := hA.slice
  have HA := Lib.hid hA
  have HZ := Lib.hid hz
  obtain ⟨m, hm⟩ : ∃ m, m = l.length := ⟨_, rfl⟩
  have HM := Lib.hid hm
  rw [← hm]
  have m0 : (0 : Int) ≤ (m : Int) := by omega
  obtain ⟨R, hR⟩ : ∃ R, AL.valid l = R := ⟨_, rfl⟩
  rw [hR]
  unfold AL.valid at hR
  clear hA hz
  by_cases h64 : 64 < l.length
  · have t1 : ((64 : Int) < (m : Int)) = True := eq_true (by omega)
    rw [if_pos h64] at hR
    have HRE := Lib.hid hR
    clear h64 hm hR
    go_enter Tryz.func12, Tryz.ntmps12
    go_wp2
    go_ret
    exact ⟨ret_int HRE.out, Below.refl _ _⟩
  have t1 : ((64 : Int) < (m : Int)) = False := eq_false (by omega)
  have m64 : (m : Int) ≤ 64 := by omega
  rw [if_neg h64] at hR
  have HR0 := Lib.hid (show AL.vfrom (AL.prev l 0) (l.drop 0) = R from hR)
  clear h64 hm hR
  go_enter Tryz.func12, Tryz.ntmps12
  go_wp2
  go_loopg [10] m (fun g i wr => ∃ k : Nat, k ≤ m ∧ g = m - k ∧ i = .int .i64 k ∧ Hid (AL.vfrom (AL.prev l k) (l.drop k) = R) ∧ Hid (Below w.heap.size w wr))
  case atStart => exact ⟨0, Nat.zero_le _, rfl, rfl, HR0, Lib.hid (Below.refl _ _)⟩
  case round =>
    obtain ⟨k, hk, rfl, rfl, HK, HB⟩ := hrel
    clear HR0
    by_cases hlt : k < m
    · have hlt2 : (k : Int) < (m : Int) := by omega
      obtain ⟨⟨nm, vl⟩, b, off, ha, rfl, hb, c0, c1⟩ := (HA.out.go HB.out).get (k := k) (by have := HM.out; omega)
      dsimp only at c0 c1
      obtain ⟨z1, z2⟩ := HZ.out _ (List.mem_of_getElem? ha)
      dsimp only at z1 z2
      have hd : l.drop k = (nm, vl) :: l.drop (k + 1) := by
        obtain ⟨h1, h2⟩ := List.getElem?_eq_some_iff.1 ha
        rw [← h2]; exact List.drop_eq_getElem_cons h1
      have hK := HK.out
      rw [hd, AL.vfrom] at hK
      dsimp only at hK
      have HK2 := Lib.hid hK
      have HAK := Lib.hid ha
      have HLT := Lib.hid hlt
      obtain ⟨V, hV⟩ : ∃ V, V = wr.alloc (.cells #[.string ⟨nm.toArray⟩, .string ⟨vl.toArray⟩] 47) := ⟨_, rfl⟩
      obtain ⟨q, hq⟩ : ∃ q, q = wr.heap.size := ⟨_, rfl⟩
      have hbv : Below wr.heap.size wr V := by rw [hV]; exact balloc _ _
      have hx := (show V.heap[q]? = some (.cells #[.string ⟨nm.toArray⟩, .string ⟨vl.toArray⟩] 47 (0, 0)) by rw [hV, hq]; exact al_new wr _)
      have HBV := Lib.hid hbv
      have HX := Lib.hid hx
      have a0 := Lib.cell_of_heap hx 0
      have HN := Lib.hid (named_any nm V (by omega))
      obtain ⟨bn, hbn⟩ : ∃ bn, AL.named nm = bn := ⟨_, rfl⟩
      rw [hbn] at HN
      have HBN := Lib.hid hbn
      have HV := Lib.hid hV
      have HQ := Lib.hid hq
      clear ha hd hK hV hq hbv hx hbn
      go_upto_region 6 with (fail)
      rw [← HV.out, ← HQ.out]
      go_wp2_with fail
      refine HN.out.mono ?_
      rintro e V2 ⟨rfl, hb2⟩
      have hx2 := (hb2.block q (Array.getElem?_eq_some_iff.1 HX.out).1).trans HX.out
      have HB2 := Lib.hid (btr HB.out (btr HBV.out hb2))
      have HBW := Lib.hid (btr HBV.out hb2)
      clear hb2 a0
      have a0 := Lib.cell_of_heap hx2 0
      have a1 := Lib.cell_of_heap hx2 1
      clear hx2
      cases bn with
      | false =>
        have HRE := Lib.hid (show R = 10 by rw [← HK2.out, if_pos HBN.out])
        go_wp2
        go_ret
        exact ⟨ret_int HRE.out.symm, HB2.out⟩
      | true =>
        by_cases h3 : 4096 < vl.length
        · have t3 : ((4096 : Int) < (vl.length : Int)) = True := eq_true (by omega)
          have HRE := Lib.hid (show R = 3 by rw [← HK2.out, if_neg (by rw [HBN.out]; simp), if_pos h3])
          clear h3
          go_wp2
          go_ret
          exact ⟨ret_int HRE.out.symm, HB2.out⟩
        have t3 : ((4096 : Int) < (vl.length : Int)) = False := eq_false (by omega)
        have HK3 := Lib.hid (show (if AL.behind (AL.prev l k) nm = true then (1 : Int) else AL.vfrom (some nm) (l.drop (k + 1))) = R by have h9 := HK2.out; rw [if_neg (by rw [HBN.out]; simp), if_neg h3] at h9; exact h9)
        have HPN := Lib.hid (show AL.prev l (k + 1) = some nm by unfold AL.prev; rw [if_neg (by omega), Nat.add_sub_cancel, HAK.out]; rfl)
        clear h3 t1
        by_cases hk0 : k = 0
        · have g0 : decide (0 < k) = false := decide_eq_false (by omega)
          have HRE := Lib.hid (show AL.vfrom (AL.prev l (k + 1)) (l.drop (k + 1)) = R by rw [HPN.out, ← HK3.out, if_neg]; unfold AL.prev; rw [if_pos hk0]; simp [AL.behind])
          clear hk0
          go_wp2_with fail
          go_quiet (fail)
          go_wp2
          go_roundg (m - (k + 1))
          case measure => have := HLT.out; omega
          case rel => exact ⟨k + 1, HLT.out, rfl, by go_num, HRE, Lib.hid (by first | exact bdN HB2.out _ | exact HB2.out)⟩
        · have g0 : decide (0 < k) = true := decide_eq_true (by omega)
          obtain ⟨⟨pn, pv⟩, b', off', hpa, hbb, hb', p0, p1⟩ := (HA.out.go HB2.out).get (k := k - 1) (by have := HM.out; have := HLT.out; omega)
          injection hbb with hbb
          injection hbb with e1 e2
          subst e1 e2
          dsimp only at p0 p1
          obtain ⟨j, hj⟩ : ∃ j, j = k - 1 := ⟨_, rfl⟩
          have HBH := Lib.hid (show AL.behind (AL.prev l k) nm = !decide (pn < nm) by unfold AL.prev; rw [if_neg hk0, hpa]; rfl)
          obtain ⟨cmp, hcmp⟩ : ∃ cmp, (!decide (pn < nm)) = cmp := ⟨_, rfl⟩
          have hbo := fun t => (binOp_leq_al t nm pn).trans (by rw [hcmp])
          rw [hcmp] at HBH
          have k1 : wrap64 ((k : Int) - 1) = (j : Int) := by unfold RowKit.wrap64; omega
          have k1' : IntKind.i64.wrap ((k : Int) - 1) = (j : Int) := by rw [IntWalk.i64_in _ (by omega)]; omega
          have j0 : (0 : Int) ≤ (j : Int) := by omega
          have j1 : (j : Int) < (m : Int) := by omega
          have j2 : ((j : Int)).toNat = j := by omega
          rw [← hj] at p0 p1
          clear hpa hk0 hj hcmp
          rcases (show cmp = true ∨ cmp = false by cases cmp <;> simp) with rfl | rfl
          · have HRE := Lib.hid (show R = 1 by rw [← HK3.out, if_pos HBH.out])
            go_wp2_with fail
            go_quiet (fail)
            go_wp2
            go_ret
            exact ⟨ret_int HRE.out.symm, by first | exact bdN HB2.out _ | exact HB2.out⟩
          · have HRE := Lib.hid (show AL.vfrom (AL.prev l (k + 1)) (l.drop (k + 1)) = R by rw [HPN.out, ← HK3.out, if_neg]; rw [HBH.out]; simp)
            go_wp2_with fail
            go_quiet (fail)
            go_wp2
            go_roundg (m - (k + 1))
            case measure => have := HLT.out; omega
            case rel => exact ⟨k + 1, HLT.out, rfl, by go_num, HRE, Lib.hid (by first | exact bdN HB2.out _ | exact HB2.out)⟩
    · have hlt2 : ¬ (k : Int) < (m : Int) := by omega
      have HRE := Lib.hid (show R = 0 by rw [← HK.out, List.drop_eq_nil_of_le (by have := HM.out; omega)]; simp [AL.vfrom])
      go_wp2
      go_ret
      exact ⟨ret_int HRE.out.symm, HB.out⟩
end W
end Go.Proofs.YtelhobphphkidaaGreatDoor
