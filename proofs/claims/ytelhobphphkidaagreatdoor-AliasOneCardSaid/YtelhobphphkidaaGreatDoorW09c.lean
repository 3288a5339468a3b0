/- Chapter 9: the reference's Valid and Get. -/
import Derived.Test.YtelhobphphkidaaGreatDoorW09b
namespace Go.Proofs.YtelhobphphkidaaGreatDoor
open Go.RowKit K
namespace W
set_option maxRecDepth 100000 in
set_option maxHeartbeats 4000000 in
theorem Valid_ref (l : List AL.Al) (v : Value) (w : World) (hA : AS w v l) (hz : ∀ a ∈ l, a.1.length ≤ 10000 ∧ a.2.length ≤ 10000) : Calls Tryz.prog 13 #[v] w fun e w' => e = .returned (.int .i64 (AL.valid l)) ∧ Below w.heap.size w w' := by
  obtain ⟨A, c, rfl⟩ := hA.slice
  have HA := Lib.hid hA
  have HZ := Lib.hid hz
  obtain ⟨m, hm⟩ : ∃ m, m = l.length := ⟨_, rfl⟩
  have HM := Lib.hid hm
  rw [← hm]
  have m0 : (0 : Int) ≤ (m : Int) := by omega
  obtain ⟨R, hR⟩ : ∃ R, AL.valid l = R := ⟨_, rfl⟩
  rw [hR]
  unfold AL.valid at hR
  clear hA hz
  by_cases h64 : 64 < l.length
  · have t1 : ((64 : Int) < (m : Int)) = True := eq_true (by omega)
    rw [if_pos h64] at hR
    have HRE := Lib.hid hR
    clear h64 hm hR
    go_enter Tryz.func13, Tryz.ntmps13
    go_wp2
    go_ret
    exact ⟨ret_int HRE.out, Below.refl _ _⟩
  have t1 : ((64 : Int) < (m : Int)) = False := eq_false (by omega)
  have m64 : (m : Int) ≤ 64 := by omega
  rw [if_neg h64] at hR
  have HR0 := Lib.hid (show AL.vfrom (AL.prev l 0) (l.drop 0) = R from hR)
  clear h64 hm hR
  go_enter Tryz.func13, Tryz.ntmps13
  go_wp2
  go_loopg [3] m (fun g i wr => ∃ k : Nat, k ≤ m ∧ g = m - k ∧ i = .int .i64 k ∧ Hid (AL.vfrom (AL.prev l k) (l.drop k) = R) ∧ Hid (Below w.heap.size w wr))
  case atStart => exact ⟨0, Nat.zero_le _, rfl, rfl, HR0, Lib.hid (Below.refl _ _)⟩
  case round =>
    obtain ⟨k, hk, rfl, rfl, HK, HB⟩ := hrel
    clear HR0
    by_cases hlt : k < m
    · have hlt2 : (k : Int) < (m : Int) := by omega
      obtain ⟨⟨nm, vl⟩, b, off, ha, rfl, hb, c0, c1⟩ := (HA.out.go HB.out).get (k := k) (by have := HM.out; omega)
      dsimp only at c0 c1
      obtain ⟨z1, z2⟩ := HZ.out _ (List.mem_of_getElem? ha)
      dsimp only at z1 z2
      have hd : l.drop k = (nm, vl) :: l.drop (k + 1) := by
        obtain ⟨h1, h2⟩ := List.getElem?_eq_some_iff.1 ha
        rw [← h2]; exact List.drop_eq_getElem_cons h1
      have hK := HK.out
      rw [hd, AL.vfrom] at hK
      dsimp only at hK
      have HK2 := Lib.hid hK
      have HAK := Lib.hid ha
      have HLT := Lib.hid hlt
      have HN := Lib.hid (name_ref nm wr (by omega))
      obtain ⟨bn, hbn⟩ : ∃ bn, AL.named nm = bn := ⟨_, rfl⟩
      rw [hbn] at HN
      have HBN := Lib.hid hbn
      clear ha hd hK hbn
      go_wp2_with fail
      refine HN.out.mono ?_
      rintro e V2 ⟨rfl, rfl⟩
      have HB2 := HB
      cases bn with
      | false =>
        have HRE := Lib.hid (show R = 10 by rw [← HK2.out, if_pos HBN.out])
        go_wp2
        go_ret
        exact ⟨ret_int HRE.out.symm, HB2.out⟩
      | true =>
        by_cases h3 : 4096 < vl.length
        · have t3 : ((4096 : Int) < (vl.length : Int)) = True := eq_true (by omega)
          have HRE := Lib.hid (show R = 3 by rw [← HK2.out, if_neg (by rw [HBN.out]; simp), if_pos h3])
          clear h3
          go_wp2
          go_ret
          exact ⟨ret_int HRE.out.symm, HB2.out⟩
        have t3 : ((4096 : Int) < (vl.length : Int)) = False := eq_false (by omega)
        have HK3 := Lib.hid (show (if AL.behind (AL.prev l k) nm = true then (1 : Int) else AL.vfrom (some nm) (l.drop (k + 1))) = R by have h9 := HK2.out; rw [if_neg (by rw [HBN.out]; simp), if_neg h3] at h9; exact h9)
        have HPN := Lib.hid (show AL.prev l (k + 1) = some nm by unfold AL.prev; rw [if_neg (by omega), Nat.add_sub_cancel, HAK.out]; rfl)
        clear h3 t1
        by_cases hk0 : k = 0
        · have g0 : decide (0 < k) = false := decide_eq_false (by omega)
          have HRE := Lib.hid (show AL.vfrom (AL.prev l (k + 1)) (l.drop (k + 1)) = R by rw [HPN.out, ← HK3.out, if_neg]; unfold AL.prev; rw [if_pos hk0]; simp [AL.behind])
          clear hk0
          go_wp2_with fail
          go_quiet (fail)
          go_wp2
          go_roundg (m - (k + 1))
          case measure => have := HLT.out; omega
          case rel => exact ⟨k + 1, HLT.out, rfl, by go_num, HRE, Lib.hid (by first | exact bdN HB2.out _ | exact HB2.out)⟩
        · have g0 : decide (0 < k) = true := decide_eq_true (by omega)
          obtain ⟨⟨pn, pv⟩, b', off', hpa, hbb, hb', p0, p1⟩ := (HA.out.go HB2.out).get (k := k - 1) (by have := HM.out; have := HLT.out; omega)
          injection hbb with hbb
          injection hbb with e1 e2
          subst e1 e2
          dsimp only at p0 p1
          obtain ⟨j, hj⟩ : ∃ j, j = k - 1 := ⟨_, rfl⟩
          have HBH := Lib.hid (show AL.behind (AL.prev l k) nm = !decide (pn < nm) by unfold AL.prev; rw [if_neg hk0, hpa]; rfl)
          obtain ⟨cmp, hcmp⟩ : ∃ cmp, (!decide (pn < nm)) = cmp := ⟨_, rfl⟩
          have hbo := fun t => (binOp_geq_al t pn nm).trans (by rw [hcmp])
          rw [hcmp] at HBH
          have k1 : wrap64 ((k : Int) - 1) = (j : Int) := by unfold RowKit.wrap64; omega
          have k1' : IntKind.i64.wrap ((k : Int) - 1) = (j : Int) := by rw [IntWalk.i64_in _ (by omega)]; omega
          have j0 : (0 : Int) ≤ (j : Int) := by omega
          have j1 : (j : Int) < (m : Int) := by omega
          have j2 : ((j : Int)).toNat = j := by omega
          rw [← hj] at p0 p1
          clear hpa hk0 hj hcmp
          rcases (show cmp = true ∨ cmp = false by cases cmp <;> simp) with rfl | rfl
          · have HRE := Lib.hid (show R = 1 by rw [← HK3.out, if_pos HBH.out])
            go_wp2_with fail
            go_quiet (fail)
            go_wp2
            go_ret
            exact ⟨ret_int HRE.out.symm, by first | exact bdN HB2.out _ | exact HB2.out⟩
          · have HRE := Lib.hid (show AL.vfrom (AL.prev l (k + 1)) (l.drop (k + 1)) = R by rw [HPN.out, ← HK3.out, if_neg]; rw [HBH.out]; simp)
            go_wp2_with fail
            go_quiet (fail)
            go_wp2
            go_roundg (m - (k + 1))
            case measure => have := HLT.out; omega
            case rel => exact ⟨k + 1, HLT.out, rfl, by go_num, HRE, Lib.hid (by first | exact bdN HB2.out _ | exact HB2.out)⟩
    · have hlt2 : ¬ (k : Int) < (m : Int) := by omega
      have HRE := Lib.hid (show R = 0 by rw [← HK.out, List.drop_eq_nil_of_le (by have := HM.out; omega)]; simp [AL.vfrom])
      go_wp2
      go_ret
      exact ⟨ret_int HRE.out.symm, HB.out⟩
theorem Get_ref (l : List AL.Al) (n : List UInt8) (v : Value) (w : World) (hA : AS w v l) (hl : l.length ≤ 1000000) : Calls Tryz.prog 20 #[v, .string ⟨n.toArray⟩] w fun e w' => e = .returned (.tuple #[.string ⟨((AL.get l n).getD []).toArray⟩, .bool (AL.get l n).isSome]) ∧ w = w' := by
  obtain ⟨A, c, rfl⟩ := hA.slice
  obtain ⟨R, hR⟩ : ∃ R, AL.get l n = R := ⟨_, rfl⟩
  rw [hR]
  have HA := Lib.hid hA
  have HR := Lib.hid (show AL.get (l.drop 0) n = R from hR)
  have hln : (l.length : Int) ≤ 1000000 := by omega
  clear hA hR
  go_enter Tryz.func20, Tryz.ntmps20
  go_wp2
  go_loopg [6] l.length (fun g i wr => ∃ k : Nat, k ≤ l.length ∧ g = l.length - k ∧ i = .int .i64 k ∧ Hid (AL.get (l.drop k) n = R) ∧ wr = w)
  case atStart => exact ⟨0, Nat.zero_le _, rfl, rfl, HR, rfl⟩
  case round =>
    obtain ⟨k, hk, rfl, rfl, HK, rfl⟩ := hrel
    clear HR
    by_cases hlt : k < l.length
    · have hlt2 : (k : Int) < (l.length : Int) := by omega
      obtain ⟨⟨nm, vl⟩, b, off, ha, rfl, hb, c0, c1⟩ := HA.out.get hlt
      dsimp only at c0 c1
      have hd : l.drop k = (nm, vl) :: l.drop (k + 1) := by
        obtain ⟨h1, h2⟩ := List.getElem?_eq_some_iff.1 ha
        rw [← h2]; exact List.drop_eq_getElem_cons h1
      have hK := HK.out
      rw [hd, AL.get] at hK
      dsimp only at hK
      have HLT := Lib.hid hlt
      clear ha hd
      by_cases hn : nm = n
      · rw [if_pos hn] at hK
        have e1 : (nm == n) = true := by rw [beq_iff_eq]; exact hn
        have HRE := Lib.hid hK
        clear hK hn
        go_wp2
        go_ret2
        rw [← HRE.out]
        exact ⟨rfl, rfl⟩
      · rw [if_neg hn] at hK
        have e1 : (nm == n) = false := by rw [beq_eq_false_iff_ne]; exact hn
        have HRE := Lib.hid hK
        clear hK
        go_wp2
        go_roundg (l.length - (k + 1))
        case measure => have := HLT.out; omega
        case rel => exact ⟨k + 1, HLT.out, rfl, by go_num, HRE, rfl⟩
    · have hlt2 : ¬ (k : Int) < (l.length : Int) := by omega
      have HRE := Lib.hid (show none = R by rw [← HK.out, List.drop_eq_nil_of_le (by omega)]; rfl)
      go_wp2
      go_ret2
      rw [← HRE.out]
      exact ⟨rfl, rfl⟩
end W
end Go.Proofs.YtelhobphphkidaaGreatDoor
