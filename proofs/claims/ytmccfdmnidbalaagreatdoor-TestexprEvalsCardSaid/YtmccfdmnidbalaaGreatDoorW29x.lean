/- Chapter 29: the reference's Valid. -/
import Derived.Test.YtmccfdmnidbalaaGreatDoorW29w
import Derived.StillTailTactics
import Derived.IntWalk
import Derived.Laws.Cover1
namespace Go.Proofs.YtmccfdmnidbalaaGreatDoor
open Go.RowKit K
namespace P
def le9 (a b : List UInt8) : Bool := Op.bytesLess a b || a == b
/-- What Valid looks at, at one file. -/
def VK (fs : List Fi) (k : Nat) : Prop := pathB (fs.getD k fz).1 = true ∧ ((fs.getD k fz).2.1 = true → (fs.getD k fz).2.2 = []) ∧ (0 < k → le9 (fs.getD k fz).1 (fs.getD (k - 1) fz).1 = false)
def VF (fs : List Fi) : Prop := ∀ k, k < fs.length → VK fs k
theorem vk_step {fs : List Fi} {k : Nat} (h : ∀ i, i < k → VK fs i) (hk : VK fs k) : ∀ i, i < k + 1 → VK fs i := fun i hi => by
  rcases Nat.lt_succ_iff_lt_or_eq.1 hi with h1 | rfl
  · exact h i h1
  · exact hk
end P
theorem binOp_leq_lists (t : TypeId) (a b : List UInt8) : binOp .leq t (.string ⟨a.toArray⟩) (.string ⟨b.toArray⟩) = pure (.bool (P.le9 a b)) := by
  rw [binOp_string_leq, Lib.toList_data, Lib.toList_data]; rfl
namespace W
/-- An integer is returned, and what it tells if it is 0. -/
def ZWhen (p : Prop) (e : Ending) : Prop := ∃ z : Int, e = .returned (.int .i64 z) ∧ (z = 0 → p)
set_option maxHeartbeats 4000000 in
set_option maxRecDepth 100000 in
theorem Valid_ref (v : Value) (fs : List Fi) (w : World) (hV : FV w v fs) (hn : fs.length ≤ 40) (hs : ∀ f ∈ fs, P.smOK f) :
    Calls Tryz.prog 10 #[v] w fun e w' => ZWhen (P.VF fs) e ∧ Below w.heap.size w w' := by
  obtain ⟨A, cap, rfl, hc1, hc2, hF⟩ := hV
  have HF := Lib.hid hF
  have HS := Lib.hid hs
  have l1 : ((128 : Int) < (fs.length : Int)) = False := eq_false (by omega)
  clear hs
  by_cases h0 : fs.length = 0
  · have l2 : ((fs.length : Int) == 0) = true := by rw [h0]; rfl
    go_enter Tryz.func10, Tryz.ntmps10
    go_wp2
    go_ret
    exact ⟨⟨_, rfl, fun h => by cases h⟩, Below.refl _ _⟩
  have l2 : ((fs.length : Int) == 0) = false := by simp only [beq_eq_false_iff_ne]; omega
  have l3 : (0 : Int) < (fs.length : Int) := by omega
  obtain ⟨b0, off0, rfl, hb0, z0, -, -⟩ := hF 0 (by omega)
  simp only [Nat.zero_mul, Nat.add_zero] at z0
  have HZ0 := Lib.hid z0
  clear hF
  cases hr : ((fs.getD 0 fz).1 == [47]) with
  | false =>
    generalize (fs.getD 0 fz).1 = p0 at *
    have hr2 : (p0 != [47]) = true := by unfold bne; rw [hr]; rfl
    go_enter Tryz.func10, Tryz.ntmps10
    go_wp2
    go_ret
    exact ⟨⟨_, rfl, fun h => by cases h⟩, Below.refl _ _⟩
  | true =>
    generalize (fs.getD 0 fz).1 = p0 at *
    have hr2 : (p0 != [47]) = false := by unfold bne; rw [hr]; rfl
    go_enter Tryz.func10, Tryz.ntmps10
    go_wp2
    clear z0 hr hr2
    go_loopw [3] (fun i wr => ∃ k : Nat, k ≤ fs.length ∧ i = .int .i64 k ∧ Below w.heap.size w wr ∧ Hid (∀ i, i < k → P.VK fs i)) (fun i _ => fs.length - (intOf i).toNat)
    case atStart => exact ⟨0, by omega, rfl, Below.refl _ _, fun i hi => absurd hi (by omega)⟩
    case round =>
      obtain ⟨k, hk, rfl, hbw, HK⟩ := hrel
      have HB := Lib.hid hbw
      by_cases hlt : k < fs.length
      · obtain ⟨b, off, hbo, hb, c0, c1, c2⟩ := (HF.out.below hbw) k hlt
        simp at hbo
        obtain ⟨rfl, rfl⟩ := hbo
        have HVS := Lib.hid (fun hv => P.vk_step HK.out (show P.VK fs k from hv))
        have HVK := Lib.hid (show P.VK fs k = (P.pathB (fs.getD k fz).1 = true ∧ ((fs.getD k fz).2.1 = true → (fs.getD k fz).2.2 = []) ∧ (0 < k → P.le9 (fs.getD k fz).1 (fs.getD (k - 1) fz).1 = false)) from rfl)
        have hmem : fs.getD k fz ∈ fs := by rw [List.getD_eq_getElem?_getD, List.getElem?_eq_getElem hlt]; exact List.getElem_mem hlt
        have hsm := HS.out _ hmem
        obtain ⟨⟨q, d, cc⟩, hf⟩ : ∃ f, fs.getD k fz = f := ⟨_, rfl⟩
        rw [hf] at c0 c1 c2 HVK hsm
        simp only at c0 c1 c2 HVK
        unfold P.smOK at hsm
        simp only at hsm
        have k0 : (0 : Int) ≤ (k : Int) := by omega
        have k1 : (k : Int) < (fs.length : Int) := by omega
        obtain ⟨y, hy⟩ : ∃ y, y = wr.alloc (.cells #[.string ⟨q.toArray⟩, .bool d, .string ⟨cc.toArray⟩] 35) := ⟨_, rfl⟩
        have HY := Lib.hid hy
        have HYH := Lib.hid (show y.heap[wr.heap.size]? = some (.cells #[.string ⟨q.toArray⟩, .bool d, .string ⟨cc.toArray⟩] 35 (0, 0)) by rw [hy]; exact heap_alloc_new wr _)
        have HBY := Lib.hid (show Below wr.heap.size wr y by rw [hy]; exact balloc _ _)
        have hyl : wr.heap.size < y.heap.size := by rw [hy]; simp
        have HIP := Lib.hid (fun w => IsPath_ref q w (by omega))
        have HPAR := Lib.hid (fun w v (h : FV w v (fs.take k)) => parent_weak v (fs.take k) q w h (by rw [List.length_take]; omega) (by omega))
        have HCL := Lib.hid (show ¬ 8192 < cc.length ∨ 8192 < cc.length by omega)
        clear hy hmem hf hbw hsm
        go_wp2_with fail
        rw [← HY.out]
        refine (HIP.out _).mono ?_
        rintro e w2 ⟨rfl, hb2⟩
        have HB2 := Lib.hid (btr HB.out (btr HBY.out hb2))
        have hyb := (hb2.block _ hyl).trans HYH.out
        obtain ⟨f0, f1, f2, -, -, -⟩ := box3_cells hyb
        have hyl2 : wr.heap.size < w2.heap.size := Nat.lt_of_lt_of_le hyl hb2.size
        have HP1 : Hid (P.pathB q = P.pathB q) := rfl
        cases hpq : P.pathB q with
        | false =>
          clear hb2 hyb
          go_wp2
          go_ret
          exact ⟨⟨_, rfl, fun h => by cases h⟩, HB2.out⟩
        | true =>
        have HP1 := Lib.hid hpq
        clear hyb hpq
        by_cases hd : d = true ∧ cc ≠ []
        · obtain ⟨rfl, hcc⟩ := hd
          have e1 : (cc == []) = false := by simpa using hcc
          have e2 : cc.isEmpty = false := by cases cc; exact absurd rfl hcc; rfl
          have e3 : (cc != []) = true := by simpa using hcc
          clear hcc
          go_wp2
          go_ret
          exact ⟨⟨_, rfl, fun h => by cases h⟩, HB2.out⟩
        by_cases hd2 : d = false ∧ q = [47]
        · obtain ⟨rfl, hq⟩ := hd2
          have e1 : (q == [47]) = true := by simpa using hq
          clear hq hd
          go_wp2
          go_ret
          exact ⟨⟨_, rfl, fun h => by cases h⟩, HB2.out⟩
        have HD1 := Lib.hid (show d = true → cc = [] from fun h => Classical.byContradiction fun hc => hd ⟨h, hc⟩)
        have h3 : (d = true ∧ cc = [] ∧ q = [47]) ∨ (d = true ∧ cc = [] ∧ q ≠ [47]) ∨ (d = false ∧ q ≠ [47]) := by
          cases d
          · exact .inr (.inr ⟨rfl, fun h => hd2 ⟨rfl, h⟩⟩)
          · have := HD1.out rfl
            by_cases hq : q = [47]
            · exact .inl ⟨rfl, this, hq⟩
            · exact .inr (.inl ⟨rfl, this, hq⟩)
        clear hd hd2
        by_cases hcl : 8192 < cc.length
        · have e8 : ((8192 : Int) < (cc.length : Int)) = True := eq_true (by omega)
          rcases h3 with ⟨rfl, rfl, hq⟩ | ⟨rfl, rfl, hq⟩ | ⟨rfl, hq⟩
          · exact absurd hcl (by simp)
          · exact absurd hcl (by simp)
          · have e1 : (q == [47]) = false := by simpa using hq
            clear hcl hq
            go_wp2
            go_ret
            exact ⟨⟨_, rfl, fun h => by cases h⟩, HB2.out⟩
        have e8 : ((8192 : Int) < (cc.length : Int)) = False := eq_false (by omega)
        clear hcl
        rcases h3 with ⟨rfl, rfl, hq⟩ | ⟨rfl, rfl, hq⟩ | ⟨rfl, hq⟩
        case' inl => have e1 : (q == [47]) = true := by simpa using hq
        case' inr.inl => have e1 : (q == [47]) = false := by simpa using hq
        case' inr.inr => have e1 : (q == [47]) = false := by simpa using hq
        all_goals
          clear hq
          rcases Nat.eq_zero_or_pos k with hk0 | hk0
          · subst hk0
            have HG := Lib.hid (HVS.out (by rw [HVK.out]; exact ⟨HP1.out, HD1.out, fun h => absurd h (by omega)⟩))
            simp only [Nat.zero_mul, Nat.add_zero] at c0 c1 c2
            clear hb2
            go_wp2_with fail
            go_quiet (fail)
            go_wp2
            go_roundw
            case rel => exact ⟨0 + 1, by omega, by go_num, bdN0 HB2.out _, HG.out⟩
            case measure => simp [intOf]; omega
          · obtain ⟨j, rfl⟩ : ∃ j : Nat, k = j + 1 := ⟨k - 1, by omega⟩
            have hj0 : (0 : Int) ≤ (j : Int) := by omega
            have hj1 : (j : Int) < (fs.length : Int) := by omega
            have jk : (0 : Int) < (j : Int) + 1 := by omega
            obtain ⟨b', off', hbo', hb', p0', -, -⟩ := (HF.out.below (btr HB.out (btr HBY.out hb2))) j (by omega)
            simp at hbo'
            obtain ⟨rfl, rfl⟩ := hbo'
            have HJ := Lib.hid (show fs.getD (j + 1 - 1) fz = fs.getD j fz from rfl)
            rw [HJ.out] at HVK
            generalize (fs.getD j fz) = fj at *
            obtain ⟨qj, dj, cj⟩ := fj
            simp only at p0' HVK
            have hj2 : (j : Int) + 1 ≤ (cap : Int) := by omega
            have hj3 : (0 : Int) ≤ (j : Int) + 1 := by omega
            have hj4 : ((j : Int) + 1).toNat = j + 1 := by omega
            have HFT := Lib.hid (fun w' (h : Below w.heap.size w w') => FV.take (c := cap) (j + 1) (by omega) (by omega) hc2 (HF.out.below h))
            have hjw : IntKind.i64.wrap (j : Int) = (j : Int) := IntWalk.i64_in _ (by omega)
            have hbo := fun t => binOp_leq_lists t q qj
            have HLE := Lib.hid (show P.le9 q qj = P.le9 q qj from rfl)
            generalize P.le9 q qj = L at hbo HVK
            clear hb2 HJ hk0 HLE
            cases L with
            | true =>
              go_wp2_with fail
              go_quiet (fail)
              go_wp2
              go_ret
              exact ⟨⟨_, rfl, fun h => by cases h⟩, bdN0 HB2.out _⟩
            | false =>
              have HG := Lib.hid (HVS.out (by rw [HVK.out]; refine ⟨HP1.out, ?_, fun _ => rfl⟩; (first | exact HD1.out | exact fun _ => rfl | simp)))
              go_wp2_with fail
              go_quiet (fail)
              go_wp2_with fail
              obtain ⟨w3, hw3⟩ : ∃ w3, w3 = w2.drewN nq := ⟨_, rfl⟩
              rw [← hw3]
              have HB4 := Lib.hid (show Below w.heap.size w w3 by rw [hw3]; exact bdN0 HB2.out nq)
              have g0 : w3.cell? ⟨wr.heap.size, 0, none⟩ = some (.string ⟨q.toArray⟩) := by rw [hw3]; exact f0
              clear hw3
              refine wp_region_still_tail 5 (by kernel_rfl) (by kernel_rfl) ?_
              simp only [List.take_succ_cons, List.take_zero, List.drop_succ_cons, List.drop_zero]
              repeat still_step
              refine wpStill_nil ?_
              change wpList _ _ _ _ _ w3.drew
              go_wp2_with fail
              refine (HPAR.out _ _ (HFT.out _ HB4.out.drew)).mono ?_
              rintro e w4 ⟨⟨z, rfl⟩, rfl⟩
              have HB3 := Lib.hid (show Below w.heap.size w w3.drew from HB4.out.drew)
              by_cases hz : z = 0
              · subst hz
                go_wp2
                go_roundw
                case rel => exact ⟨j + 1 + 1, by omega, by go_num, HB3.out, HG.out⟩
                case measure => simp [intOf]; omega
              · have z1 : (z != 0) = true := by simpa using hz
                have z2 : (z == 0) = false := by simpa using hz
                have HZ := Lib.hid hz
                clear hz
                go_wp2
                go_ret
                exact ⟨⟨_, rfl, fun h => absurd h HZ.out⟩, HB3.out⟩
      · have HG := Lib.hid (show P.VF fs from fun i hi => HK.out i (by omega))
        clear hbw
        go_wp2
        go_ret
        exact ⟨⟨_, rfl, fun _ => HG.out⟩, HB.out⟩
end W
end Go.Proofs.YtmccfdmnidbalaaGreatDoor
