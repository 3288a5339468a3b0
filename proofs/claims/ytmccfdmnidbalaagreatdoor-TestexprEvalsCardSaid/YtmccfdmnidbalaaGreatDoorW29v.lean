/- Chapter 29: the reference's paths and lists of files. -/
import Derived.Test.YtmccfdmnidbalaaGreatDoorW29u
namespace Go.Proofs.YtmccfdmnidbalaaGreatDoor
open Go.RowKit K
namespace P
theorem cutF_le : ∀ (s : List UInt8) (a i : Nat), a ≤ i → cutF a i s ≤ i + s.length
  | [], a, i, h => by rw [cutF]; simpa using h
  | c :: r, a, i, h => by
    rw [cutF]
    have := cutF_le r (if (c.toNat : Int) = 47 then i else a) (i + 1) (by split <;> omega)
    simp only [List.length_cons]
    omega
theorem cutL_le (s : List UInt8) : cutL s ≤ s.length := by have := cutF_le s 0 0 (Nat.le_refl _); unfold cutL; omega
end P
namespace W
theorem Parent_ref (s : List UInt8) (w : World) (hl : s.length ≤ 1000000) :
    Calls Tryz.prog 27 #[.string ⟨s.toArray⟩] w fun e w' => e = .returned (.string ⟨(P.parentS s).toArray⟩) ∧ w = w' := by
  have HC := Lib.hid (fun w => cut_ref s w hl)
  have hle := P.cutL_le s
  have HP := Lib.hid (show P.parentS s = if P.cutL s = 0 then [47] else s.take (P.cutL s) from rfl)
  generalize P.parentS s = R at HP
  generalize P.cutL s = k at *
  by_cases h0 : k = 0
  · subst h0
    have HT := Lib.hid (show R = [47] from HP.out)
    go_enter Tryz.func27, Tryz.ntmps27
    go_wp2_with fail
    refine (HC.out _).mono ?_
    rintro e w1 ⟨rfl, rfl⟩
    go_wp2
    go_ret
    exact ⟨ret_str HT.out.symm, rfl⟩
  · have h1 : ((k : Int) == 0) = false := by simp; omega
    have HT := Lib.hid (show R = s.take k by rw [HP.out, if_neg h0])
    have k1 : (k : Int) ≤ (s.length : Int) := by omega
    clear h0
    go_enter Tryz.func27, Tryz.ntmps27
    go_wp2_with fail
    refine (HC.out _).mono ?_
    rintro e w1 ⟨rfl, rfl⟩
    go_wp2
    go_ret
    exact ⟨ret_str (by rw [HT.out]; unfold cut; simp), rfl⟩
theorem Above_weak (a s : List UInt8) (w : World) :
    Calls Tryz.prog 25 #[.string ⟨a.toArray⟩, .string ⟨s.toArray⟩] w fun e w' => (∃ b, e = .returned (.bool b)) ∧ w = w' := by
  by_cases h1 : a = [47]
  · subst h1
    go_enter Tryz.func25, Tryz.ntmps25
    go_wp2
    go_ret
    exact ⟨⟨_, rfl⟩, rfl⟩
  have d1 : (a == [47]) = false := by simpa using h1
  clear h1
  by_cases h2 : a.length < s.length
  · have k2 : ((a.length : Int) < (s.length : Int)) = True := eq_true (by omega)
    have k3 : (a.length : Int) ≤ (s.length : Int) := by omega
    cases h3 : (cut s 0 a.length == a)
    · go_enter Tryz.func25, Tryz.ntmps25
      go_wp2
      go_ret
      exact ⟨⟨_, rfl⟩, rfl⟩
    · go_enter Tryz.func25, Tryz.ntmps25
      go_wp2
      go_ret
      exact ⟨⟨_, rfl⟩, rfl⟩
  · have k2 : ((a.length : Int) < (s.length : Int)) = False := eq_false (by omega)
    go_enter Tryz.func25, Tryz.ntmps25
    go_wp2
    go_ret
    exact ⟨⟨_, rfl⟩, rfl⟩
theorem find_ref (v : Value) (fs : List Fi) (p : List UInt8) (w : World) (hV : FV w v fs) (hn : fs.length ≤ 1000000) :
    Calls Tryz.prog 26 #[v, .string ⟨p.toArray⟩] w fun e w' => (∃ z : Int, e = .returned (.int .i64 z) ∧ ((z = -1 ∧ P.findF fs p = none) ∨ ∃ k : Nat, z = k ∧ k < fs.length ∧ P.findF fs p = some (fs.getD k fz))) ∧ w = w' := by
  obtain ⟨A, c, rfl, hc1, hc2, hF⟩ := hV
  obtain ⟨R, hR⟩ : ∃ R, P.findF fs p = R := ⟨_, rfl⟩
  rw [hR]
  have HR := Lib.hid (show P.findAt fs p 0 = R from hR)
  have HF := Lib.hid hF
  clear hR hF
  go_enter Tryz.func26, Tryz.ntmps26
  go_wp2
  go_loop [5] (fun i => ∃ k : Nat, k ≤ fs.length ∧ i = .int .i64 k ∧ Hid (P.findAt fs p k = R)) (fun i => fs.length - (intOf i).toNat)
  case atStart => exact ⟨0, by omega, rfl, HR.out⟩
  case round =>
    obtain ⟨k, hk, rfl, HK⟩ := hrel
    by_cases hlt : k < fs.length
    · obtain ⟨b, off, rfl, hb, c0, c1, c2⟩ := HF.out k hlt
      obtain ⟨⟨q, d, cc⟩, hf⟩ : ∃ f, fs.getD k fz = f := ⟨_, rfl⟩
      have HHIT := Lib.hid (fun he => P.findAt_hit (p := p) hlt hf he)
      have HMISS := Lib.hid (fun he => P.findAt_miss (p := p) hlt hf he)
      have HFK := Lib.hid hf
      rw [hf] at c0 c1 c2
      simp only at c0 c1 c2
      have k0 : (0 : Int) ≤ (k : Int) := by omega
      have k1 : (k : Int) < (fs.length : Int) := by omega
      clear hf
      by_cases hq : q = p
      · have e1 : (q == p) = true := by simp [hq]
        have HG := Lib.hid (show R = some (q, d, cc) by rw [← HK.out]; exact HHIT.out hq)
        clear hq
        go_wp2
        go_ret
        exact ⟨⟨_, rfl, .inr ⟨k, rfl, hlt, by rw [HG.out]; exact congrArg some HFK.out.symm⟩⟩, rfl⟩
      · have e1 : (q == p) = false := by simp [hq]
        have HG := Lib.hid (show P.findAt fs p (k + 1) = R by rw [← HK.out]; exact (HMISS.out hq).symm)
        clear hq
        go_wp2
        go_round
        case rel => exact ⟨k + 1, by omega, by go_num, HG.out⟩
        case measure => simp [intOf]; omega
    · have HG := Lib.hid (show R = none by rw [← HK.out]; unfold P.findAt; rw [List.drop_eq_nil_of_le (by omega)]; rfl)
      go_wp2
      go_ret
      exact ⟨⟨_, rfl, .inl ⟨rfl, HG.out⟩⟩, rfl⟩
theorem FV.take {w : World} {A : Option Addr} {c : Nat} {fs : List Fi} (n : Nat) (hn : n ≤ fs.length) (hc : n ≤ c) (hc2 : c ≤ 9223372036854775807) (h : FL w A fs) : FV w (.slice A n c) (fs.take n) := by
  have hl : (fs.take n).length = n := by rw [List.length_take]; omega
  refine ⟨A, c, by rw [hl], by rw [hl]; exact hc, hc2, fun i hi => ?_⟩
  rw [hl] at hi
  obtain ⟨b, off, e, hlt, h0, h1, h2⟩ := h i (by omega)
  have hg : (fs.take n).getD i fz = fs.getD i fz := by simp [List.getD_eq_getElem?_getD, hi]
  rw [hg]
  exact ⟨b, off, e, hlt, h0, h1, h2⟩
set_option maxHeartbeats 1000000 in
theorem parent_weak (v : Value) (fs : List Fi) (p : List UInt8) (w : World) (hV : FV w v fs) (hn : fs.length ≤ 1000000) (hp : p.length ≤ 1000000) :
    Calls Tryz.prog 14 #[v, .string ⟨p.toArray⟩] w fun e w' => (∃ z : Int, e = .returned (.int .i64 z)) ∧ w = w' := by
  have HPA := Lib.hid (fun w => Parent_ref p w hp)
  have HFI := Lib.hid (fun w (h : FV w v fs) => find_ref v fs (P.parentS p) w h hn)
  have HV := Lib.hid hV
  obtain ⟨A, c, rfl, hc1, hc2, hF⟩ := hV
  have HF := Lib.hid hF
  clear hF
  go_enter Tryz.func14, Tryz.ntmps14
  go_wp2
  go_loop [5] (fun i => ∃ k : Nat, k ≤ fs.length ∧ i = .int .i64 k) (fun i => fs.length - (intOf i).toNat)
  case atStart => exact ⟨0, by omega, rfl⟩
  case round =>
    obtain ⟨k, hk, rfl⟩ := hrel
    by_cases hlt : k < fs.length
    · obtain ⟨b, off, rfl, hb, c0, c1, c2⟩ := HF.out k hlt
      obtain ⟨⟨q, d, cc⟩, hf⟩ : ∃ f, fs.getD k fz = f := ⟨_, rfl⟩
      rw [hf] at c0 c1 c2
      simp only at c0 c1 c2
      have k0 : (0 : Int) ≤ (k : Int) := by omega
      have k1 : (k : Int) < (fs.length : Int) := by omega
      clear hf
      cases d with
      | true =>
        go_wp2
        go_round
        case rel => exact ⟨k + 1, by omega, by go_num⟩
        case measure => simp [intOf]; omega
      | false =>
        go_wp2_with fail
        refine (Above_weak q p _).mono ?_
        rintro e w1 ⟨⟨ab, rfl⟩, rfl⟩
        cases ab with
        | true =>
          go_wp2
          go_ret
          exact ⟨⟨_, rfl⟩, rfl⟩
        | false =>
          go_wp2
          go_round
          case rel => exact ⟨k + 1, by omega, by go_num⟩
          case measure => simp [intOf]; omega
    · go_wp2_with fail
      refine (HPA.out _).mono ?_
      rintro e w1 ⟨rfl, rfl⟩
      go_wp2_with fail
      refine (HFI.out _ HV.out).mono ?_
      rintro e w1 ⟨⟨z, rfl, hz⟩, rfl⟩
      by_cases hz0 : z < 0
      · have e1 : (z < 0) = True := eq_true hz0
        clear hz
        go_wp2
        go_ret
        exact ⟨⟨_, rfl⟩, rfl⟩
      · have e1 : (z < 0) = False := eq_false hz0
        clear hz
        go_wp2
        go_ret
        exact ⟨⟨_, rfl⟩, rfl⟩
set_option maxHeartbeats 1000000 in
theorem parts_ref (s : List UInt8) (w : World) (hl : s.length ≤ 1000000) :
    Calls Tryz.prog 23 #[.string ⟨s.toArray⟩] w fun e w' => ∃ v, e = .returned v ∧ w'.ownsRow w.heap.size 9 1 v (P.split47 s).length ((P.split47 s).map fun s => .string ⟨s.toArray⟩) ∧ Below w.heap.size w w' := by
  obtain ⟨i0, hi, hz0, hz1, hz2⟩ := info_parts infoStr
  obtain ⟨R, hR⟩ : ∃ R, P.split47 s = R := ⟨_, rfl⟩
  rw [hR]
  have HR := Lib.hid hR
  have hRl : R.length ≤ s.length + 1 := by rw [← hR]; exact P.split47_len s
  clear hR
  go_enter Tryz.func23, Tryz.ntmps23
  go_wp2
  go_loopw [3, 4, 5] (fun o f i wr => ∃ (k m : Nat) (acc : List (List UInt8)), k ≤ s.length ∧ m ≤ k ∧ f = .int .i64 m ∧ i = .int .i64 k ∧ acc.length ≤ k ∧ wr.ownsRow w.heap.size 9 1 o acc.length (acc.map fun s => .string ⟨s.toArray⟩) ∧ Below w.heap.size w wr ∧ Hid (acc ++ P.split47 (s.drop m) = R ∧ P.slash (cut s m k) = false)) (fun _ _ i _ => s.length - (intOf i).toNat)
  case atStart => exact ⟨0, 0, [], by omega, by omega, rfl, rfl, by simp, World.ownsRow_nil _ _ _ _, Below.refl _ _, by simpa using HR.out, by simp [cut, P.slash]⟩
  case round =>
    obtain ⟨k, m, acc, hk, hm, rfl, rfl, hacc, hown, hbw, HL⟩ := hrel
    have m1 : (m : Int) ≤ (k : Int) := by omega
    have k0 : (0 : Int) ≤ (k : Int) := by omega
    have m0 : (0 : Int) ≤ (m : Int) := by omega
    have HB := Lib.hid hbw
    have HO := Lib.hid hown
    have hsz := HB.out.size
    by_cases hlt : k < s.length
    · obtain ⟨x, hx, hb, -⟩ := drop_cons s k hlt
      have HX := Lib.hid hx
      have HBT := Lib.hid hb
      have k1 : (k : Int) ≤ (s.length : Int) := by omega
      clear hx hb hbw
      by_cases t1 : bt s k = 47
      · have u1 : (bt s k == 47) = true := by simpa using t1
        have HG : Hid ((acc ++ [cut s m k]) ++ P.split47 (s.drop (k + 1)) = R ∧ P.slash (cut s (k + 1) (k + 1)) = false) := by
          refine ⟨?_, by simp [cut, P.slash]⟩
          rw [← HL.out.1, P.drop_cut s m k hm, HX.out, P.u47 (c := x) (by rw [← HBT.out]; exact t1), P.split47_at HL.out.2]
          simp
        clear t1
        go_wp2_with (at_builtin; refine wpList_append_own _ rfl _ _ 22 rfl w.heap.size 9 i0 (.string ⟨#[]⟩) 1 16 Tryz.underlying22 hi hz0 hz1 hz2 rfl (by decide) _ _ _ rfl (hown.alloc _) ⟨wr.heap.size, 0, none⟩ 1 1 [.string _] rfl rfl (one_cells wr _ _) (one_str _) (by unfold maxLen; omega) (by omega) (by simp; omega) ?_)
        intro v3 w3 hown3 hgrow3 _
        have hb3 : Below w.heap.size w w3 := (HB.out.alloc HB.out.size _).grown hgrow3 (by simp; omega) (fun k hk => (HO.out.lt k hk).1)
        have HO4 := Lib.hid (show w3.ownsRow w.heap.size 9 1 v3 (acc.length + 1) ((acc ++ [cut s m k]).map fun s => .string ⟨s.toArray⟩) by simpa using hown3)
        have HB3 := Lib.hid hb3
        clear hown hown3 hgrow3 hb3
        go_wp2
        go_roundw
        case rel => exact ⟨k + 1, k + 1, acc ++ [cut s m k], by omega, by omega, by go_num, by go_num, by simp; omega, by simpa using HO4.out, HB3.out, HG.out⟩
        case measure => simp [intOf]; omega
      · have u1 : (bt s k == 47) = false := by simpa using t1
        have HG : Hid (acc ++ P.split47 (s.drop m) = R ∧ P.slash (cut s m (k + 1)) = false) := by
          refine ⟨HL.out.1, ?_⟩
          have h1 := P.drop_cut s m (k + 1) (by omega)
          have h2 := P.drop_cut s m k hm
          rw [HX.out] at h2
          rw [h2] at h1
          have h3 : cut s m (k + 1) = cut s m k ++ [x] := by
            have : cut s m k ++ [x] ++ s.drop (k + 1) = cut s m (k + 1) ++ s.drop (k + 1) := by simpa using h1
            exact (List.append_cancel_right this).symm
          rw [h3, P.slash_app, HL.out.2, P.slash_one (by rw [← HBT.out]; exact t1)]
          rfl
        clear t1
        go_wp2
        go_roundw
        case rel => exact ⟨k + 1, m, acc, by omega, by omega, rfl, by go_num, by omega, HO.out, HB.out, HG.out⟩
        case measure => simp [intOf]; omega
    · obtain rfl : k = s.length := by omega
      have HG := Lib.hid (show (acc ++ [cut s m s.length]) = R by
        rw [← HL.out.1]
        have h1 := P.drop_cut s m s.length hm
        rw [List.drop_eq_nil_of_le (Nat.le_refl _), List.append_nil] at h1
        rw [h1, P.split47_free HL.out.2])
      clear hbw
      go_wp2_with (at_builtin; refine wpList_append_own _ rfl _ _ 22 rfl w.heap.size 9 i0 (.string ⟨#[]⟩) 1 16 Tryz.underlying22 hi hz0 hz1 hz2 rfl (by decide) _ _ _ rfl (hown.alloc _) ⟨wr.heap.size, 0, none⟩ 1 1 [.string _] rfl rfl (one_cells wr _ _) (one_str _) (by unfold maxLen; omega) (by omega) (by simp; omega) ?_)
      intro v3 w3 hown3 hgrow3 _
      have hb3 : Below w.heap.size w w3 := (HB.out.alloc HB.out.size _).grown hgrow3 (by simp; omega) (fun k hk => (HO.out.lt k hk).1)
      have HO4 := Lib.hid (show w3.ownsRow w.heap.size 9 1 v3 (acc.length + 1) ((acc ++ [cut s m s.length]).map fun s => .string ⟨s.toArray⟩) by simpa using hown3)
      have HB3 := Lib.hid hb3
      clear hown hown3 hgrow3 hb3
      go_wp2
      go_ret
      exact ⟨_, rfl, by rw [← HG.out]; simpa using HO4.out, HB3.out⟩
end W
end Go.Proofs.YtmccfdmnidbalaaGreatDoor
