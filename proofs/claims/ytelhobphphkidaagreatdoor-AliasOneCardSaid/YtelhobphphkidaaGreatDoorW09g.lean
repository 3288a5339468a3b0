/- Chapter 9: the reference's Set. -/
import Derived.Test.YtelhobphphkidaaGreatDoorW09f
namespace Go.Proofs.YtelhobphphkidaaGreatDoor
open Go.RowKit K
namespace AL
theorem low_take {l : List Al} (h : Sorted l) (n : Str) : low l n = l.take (low l n).length := by
  obtain ⟨A, B, s⟩ := split n h
  rw [s.low_eq]
  conv => rhs; rw [s.eq]
  simp
theorem without_sorted {l : List Al} (h : Sorted l) (n : Str) : Sorted (without l n) := List.Pairwise.filter _ h
theorem without_len (l : List Al) (n : Str) : (without l n).length ≤ l.length := List.length_filter_le _ _
end AL
namespace W
theorem append_eq {P : Program} {w w' : World} {ops : Array Oper} {rest : List Oper} {o : Oper} {a : Act} {Q : Exit → Act → World → Prop} (hgd : o.guard = none) (s x : Operand) (t : TypeId)
    (ho : o.op = .call { callee := .builtin .append, args := #[s, x], argTypes := #[t, t] }) (v u v' : Value) (hs : a.eval s = v) (hx : a.eval x = u)
    (hr : (Builtin.append_ #[t, t] o.type #[v, u]).run P w = .ok v' w') (h : wpList P ops Q rest (a.put o.dst v') w') : wpList P ops Q (o :: rest) a w := by
  refine wpList_plain hgd fun K hK => ?_
  unfold Oper.wp execOp
  simp only [ho, resolve, invoke, builtin, Sem.run_bind, Sem.run_pure, Result.andThen_ok, List.map_toArray, List.map_cons, List.map_nil, hs, hx, hr]
  exact hK _ _ h
/-- append of one alias that lies in a block of its own. -/
theorem app_one {w : World} {B k : Nat} {o : Value} {L : List Tr} (z s : List UInt8) (h : w.ownsRow B 47 2 o k (tcells L)) (hk : k ≤ 1000) (hB : B ≤ w.heap.size) :
    ∃ A c w', (Builtin.append_ #[22, 22] 22 #[o, .slice (some ⟨w.heap.size, 0, none⟩) 1 1]).run Tryz.prog (w.alloc (.cells #[.string ⟨z.toArray⟩, .string ⟨s.toArray⟩] 47)) = .ok (.slice A (k + 1) c) w' ∧ w'.ownsRow B 47 2 (.slice A (k + 1) c) (k + 1) (tcells (L ++ [(z, s)])) ∧ Below B w w' := by
  obtain ⟨i0, hi, hz0, hz1, hz2⟩ := info_parts infoAl
  obtain ⟨v', w', r1, r2, r3, -, -⟩ := run_append_own_at (P := Tryz.prog) (w.alloc (.cells #[.string ⟨z.toArray⟩, .string ⟨s.toArray⟩] 47)) B 22 22 47 i0 _ 2 32 Tryz.underlying22 hi hz0 hz1 hz2 rfl (by decide) o k _ (h.alloc _) ⟨w.heap.size, 0, none⟩ 1 1 [.string ⟨z.toArray⟩, .string ⟨s.toArray⟩] rfl (pair_news1 w _ _ _) (pair_one _ _) (by unfold maxLen; omega) (by omega) (by simp; omega)
  have hk2 : ∃ A c, v' = .slice A (k + 1) c := by
    rcases r2.2 with ⟨-, e⟩ | ⟨q, cap, cur, hv, -⟩
    · omega
    · exact ⟨_, _, hv⟩
  obtain ⟨A, c, rfl⟩ := hk2
  exact ⟨A, c, w', r1, by rw [← tcells_snoc]; exact r2, ((balloc w _).mono hB).grown r3 (by simp; omega) (fun r hr => (h.lt r hr).1)⟩
/-- append of aliases that lie somewhere. -/
theorem app_row {w : World} {B k m c : Nat} {o : Value} {L M : List Tr} (ad : Addr) (h : w.ownsRow B 47 2 o k (tcells L)) (hM : m = M.length) (hc : ∀ j u, (tcells M)[j]? = some u → w.cell? (ad.add j) = some u) (hk : k + m ≤ 1000) (h0 : 0 < k) (hB : B ≤ w.heap.size) :
    ∃ A c' w', (Builtin.append_ #[22, 22] 22 #[o, .slice (some ad) m c]).run Tryz.prog w = .ok (.slice A (k + m) c') w' ∧ w'.ownsRow B 47 2 (.slice A (k + m) c') (k + m) (tcells (L ++ M)) ∧ Below B w w' := by
  obtain ⟨i0, hi, hz0, hz1, hz2⟩ := info_parts infoAl
  obtain ⟨v', w', r1, r2, r3, -, -⟩ := run_append_own_at (P := Tryz.prog) w B 22 22 47 i0 _ 2 32 Tryz.underlying22 hi hz0 hz1 hz2 rfl (by decide) o k _ h ad m c (tcells M) (by rw [tcells_length, hM]) hc (tcells_one M) (by unfold maxLen; omega) (by omega) hB
  have hk2 : ∃ A c, v' = .slice A (k + m) c := by
    rcases r2.2 with ⟨-, e⟩ | ⟨q, cap, cur, hv, -⟩
    · omega
    · exact ⟨_, _, hv⟩
  obtain ⟨A, c', rfl⟩ := hk2
  exact ⟨A, c', w', r1, by rw [tcells_append]; exact r2, (Below.refl _ _).grown r3 hB (fun r hr => (h.lt r hr).1)⟩
theorem row_below {w w' : World} {B : Nat} {e : TypeId} {k : Nat} {v : Value} {n : Nat} {xs : List Value} (h : w.ownsRow B e k v n xs) (hb : Below w.heap.size w w') : w'.ownsRow B e k v n xs := by
  refine ⟨h.1, ?_⟩
  rcases h.2 with h2 | ⟨g, cap, cur, hv, hbg, hgb, rest⟩
  · exact .inl h2
  · exact .inr ⟨g, cap, cur, hv, hbg, (hb.block g (Array.getElem?_eq_some_iff.1 hgb).1).trans hgb, rest⟩
set_option maxRecDepth 100000 in
set_option maxHeartbeats 8000000 in
theorem Set_ref (l : List AL.Al) (n u : List UInt8) (v : Value) (w : World) (hV : TV w v l) (hz : ∀ a ∈ l, a.1.length ≤ 10000 ∧ a.2.length ≤ 10000) (hn : n.length ≤ 10000) (hu : u.length ≤ 10000) :
    Calls Tryz.prog 15 #[v, .string ⟨n.toArray⟩, .string ⟨u.toArray⟩] w (LPost w (AL.setR l n u)) := by
  obtain ⟨R, hR⟩ : ∃ R, AL.setR l n u = R := ⟨_, rfl⟩
  rw [hR]
  unfold AL.setR at hR
  obtain ⟨A, c, rfl⟩ := hV.val
  have HV := Lib.hid hV
  have HVA := Lib.hid (Valid_ref l _ w hV.as hz)
  have HN := Lib.hid (fun V => name_ref n V (by omega))
  obtain ⟨m, hm⟩ : ∃ m, m = l.length := ⟨_, rfl⟩
  have HM := Lib.hid hm
  have hmn : (0 : Int) ≤ (m : Int) := by omega
  rw [← hm] at HVA ⊢
  clear hz hV hm
  obtain ⟨vz, hvz⟩ : ∃ vz, AL.valid l = vz := ⟨_, rfl⟩
  rw [hvz] at HVA hR
  by_cases h0 : vz = 0
  case neg =>
    rw [if_neg h0] at hR
    have e0 : (vz == 0) = false := by rw [beq_eq_false_iff_ne]; exact h0
    have e1 : (vz != 0) = true := by simp [bne, e0]
    have HRE := Lib.hid hR
    clear hR hvz h0
    go_enter Tryz.func15, Tryz.ntmps15
    go_wp2_with fail
    refine HVA.out.mono ?_
    rintro e w1 ⟨rfl, hb⟩
    have HB := Lib.hid hb
    clear hb
    go_wp2
    go_ret2
    rw [← HRE.out]
    exact ⟨_, rfl, HB.out, HM.out ▸ HV.out.below HB.out⟩
  rw [if_pos h0] at hR
  subst h0
  obtain ⟨g1, g2, g3⟩ := (AL.valid_zero l).1 hvz
  have HWO := Lib.hid (fun V (hA : TV V (.slice A m c) l) => without_ref (.slice A m c) l n V hA (by omega))
  have HS3 := Lib.hid g3
  have m64 : (m : Int) ≤ 64 := by have := HM.out; omega
  obtain ⟨bn, hbn⟩ : ∃ bn, AL.named n = bn := ⟨_, rfl⟩
  rw [hbn] at HN hR
  clear g1 g2 g3 hvz hbn
  cases bn with
  | false =>
    have HRE := Lib.hid (show (l, (10 : Int)) = R from by rw [← hR, if_pos rfl])
    clear hR
    go_enter Tryz.func15, Tryz.ntmps15
    go_wp2_with fail
    refine HVA.out.mono ?_
    rintro e w1 ⟨rfl, hb⟩
    have HB := Lib.hid hb
    clear hb
    go_wp2_with fail
    refine (HN.out _).mono ?_
    rintro e w2 ⟨rfl, rfl⟩
    have HB2 := HB
    go_wp2
    go_ret2
    rw [← HRE.out]
    exact ⟨_, rfl, HB2.out, HM.out ▸ HV.out.below HB2.out⟩
  | true =>
    rw [if_neg (by decide)] at hR
    by_cases h4 : 4096 < u.length
    · have t4 : ((4096 : Int) < (u.length : Int)) = True := eq_true (by omega)
      have HRE := Lib.hid (show (l, (3 : Int)) = R from by rw [← hR, if_pos h4])
      clear hR h4
      go_enter Tryz.func15, Tryz.ntmps15
      go_wp2_with fail
      refine HVA.out.mono ?_
      rintro e w1 ⟨rfl, hb⟩
      have HB := Lib.hid hb
      clear hb
      go_wp2_with fail
      refine (HN.out _).mono ?_
      rintro e w2 ⟨rfl, rfl⟩
      have HB2 := HB
      go_wp2
      go_ret2
      rw [← HRE.out]
      exact ⟨_, rfl, HB2.out, HM.out ▸ HV.out.below HB2.out⟩
    rw [if_neg h4] at hR
    have t4 : ((4096 : Int) < (u.length : Int)) = False := eq_false (by omega)
    have HR := Lib.hid hR
    obtain ⟨W, hW⟩ : ∃ W, W = AL.without l n := ⟨_, rfl⟩
    have hWs : AL.Sorted W := by rw [hW]; exact AL.without_sorted HS3.out n
    have hWl : W.length ≤ 64 := by rw [hW]; have := AL.without_len l n; have := HM.out; omega
    rw [← hW] at HR HWO
    obtain ⟨k9, hk9⟩ : ∃ k9, k9 = W.length := ⟨_, rfl⟩
    have HK9 := Lib.hid hk9
    rw [← hk9] at HR hWl
    have k90 : (0 : Int) ≤ (k9 : Int) := by omega
    have k964 : (k9 : Int) ≤ 64 := by omega
    have HLT := Lib.hid (AL.low_take hWs n)
    obtain ⟨q1, q2, -, -⟩ := AL.at_pos hWs n
    obtain ⟨p, hp⟩ : ∃ p, p = (AL.low W n).length := ⟨_, rfl⟩
    rw [← hp] at HLT q1 q2 HR
    rw [HLT.out] at HR
    rw [← hk9] at q1
    have HQ1 := Lib.hid q1
    have HQ2 := Lib.hid q2
    have p0 : (0 : Int) ≤ (p : Int) := by omega
    clear hR h4 q1 q2 hp hW hk9 hWs hWl
    by_cases h64 : 64 ≤ k9
    · have t6 : ((64 : Int) ≤ (k9 : Int)) = True := eq_true (by omega)
      have HRE := Lib.hid (show (l, (4 : Int)) = R from by rw [← HR.out, if_pos h64])
      clear h64
      go_enter Tryz.func15, Tryz.ntmps15
      go_wp2_with fail
      refine HVA.out.mono ?_
      rintro e w1 ⟨rfl, hb⟩
      have HB := Lib.hid hb
      clear hb
      go_wp2_with fail
      refine (HN.out _).mono ?_
      rintro e w2 ⟨rfl, rfl⟩
      have HW1 := Lib.hid (HWO.out _ (HM.out ▸ HV.out.below HB.out))
      go_wp2_with fail
      refine HW1.out.mono ?_
      rintro e w4 ⟨v9, rfl, hown, hb⟩
      have HB4 := Lib.hid (btr HB.out hb)
      rw [← HK9.out] at hown
      have hv9 : ∃ A9 c9, v9 = .slice A9 k9 c9 := by
        rcases hown.2 with ⟨e, e0⟩ | ⟨q, c9, cur, hv, -⟩
        · exact ⟨none, 0, by rw [e, e0]⟩
        · exact ⟨_, _, hv⟩
      obtain ⟨A9, c9, rfl⟩ := hv9
      have HROW := Lib.hid hown
      have HTV := Lib.hid (TV.own hown)
      clear hown hb
      go_wp2
      go_ret2
      rw [← HRE.out]
      exact ⟨_, rfl, HB4.out, HM.out ▸ HV.out.below HB4.out⟩
    have t6 : ((64 : Int) ≤ (k9 : Int)) = False := eq_false (by omega)
    have HRE := Lib.hid (show (W.take p ++ (n, u) :: W.drop p, (0 : Int)) = R from by rw [← HR.out, if_neg h64])
    have HK64 := Lib.hid (show k9 < 64 by omega)
    clear h64
    go_enter Tryz.func15, Tryz.ntmps15
    go_wp2_with fail
    refine HVA.out.mono ?_
    rintro e w1 ⟨rfl, hb⟩
    have HB := Lib.hid hb
    clear hb
    go_wp2_with fail
    refine (HN.out _).mono ?_
    rintro e w2 ⟨rfl, rfl⟩
    have HW1 := Lib.hid (HWO.out _ (HM.out ▸ HV.out.below HB.out))
    go_wp2_with fail
    refine HW1.out.mono ?_
    rintro e w4 ⟨v9, rfl, hown, hb⟩
    have HB4 := Lib.hid (btr HB.out hb)
    rw [← HK9.out] at hown
    have hv9 : ∃ A9 c9, v9 = .slice A9 k9 c9 := by
      rcases hown.2 with ⟨e, e0⟩ | ⟨q, c9, cur, hv, -⟩
      · exact ⟨none, 0, by rw [e, e0]⟩
      · exact ⟨_, _, hv⟩
    obtain ⟨A9, c9, rfl⟩ := hv9
    have HROW := Lib.hid hown
    have HTV := Lib.hid (TV.own hown)
    clear hown hb
    have HA9 := Lib.hid (HTV.out.as)
    go_wp2
    go_loopg [10, 11] p (fun g o i wr => ∃ k : Nat, k ≤ p ∧ g = p - k ∧ i = .int .i64 k ∧ Hid (wr.ownsRow w4.heap.size 47 2 o k (tcells (W.take k))) ∧ Hid (Below w4.heap.size w4 wr))
    case atStart => exact ⟨0, Nat.zero_le _, rfl, rfl, Lib.hid ⟨rfl, .inl ⟨rfl, rfl⟩⟩, Lib.hid (Below.refl _ _)⟩
    case round =>
      obtain ⟨k, hk, rfl, rfl, HO, HBW⟩ := hrel
      by_cases hlt : k < p
      · have hk9' : k < k9 := by have := HQ1.out; omega
        have hk92 : (k : Int) < (k9 : Int) := by omega
        obtain ⟨⟨nm, vl⟩, b, off, ha, rfl, hb, c0, c1⟩ := (HA9.out.go HBW.out).get (k := k) (by have := HK9.out; omega)
        dsimp only at c0 c1
        have hbo := fun t => (binOp_lss_al t nm n).trans (by rw [decide_eq_true ((HQ2.out k _ ha).2 hlt)])
        obtain ⟨A', c', w', r1, r2, r3⟩ := app_one nm vl HO.out (by omega) (by have := HBW.out.size; omega)
        rw [← AL.take_one ha] at r2
        have HRUN := Lib.hid r1
        have HO2 := Lib.hid r2
        have HB2' := Lib.hid (HBW.out.trans r3)
        have HLTK := Lib.hid hlt
        clear ha r1 r2 r3
        go_wp2_with (at_builtin; refine append_eq rfl _ _ 22 rfl _ _ _ rfl rfl HRUN.out ?_)
        go_roundg (p - (k + 1))
        case measure => have := HLTK.out; omega
        case rel => exact ⟨k + 1, HLTK.out, rfl, by go_num, HO2, HB2'⟩
      · obtain rfl : k = p := by omega
        obtain ⟨A', c', w', r1, r2, r3⟩ := app_one n u HO.out (by have := HQ1.out; omega) (by have := HBW.out.size; omega)
        have HRUN := Lib.hid r1
        have HO2 := Lib.hid r2
        have HB2' := Lib.hid (HBW.out.trans r3)
        have hk1000 := HQ1.out
        have hrow9 := row_below HROW.out HB2'.out
        clear r1 r2 r3
        rcases hrow9.2 with ⟨hv, h0⟩ | ⟨q, cap, cur, hv, -, hqg, hcap, hcm, -⟩
        · injection hv with e1 e2 e3
          subst e1 e3
          obtain rfl : k = 0 := by omega
          obtain rfl : k9 = 0 := by omega
          have hWn : W = [] := List.eq_nil_of_length_eq_zero HK9.out.symm
          have HF := Lib.hid (show ([(n, u)] : List Tr) = R.1 by rw [← HRE.out, hWn]; rfl)
          have HF2 := Lib.hid (show (0 : Int) = R.2 by rw [← HRE.out])
          have hrun2 := run_append_owned_none (P := Tryz.prog) (w := w') w4.heap.size 22 22 47 _ 2 Tryz.underlying22 (info_parts infoAl).choose_spec.1 (.slice A' (0 + 1) c') (0 + 1) _ HO2.out
          have HRUN2 := Lib.hid hrun2
          have HO3 := Lib.hid (show TV w' (.slice A' (0 + 1) c') [(n, u)] from TV.own (by have := HO2.out; rw [hWn] at this; exact this))
          clear hrun2 hrow9 hWn
          go_wp2_with (first | (at_builtin; refine append_eq rfl _ _ 22 rfl _ _ _ rfl rfl HRUN.out ?_) | (at_builtin; refine append_eq rfl _ _ 22 rfl _ _ _ rfl rfl HRUN2.out ?_))
          go_ret2
          exact ⟨_, by rw [← HF2.out]; rfl, (HB4.out.trans (HB2'.out.mono HB4.out.size)), by rw [← HF.out]; exact HO3.out⟩
        · injection hv with e1 e2 e3
          subst e1 e3
          have hcell : ∀ j x, (tcells W)[j]? = some x → w'.cell? ⟨q, j, none⟩ = some x := fun j x hj => by
            have := hrow9.cells (g := q) rfl j x hj
            rw [show (⟨q, j, none⟩ : Addr) = (⟨q, 0, none⟩ : Addr).add j by cases j <;> simp [Addr.add]]
            exact this
          by_cases hpk : k < k9
          · have hck2 : ¬ c9 = k := by omega
            have hkc : (k : Int) ≤ (c9 : Int) := by omega
            have hk9c : (k9 : Int) ≤ (c9 : Int) := by omega
            obtain ⟨A2, c2, w2', r1, r2, r3⟩ := app_row (c := c9 - k) (M := W.drop k) (m := k9 - k) ⟨q, k * 2, none⟩ HO2.out (by rw [List.length_drop]; have := HK9.out; omega) (fun j x hj => by rw [tcells_drop, List.getElem?_drop] at hj; have := hcell _ _ hj; rw [show (⟨q, k * 2, none⟩ : Addr).add j = ⟨q, k * 2 + j, none⟩ by unfold Addr.add; split <;> simp_all]; exact this) (by omega) (by omega) (by have := HB2'.out.size; omega)
            have HRUN2 := Lib.hid r1
            have HO3 := Lib.hid (TV.own r2)
            have HB3' := Lib.hid (HB4.out.trans ((HB2'.out.trans r3).mono HB4.out.size))
            have HF := Lib.hid (show ((W.take k ++ [(n, u)]) ++ W.drop k : List Tr) = R.1 by rw [← HRE.out]; simp)
            have HF2 := Lib.hid (show (0 : Int) = R.2 by rw [← HRE.out])
            obtain ⟨⟨nm, vl⟩, b, off, ha, hqq, hb, c0, c1⟩ := (HA9.out.go HBW.out).get (k := k) (by have := HK9.out; omega)
            injection hqq with hqq
            injection hqq with e4 e5
            subst e4 e5
            dsimp only at c0 c1
            simp only [Nat.zero_add] at c0 c1
            have hbo := fun t => (binOp_lss_al t nm n).trans (by rw [decide_eq_false (fun e => absurd ((HQ2.out k _ ha).1 e) (Nat.lt_irrefl _))])
            have hpk2 : (k : Int) < (k9 : Int) := by omega
            clear ha
            clear r1 r2 r3 hcell hrow9 hqg hcap hcm
            go_wp2_with (first | (at_builtin; refine append_eq rfl _ _ 22 rfl _ _ _ rfl rfl HRUN.out ?_) | (at_builtin; refine append_eq rfl _ _ 22 rfl _ _ _ rfl rfl HRUN2.out ?_))
            go_ret2
            exact ⟨_, by rw [← HF2.out]; rfl, HB3'.out, by rw [← HF.out]; exact HO3.out⟩
          · have hkk : k = k9 := by omega
            subst hkk
            by_cases hck : c9 = k
            · subst hck
              have hkc : (c9 : Int) ≤ (c9 : Int) := by omega
              have hk9c : (c9 : Int) ≤ (c9 : Int) := by omega
              obtain ⟨A2, c2, w2', r1, r2, r3⟩ := app_row (c := 0) (M := W.drop c9) (m := 0) ⟨q, 0, none⟩ HO2.out (by rw [List.length_drop]; have := HK9.out; omega) (fun j x hj => by rw [List.drop_eq_nil_of_le (by have := HK9.out; omega)] at hj; simp [tcells] at hj) (by omega) (by omega) (by have := HB2'.out.size; omega)
              have HRUN2 := Lib.hid r1
              have HO3 := Lib.hid (TV.own r2)
              have HB3' := Lib.hid (HB4.out.trans ((HB2'.out.trans r3).mono HB4.out.size))
              have HF := Lib.hid (show ((W.take c9 ++ [(n, u)]) ++ W.drop c9 : List Tr) = R.1 by rw [← HRE.out]; simp)
              have HF2 := Lib.hid (show (0 : Int) = R.2 by rw [← HRE.out])
              have hpk2 : ¬ (c9 : Int) < (c9 : Int) := by omega
              clear r1 r2 r3 hcell hrow9 hqg hcap hcm
              go_wp2_with (first | (at_builtin; refine append_eq rfl _ _ 22 rfl _ _ _ rfl rfl HRUN.out ?_) | (at_builtin; refine append_eq rfl _ _ 22 rfl _ _ _ rfl rfl HRUN2.out ?_))
              go_ret2
              exact ⟨_, by rw [← HF2.out]; rfl, HB3'.out, by rw [← HF.out]; exact HO3.out⟩
            · have hck2 : ¬ c9 = k := by omega
              have hkc2 : (k : Int) ≤ (c9 : Int) := by omega
              have hkc2 : (k : Int) ≤ (c9 : Int) := by omega
              obtain ⟨A2, c2, w2', r1, r2, r3⟩ := app_row (c := c9 - k) (M := W.drop k) (m := 0) ⟨q, k * 2, none⟩ HO2.out (by rw [List.length_drop]; have := HK9.out; omega) (fun j x hj => by rw [List.drop_eq_nil_of_le (by have := HK9.out; omega)] at hj; simp [tcells] at hj) (by omega) (by omega) (by have := HB2'.out.size; omega)
              have HRUN2 := Lib.hid r1
              have HO3 := Lib.hid (TV.own r2)
              have HB3' := Lib.hid (HB4.out.trans ((HB2'.out.trans r3).mono HB4.out.size))
              have HF := Lib.hid (show ((W.take k ++ [(n, u)]) ++ W.drop k : List Tr) = R.1 by rw [← HRE.out]; simp)
              have HF2 := Lib.hid (show (0 : Int) = R.2 by rw [← HRE.out])
              have hpk2 : ¬ (k : Int) < (k : Int) := by omega
              clear r1 r2 r3 hcell hrow9 hqg hcap hcm
              go_wp2_with (first | (at_builtin; refine append_eq rfl _ _ 22 rfl _ _ _ rfl rfl HRUN.out ?_) | (at_builtin; refine append_eq rfl _ _ 22 rfl _ _ _ rfl rfl HRUN2.out ?_))
              go_ret2
              exact ⟨_, by rw [← HF2.out]; rfl, HB3'.out, by rw [← HF.out]; exact HO3.out⟩
end W
end Go.Proofs.YtelhobphphkidaaGreatDoor
