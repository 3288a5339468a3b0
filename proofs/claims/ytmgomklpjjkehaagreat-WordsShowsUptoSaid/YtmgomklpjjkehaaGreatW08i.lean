/- Words: backquoted. -/
import Derived.Test.YtmgomklpjjkehaaGreatW08h
namespace Go.Proofs.YtmgomklpjjkehaaGreat
open Go.RowKit K
namespace WP
theorem unq_len : ∀ (n : Nat) (t : Str), t.length ≤ n → (unq t).length ≤ t.length
  | _, [], _ => Nat.le_refl _
  | _, [x], _ => Nat.le_refl _
  | 0, x :: y :: r, h => by simp at h
  | n + 1, x :: y :: r, h => by
    rw [unq]
    split
    · have := unq_len n r (by simp at h; omega); simp; omega
    · have := unq_len n (y :: r) (by simp at h ⊢; omega); simp at this ⊢; omega
theorem unq_esc {y : UInt8} {r : Str} (h : y = 96 ∨ y = 92 ∨ y = 36) : unq (92 :: y :: r) = y :: unq r := by rw [unq, if_pos ⟨rfl, h⟩]
theorem unq_plain {x : UInt8} {r : Str} (h : x = 92 → ∀ y q, r = y :: q → ¬ (y = 96 ∨ y = 92 ∨ y = 36)) : unq (x :: r) = x :: unq r := by
  cases r with
  | nil => rfl
  | cons y q => rw [unq, if_neg (fun e => h e.1 y q rfl e.2)]
theorem esc_index (y : UInt8) : 0 ≤ Lib.indexByte [96, 92, 36] y ↔ y = 96 ∨ y = 92 ∨ y = 36 := by
  have := Lib.contains_iff_indexByte [96, 92, 36] y
  rw [Bool.eq_iff_iff, decide_eq_true_eq] at this
  rw [← this]
  simp
theorem bqText_len (t : Str) : (bqText t).length ≤ t.length + 1 := by unfold bqText; split <;> simp
end WP
namespace W
section
variable {W : World} {g : Nat} {c : WP.Ctx} {st : WP.St}
set_option maxRecDepth 100000 in
set_option maxHeartbeats 4000000 in
theorem backquoted_any (h : ScP W g c st) (hi : WP.Inv c st) (ha : st.a < c.s.length) (hb96 : bt c.s st.a = 96) (hl : c.s.length ≤ 20000) :
    Calls Tryz.prog 62 #[.pointer (some ⟨g, 0, none⟩)] W (Out W g c (WP.backquoted c st)) := by
  have HS := Lib.hid h
  have HLT := Lib.hid h.lt
  have hsum := hi.sum
  have hF := Lib.hid (fun (x y : Int) (V : World) => fail_any x y V)
  have HA := Lib.hid (fun (k : Nat) (t : List UInt8) (m : Nat) (V : World) (hV : Below W.heap.size W V) => add0 (W := V) k t 0 false m (HS.out.below hV) (by omega))
  have HCL := Lib.hid (close_any h (by omega))
  obtain ⟨tx, ls, hb⟩ := h.box
  have HB := Lib.hid hb
  have HR := Lib.hid (show WP.backquoted c st = match WP.cls c.s st.a with
    | .error e => .error e
    | .ok e =>
      if WP.subst (WP.bqText (WP.unq (cut c.s (st.a + 1) (e - 1)))) = true then .ok (WP.add (.mk 5 (WP.bqText (WP.unq (cut c.s (st.a + 1) (e - 1)))) 0 false []) e st)
      else if WP.subst (WP.bqText (WP.unq (cut c.s (st.a + 1) (e - 1))) ++ [10]) = true then .ok (WP.add (.mk 5 (WP.bqText (WP.unq (cut c.s (st.a + 1) (e - 1))) ++ [10]) 0 false []) e st)
      else .error (st.a, 6) from rfl)
  obtain ⟨i0, hi0, hz0, hz1, hz2⟩ := info_parts infoByte
  have hcv0 : ∀ w : World, (convert 48 9 (.slice none 0 0)).run Tryz.prog w = .ok (.string ⟨#[]⟩) w := fun _ => by kernel_rfl
  have HCV := Lib.hid hcv0
  clear h hcv0
  obtain ⟨s, pl, op, lv, opn⟩ := c
  obtain ⟨a, dep, tb, lp⟩ := st
  dsimp only at HS HA HB HR HCL ha hl hsum hb96 ⊢
  clear hb
  rw [show WP.backquoted _ _ = _ from HR.out]
  clear HR
  cases hcl : WP.cls s a with
  | error x =>
    rw [hcl] at HCL
    clear hcl
    go_enter Tryz.func62, Tryz.ntmps62
    go_wp2_with fail
    refine HCL.out.mono ?_
    rintro e Y ⟨rfl, hbY⟩
    exact ⟨rfl, rfl, hbY.mono (Nat.le_of_lt HLT.out)⟩
  | ok e =>
    dsimp only
    rw [hcl] at HCL
    obtain ⟨he1, he2⟩ := WP.cls_le hcl
    have he3 := LX.close_back hb96 he1
    clear hcl he1 hb96
    have s1 : IntKind.i64.wrap ((e : Int) - 1) = (e : Int) - 1 := IntWalk.i64_in _ (by omega)
    have s2 : (0 : Int) ≤ (e : Int) - 1 := by omega
    have s3 : ((e : Int) - 1).toNat = e - 1 := by omega
    have s4 : ((a : Int) + 1 ≤ (e : Int) - 1) = True := eq_true (by omega)
    have s5 : ((e : Int) - 1 ≤ (s.length : Int)) = True := eq_true (by omega)
    have w1 : IntKind.i64.wrap ((a : Int) + 1) = (a : Int) + 1 := IntWalk.i64_in _ (by omega)
    have a4 : (0 : Int) ≤ (a : Int) + 1 := by omega
    have a2 : ((a : Int) + 1).toNat = a + 1 := by omega
    obtain ⟨t, ht⟩ : ∃ t, cut s (a + 1) (e - 1) = t := ⟨_, rfl⟩
    have htl : t.length ≤ 20000 := by rw [← ht, cut_length]; omega
    have HTC := Lib.hid ht
    rw [ht]
    have hul := WP.unq_len t.length t (Nat.le_refl _)
    obtain ⟨u, hu⟩ : ∃ u, WP.unq t = u := ⟨_, rfl⟩
    have HU0 := Lib.hid hu
    rw [hu] at hul ⊢
    have hql := WP.bqText_len u
    obtain ⟨q, hq⟩ : ∃ q, WP.bqText u = q := ⟨_, rfl⟩
    have HQ := Lib.hid (show q = if Lib.hasPrefix u [40] = true then 32 :: u else u from hq.symm)
    rw [hq] at hql ⊢
    have HP := Lib.hid (fun V => lx_HasPrefix u [40] V)
    have HS1 := Lib.hid (fun V => substitution_any q V (by omega))
    have HS2 := Lib.hid (fun V => substitution_any (q ++ [10]) V (by simp; omega))
    obtain ⟨R, hR⟩ : ∃ R : Except WP.Flt WP.St, (if WP.subst q = true then .ok (WP.add (.mk 5 q 0 false []) e ⟨a, dep, tb, lp⟩) else if WP.subst (q ++ [10]) = true then .ok (WP.add (.mk 5 (q ++ [10]) 0 false []) e ⟨a, dep, tb, lp⟩) else .error ((a : Int), 6)) = R := ⟨_, rfl⟩
    rw [hR]
    have HRR := Lib.hid hR
    clear ht hu hq hR
    go_enter Tryz.func62, Tryz.ntmps62
    go_wp2_with fail
    refine HCL.out.mono ?_
    rintro en Y ⟨rfl, hbY⟩
    have HUY := Lib.hid hbY
    clear hbY
    obtain ⟨c0, c1, c2, c3, c4, c5, c6, c7, c8⟩ := (HB.out.kept (HUY.out.block g HLT.out)).cells
    go_wp2_with fail
    go_quiet (fail)
    have HUU := Lib.hid (bdN HUY.out nq)
    generalize Y.drewN nq = U at HUU ⊢
    clear c0 c1 c2 c3 c4 c5 c6 c7 c8
    rw [HTC.out]
    clear s1 s2 s3 s4 s5 w1 a4 a2
    go_wp2
    go_loopw [4, 5] (fun v x wr => ∃ (i : Nat) (out : List UInt8), x = .int .i64 i ∧ i ≤ t.length ∧ out.length ≤ i ∧ Hid (wr.ownsRow U.heap.size 5 1 v out.length (Lib.byteCells out)) ∧ Hid (out ++ WP.unq (t.drop i) = u) ∧ Hid (Below U.heap.size U wr)) (fun _ x _ => t.length - (intOf x).toNat)
    case atStart => exact ⟨0, [], rfl, Nat.zero_le _, Nat.le_refl _, ⟨rfl, .inl ⟨rfl, rfl⟩⟩, by show _ = _; rw [List.nil_append, List.drop_zero, HU0.out], Below.refl _ _⟩
    case round =>
      obtain ⟨i, out, hxi, hin, hout, HO, HN, HBL⟩ := hrel
      subst hxi
      by_cases hlt : i < t.length
      · obtain ⟨x, hx, hbx, _⟩ := drop_cons t i hlt
        obtain ⟨A, cap, hv⟩ := row_val HO.out
        subst hv
        have hwz := HBL.out.size
        have hbl : (Lib.byteCells out).length ≤ 100000 := by rw [Lib.byteCells_length]; omega
        by_cases hesc : x = 92 ∧ ∃ y r, t.drop (i + 1) = y :: r ∧ (y = 96 ∨ y = 92 ∨ y = 36)
        · obtain ⟨rfl, y, r, hy, hyy⟩ := hesc
          obtain ⟨y1, y2, y3⟩ := LX.drop_head hy
          have HN2 := Lib.hid (show (out ++ [y]) ++ WP.unq (t.drop (i + 2)) = u by
            rw [← HN.out, hx, hy, WP.unq_esc hyy, show i + 2 = i + 1 + 1 by rfl, y3]
            simp)
          have hc92 : bt t i = 92 := hbx
          have HIX := Lib.hid (fun V => show Calls Tryz.prog 80 #[.string ⟨#[96, 92, 36]⟩, .int .u8 (bt t (i + 1))] V fun e w' => e = .returned (.int .i64 (Lib.indexByte [96, 92, 36] y)) ∧ V = w' from by
            have := lx_IndexByte [96, 92, 36] (bt t (i + 1)) V
            rw [y2] at this
            rw [y2]
            simpa using this)
          have x1 := (WP.esc_index y).2 hyy
          generalize Lib.indexByte [96, 92, 36] y = ix at HIX x1
          have HBX := Lib.hid y2
          have i1 : ((i : Int) + 1 < (t.length : Int)) = True := eq_true (by omega)
          have i2 : ((i : Int) + 1).toNat = i + 1 := by omega
          clear hx hbx hy y2 y3 hyy
          go_wp2_with (first | (go_at_call 80; refine (HIX.out _).mono ?_; rintro e w' ⟨rfl, rfl⟩) | (at_builtin; refine wpList_append_own _ rfl _ _ 48 rfl U.heap.size 5 i0 (.int .u8 0) 1 1 Tryz.underlying48 hi0 hz0 hz1 hz2 rfl (by decide) _ _ _ rfl (HO.out.alloc _) ⟨wr.heap.size, 0, none⟩ 1 1 [.int .u8 (bt t (i + 1))] rfl rfl (one_cells wr _ _) (by intro u hu; simp at hu; subst hu; rfl) (by unfold maxLen; omega) (by omega) (by simp; omega) ?_))
          intro v' w2 hown' hgrow _
          have HO2 := Lib.hid (show w2.ownsRow U.heap.size 5 1 v' (out ++ [y]).length (Lib.byteCells (out ++ [y])) by
            rw [List.length_append, Lib.byteCells_append]
            rw [HBX.out] at hown'
            exact hown')
          have HB2 := Lib.hid (show Below U.heap.size U w2 from (HBL.out.alloc hwz _).grown hgrow (by simp; omega) (fun k hk => (HO.out.lt k hk).1))
          clear hown' hgrow
          go_wp2
          go_roundw
          case rel => exact ⟨i + 2, out ++ [y], by go_num, by omega, by simp; omega, HO2.out, HN2.out, HB2.out⟩
          case measure => simp [intOf]; omega
        · have HN2 := Lib.hid (show (out ++ [x]) ++ WP.unq (t.drop (i + 1)) = u by
            rw [← HN.out, hx, WP.unq_plain (fun h92 y q hq hh => hesc ⟨h92, y, q, hq, hh⟩)]
            simp)
          have HBX := Lib.hid hbx
          have HES := Lib.hid hesc
          have HIX := Lib.hid (fun V => lx_IndexByte [96, 92, 36] (bt t (i + 1)) V)
          by_cases h92 : bt t i = 92
          · have hx92 : x = 92 := UInt8.toNat_inj.1 (by have := HBX.out; rw [h92] at this; show x.toNat = 92; omega)
            by_cases hi1 : i + 1 < t.length
            · obtain ⟨y, hy, hby, _⟩ := drop_cons t (i + 1) hi1
              have i1 : ((i : Int) + 1 < (t.length : Int)) = True := eq_true (by omega)
              have i2 : ((i : Int) + 1).toNat = i + 1 := by omega
              have hny : ¬ 0 ≤ Lib.indexByte [96, 92, 36] (bt t (i + 1)).toNat.toUInt8 := by
                rw [hby, show ((y.toNat : Int)).toNat.toUInt8 = y by simp, WP.esc_index]
                exact fun hh => HES.out ⟨hx92, y, _, hy, hh⟩
              generalize Lib.indexByte [96, 92, 36] (bt t (i + 1)).toNat.toUInt8 = ix at HIX hny
              have x1 : ¬ 0 ≤ ix := hny
              have HB92 := Lib.hid h92
              clear hesc hx hbx hy hby hny hx92
              go_wp2_with (first | (go_at_call 80; refine (HIX.out _).mono ?_; rintro e w' ⟨rfl, rfl⟩) | (at_builtin; refine wpList_append_own _ rfl _ _ 48 rfl U.heap.size 5 i0 (.int .u8 0) 1 1 Tryz.underlying48 hi0 hz0 hz1 hz2 rfl (by decide) _ _ _ rfl (HO.out.alloc _) ⟨wr.heap.size, 0, none⟩ 1 1 [.int .u8 (92)] rfl rfl (one_cells wr _ _) (by intro u hu; simp at hu; subst hu; rfl) (by unfold maxLen; omega) (by omega) (by simp; omega) ?_))
              intro v' w2 hown' hgrow _
              have HO2 := Lib.hid (show w2.ownsRow U.heap.size 5 1 v' (out ++ [x]).length (Lib.byteCells (out ++ [x])) by
                rw [List.length_append, Lib.byteCells_append]
                rw [show (92 : Int) = (x.toNat : Int) from HB92.out.symm.trans HBX.out] at hown'
                exact hown')
              have HB2 := Lib.hid (show Below U.heap.size U w2 from (HBL.out.alloc hwz _).grown hgrow (by simp; omega) (fun k hk => (HO.out.lt k hk).1))
              clear hown' hgrow
              go_wp2
              go_roundw
              case rel => exact ⟨i + 1, out ++ [x], by go_num, by omega, by simp; omega, HO2.out, HN2.out, HB2.out⟩
              case measure => simp [intOf]; omega
            · have i1 : ((i : Int) + 1 < (t.length : Int)) = False := eq_false (by omega)
              have HB92 := Lib.hid h92
              clear hesc hx hbx hx92
              go_wp2_with (first | (go_at_call 80; refine (HIX.out _).mono ?_; rintro e w' ⟨rfl, rfl⟩) | (at_builtin; refine wpList_append_own _ rfl _ _ 48 rfl U.heap.size 5 i0 (.int .u8 0) 1 1 Tryz.underlying48 hi0 hz0 hz1 hz2 rfl (by decide) _ _ _ rfl (HO.out.alloc _) ⟨wr.heap.size, 0, none⟩ 1 1 [.int .u8 (92)] rfl rfl (one_cells wr _ _) (by intro u hu; simp at hu; subst hu; rfl) (by unfold maxLen; omega) (by omega) (by simp; omega) ?_))
              intro v' w2 hown' hgrow _
              have HO2 := Lib.hid (show w2.ownsRow U.heap.size 5 1 v' (out ++ [x]).length (Lib.byteCells (out ++ [x])) by
                rw [List.length_append, Lib.byteCells_append]
                rw [show (92 : Int) = (x.toNat : Int) from HB92.out.symm.trans HBX.out] at hown'
                exact hown')
              have HB2 := Lib.hid (show Below U.heap.size U w2 from (HBL.out.alloc hwz _).grown hgrow (by simp; omega) (fun k hk => (HO.out.lt k hk).1))
              clear hown' hgrow
              go_wp2
              go_roundw
              case rel => exact ⟨i + 1, out ++ [x], by go_num, by omega, by simp; omega, HO2.out, HN2.out, HB2.out⟩
              case measure => simp [intOf]; omega
          · have e92 := beq_f h92
            clear hesc hx hbx
            go_wp2_with (first | (go_at_call 80; refine (HIX.out _).mono ?_; rintro e w' ⟨rfl, rfl⟩) | (at_builtin; refine wpList_append_own _ rfl _ _ 48 rfl U.heap.size 5 i0 (.int .u8 0) 1 1 Tryz.underlying48 hi0 hz0 hz1 hz2 rfl (by decide) _ _ _ rfl (HO.out.alloc _) ⟨wr.heap.size, 0, none⟩ 1 1 [.int .u8 (bt t i)] rfl rfl (one_cells wr _ _) (by intro u hu; simp at hu; subst hu; rfl) (by unfold maxLen; omega) (by omega) (by simp; omega) ?_))
            intro v' w2 hown' hgrow _
            have HO2 := Lib.hid (show w2.ownsRow U.heap.size 5 1 v' (out ++ [x]).length (Lib.byteCells (out ++ [x])) by
              rw [List.length_append, Lib.byteCells_append]
              rw [HBX.out] at hown'
              exact hown')
            have HB2 := Lib.hid (show Below U.heap.size U w2 from (HBL.out.alloc hwz _).grown hgrow (by simp; omega) (fun k hk => (HO.out.lt k hk).1))
            clear hown' hgrow
            go_wp2
            go_roundw
            case rel => exact ⟨i + 1, out ++ [x], by go_num, by omega, by simp; omega, HO2.out, HN2.out, HB2.out⟩
            case measure => simp [intOf]; omega
      · have hout2 : out = u := by rw [← HN.out, List.drop_eq_nil_of_le (by omega)]; simp [WP.unq]
        subst hout2
        clear HN
        have HO3 := HO.out
        have HCC := Lib.hid (show ∃ A cap, u4 = Value.slice A out.length cap ∧ ∀ V : World, Below wr.heap.size wr V → (convert 48 9 (.slice A out.length cap)).run Tryz.prog V = .ok (.string ⟨out.toArray⟩) V from by
          rcases HO3.2 with ⟨h1, h2⟩ | ⟨r, cap, cur, hv, _⟩
          · obtain rfl := List.eq_nil_of_length_eq_zero h2
            exact ⟨none, 0, h1, fun V _ => HCV.out V⟩
          · subst hv
            exact ⟨some ⟨r, 0, none⟩, cap, rfl, fun V hV => run_convert_bytes_back (P := Tryz.prog) V 48 9 5 ⟨r, 0, none⟩ cap out Tryz.underlying48 Tryz.underlying5 Tryz.underlying9 (fun j hj => (row_below HO3 hV).cells (g := r) rfl j _ (by simp [Lib.byteCells, hj]))⟩)
        obtain ⟨A, cap, hA, hcc⟩ := HCC.out
        subst hA
        have hc1 := hcc wr (Below.refl _ _)
        have HWU := Lib.hid (btr HUU.out HBL.out)
        have HADD := Lib.hid (fun (x : List UInt8) V (hV : Below W.heap.size W V) => show Calls Tryz.prog 73 #[.pointer (some ⟨g, 0, none⟩), .agg #[.int .i64 5, .string ⟨x.toArray⟩, .int .i64 0, .bool false, .slice none 0 0], .int .i64 e] V (Out V g _ _) from HA.out 5 x e V hV)
        have HCELL := Lib.hid (fun V (hV : Below W.heap.size W V) => (HB.out.kept (hV.block g HLT.out)).cells.2.1)
        clear hcc HO HO3
        have hpp : (q = 32 :: out ∧ Lib.hasPrefix out [40] = true) ∨ (q = out ∧ Lib.hasPrefix out [40] = false) := by
          cases h : Lib.hasPrefix out [40] with
          | true => left; have := HQ.out; rw [h, if_pos rfl] at this; exact ⟨this, rfl⟩
          | false => right; have := HQ.out; rw [h, if_neg (by simp)] at this; exact ⟨this, rfl⟩
        rcases hpp with ⟨hq, hp⟩ | ⟨hq, hp⟩
        all_goals
          rw [hp] at HP
          clear HQ hp
          subst hq
          go_wp2_with fail
          refine (HP.out _).mono ?_
          rintro en w1 ⟨rfl, rfl⟩
          go_wp2_with fail
          refine (HS1.out _).mono ?_
          rintro en w2 ⟨rfl, hb2⟩
          have HB2 := Lib.hid (btr HWU.out hb2)
          clear hb2 hc1
        all_goals
          have hsb : ∀ b : Bool, b = true ∨ b = false := fun b => by cases b <;> simp
        · rcases hsb (WP.subst (32 :: out)) with hs1 | hs1
          · have HR1 := HRR.out
            rw [if_pos hs1] at HR1
            subst HR1
            rw [hs1]
            clear hs1 HRR hsb
            go_wp2_with fail
            refine (HADD.out _ _ HB2.out).mono ?_
            rintro en Y2 ⟨rfl, hs, hf⟩
            go_wp2
            first | go_end0 | refine bodyPost_ret (results_none rfl _ _ _) rfl ?_
            exact ⟨rfl, hs, (Fr.of_below HB2.out HLT.out).trans hf⟩
          · have HR1 := HRR.out
            rw [if_neg (by rw [hs1]; simp)] at HR1
            rw [hs1]
            have HS3 := Lib.hid (fun V => show Calls Tryz.prog 81 #[.string ⟨(32 :: (out ++ [10])).toArray⟩] V fun e w' => e = .returned (.bool (WP.subst (32 :: out ++ [10]))) ∧ Below V.heap.size V w' from HS2.out V)
            clear hs1 HRR
            rcases hsb (WP.subst (32 :: out ++ [10])) with hs2 | hs2
            · rw [if_pos hs2] at HR1
              subst HR1
              rw [hs2] at HS3
              clear hs2 hsb
              go_wp2_with fail
              refine (HS3.out _).mono ?_
              rintro en w3 ⟨rfl, hb3⟩
              have HB3 := Lib.hid (btr HB2.out hb3)
              clear hb3
              go_wp2_with fail
              have HA3 := Lib.hid (show Calls Tryz.prog 73 #[.pointer (some ⟨g, 0, none⟩), .agg #[.int .i64 5, .string ⟨(32 :: (out ++ [10])).toArray⟩, .int .i64 0, .bool false, .slice none 0 0], .int .i64 e] w3 (Out w3 g ⟨s, pl, op, lv, opn⟩ (.ok (WP.add (.mk 5 (32 :: out ++ [10]) 0 false []) e ⟨a, dep, tb, lp⟩))) from HADD.out (32 :: out ++ [10]) _ HB3.out)
              refine HA3.out.mono ?_
              rintro en Y2 ⟨rfl, hs, hf⟩
              go_wp2
              first | go_end0 | refine bodyPost_ret (results_none rfl _ _ _) rfl ?_
              exact ⟨rfl, hs, (Fr.of_below HB3.out HLT.out).trans hf⟩
            · rw [if_neg (by rw [hs2]; simp)] at HR1
              subst HR1
              rw [hs2] at HS3
              clear hs2 hsb
              go_wp2_with fail
              refine (HS3.out _).mono ?_
              rintro en w3 ⟨rfl, hb3⟩
              have HB3 := Lib.hid (btr HB2.out hb3)
              have c1 := HCELL.out _ HB3.out
              clear hb3
              go_wp2_with fail
              refine (hF.out _ _ _).mono ?_
              rintro en Y2 ⟨rfl, rfl⟩
              exact ⟨rfl, rfl, HB3.out.mono (Nat.le_of_lt HLT.out)⟩
        · rcases hsb (WP.subst (q)) with hs1 | hs1
          · have HR1 := HRR.out
            rw [if_pos hs1] at HR1
            subst HR1
            rw [hs1]
            clear hs1 HRR hsb
            go_wp2_with fail
            refine (HADD.out _ _ HB2.out).mono ?_
            rintro en Y2 ⟨rfl, hs, hf⟩
            go_wp2
            first | go_end0 | refine bodyPost_ret (results_none rfl _ _ _) rfl ?_
            exact ⟨rfl, hs, (Fr.of_below HB2.out HLT.out).trans hf⟩
          · have HR1 := HRR.out
            rw [if_neg (by rw [hs1]; simp)] at HR1
            rw [hs1]
            have HS3 := HS2
            clear hs1 HRR
            rcases hsb (WP.subst (q ++ [10])) with hs2 | hs2
            · rw [if_pos hs2] at HR1
              subst HR1
              rw [hs2] at HS3
              clear hs2 hsb
              go_wp2_with fail
              refine (HS3.out _).mono ?_
              rintro en w3 ⟨rfl, hb3⟩
              have HB3 := Lib.hid (btr HB2.out hb3)
              clear hb3
              go_wp2_with fail
              have HA3 := Lib.hid (HADD.out (q ++ [10]) _ HB3.out)
              refine HA3.out.mono ?_
              rintro en Y2 ⟨rfl, hs, hf⟩
              go_wp2
              first | go_end0 | refine bodyPost_ret (results_none rfl _ _ _) rfl ?_
              exact ⟨rfl, hs, (Fr.of_below HB3.out HLT.out).trans hf⟩
            · rw [if_neg (by rw [hs2]; simp)] at HR1
              subst HR1
              rw [hs2] at HS3
              clear hs2 hsb
              go_wp2_with fail
              refine (HS3.out _).mono ?_
              rintro en w3 ⟨rfl, hb3⟩
              have HB3 := Lib.hid (btr HB2.out hb3)
              have c1 := HCELL.out _ HB3.out
              clear hb3
              go_wp2_with fail
              refine (hF.out _ _ _).mono ?_
              rintro en Y2 ⟨rfl, rfl⟩
              exact ⟨rfl, rfl, HB3.out.mono (Nat.le_of_lt HLT.out)⟩
end
end W
end Go.Proofs.YtmgomklpjjkehaaGreat
