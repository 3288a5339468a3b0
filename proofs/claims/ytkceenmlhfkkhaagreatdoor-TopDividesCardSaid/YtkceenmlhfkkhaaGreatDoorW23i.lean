/- Top: the law TopDivides; printed by gen23f.py. -/
import Derived.Test.YtkceenmlhfkkhaaGreatDoorY23d
import Derived.StillTailTactics
namespace Go.Proofs.YtkceenmlhfkkhaaGreatDoor
open Go.RowKit K
open WP (GP gp gpL)
namespace W
set_option maxRecDepth 100000
theorem run_storeVar_str {P : Program} (w : World) (ad : Addr) (ty : TypeId) (s : ByteArray) (old : Value) (hi : (P.info? ty).map (·.size) = some 1) (hc : w.cell? ad = some old) (hf : w.frozen? ad = false) : (storeVar ty ad (.string s)).run P w = .ok () (w.setCell ad (.string s)) := by
  have h0 : ad.add 0 = ad := by obtain ⟨b, o, z⟩ := ad; cases z <;> rfl
  cases hq : P.info? ty with
  | none => simp [hq] at hi
  | some i =>
    have hs : i.size = 1 := by simpa [hq] using hi
    simp [storeVar, sizeOf, typeInfo, hq, hs, storeCells, h0, go_sem, hc, hf]
attribute [-go_sem] storeVar
theorem str_addT (a b c : List UInt8) (h : a ++ b = c) (ha : a.length ≤ 8000000) (hb : b.length ≤ 8000000) : ∀ U, (Op.stringOp .add ⟨a.toArray⟩ ⟨b.toArray⟩).run Tryz.prog U = .ok (.string ⟨c.toArray⟩) U := fun U => by
  rw [← h]
  exact run_string_add_lists U a b (by omega) (by omega)
/-- The last string of an own row is written anew. -/
theorem OR.last {T : TypeId} {B : Nat} {w : World} {v : Value} {done : List (List UInt8)} {x : List UInt8} (h : OR 1 es T B w v (done ++ [x])) : ∃ g cap, v = .slice (some ⟨g, 0, none⟩) (done.length + 1) cap ∧ B ≤ g ∧ g < w.heap.size ∧ w.cell? ⟨g, done.length, none⟩ = some (.string ⟨x.toArray⟩) ∧ w.frozen? ⟨g, done.length, none⟩ = false ∧
    ∀ y : List UInt8, OR 1 es T B (w.setCell ⟨g, done.length, none⟩ (.string ⟨y.toArray⟩)) v (done ++ [y]) := by
  have hl : ∀ z : List UInt8, (done ++ [z]).length = done.length + 1 := fun z => by simp
  have hfm : ∀ z : List UInt8, (done ++ [z]).flatMap es = (done.flatMap es) ++ [.string ⟨z.toArray⟩] := fun z => by simp [es]
  have hdl : (done.flatMap es).length = done.length := by rw [flat_len es_len]; omega
  unfold OR at h
  rw [hl, hfm] at h
  obtain ⟨h1, h2⟩ := h
  rcases h2 with ⟨-, h2⟩ | ⟨g, cap, cur, rfl, hg, hh, hn, hc, hs, ht⟩
  · omega
  · have hget : cur[done.length]? = some (.string ⟨x.toArray⟩) := by
      rw [← Array.getElem?_toList]
      have : (cur.toList.take ((done.length + 1) * 1))[done.length]? = some (.string ⟨x.toArray⟩) := by
        rw [ht, List.getElem?_append_right (by omega), hdl, Nat.sub_self]
        rfl
      rw [List.getElem?_take_of_lt (by omega)] at this
      exact this
    refine ⟨g, cap, rfl, hg, (Array.getElem?_eq_some_iff.1 hh).1, by rw [cell_of_row w g _ cur T (0, 0) hh]; exact hget, Lib.frozen_of_heap hh _, fun y => ?_⟩
    unfold OR
    rw [hl, hfm]
    refine ⟨by rw [List.length_append, hdl]; simp, .inr ⟨g, cap, cur.setIfInBounds done.length (.string ⟨y.toArray⟩), rfl, hg, heap_setCell_same _ _ _ _ _ _ hh, hn, hc, by rw [Array.size_setIfInBounds]; exact hs, ?_⟩⟩
    rw [Array.toList_setIfInBounds, List.take_set, ht, List.set_append_right _ _ (by omega)]
    simp [hdl]
theorem wds_blank (x : UInt8) (r now : List UInt8) (h : x = 32 ∨ x = 9 ∨ x = 10) : SP.wds (x :: r) now = (if now = [] then [] else [now]) ++ SP.wds r [] := by
  rw [SP.wds, if_pos (by unfold SP.blank; exact decide_eq_true h)]
theorem wds_more (x : UInt8) (r now : List UInt8) (h : ¬ (x = 32 ∨ x = 9 ∨ x = 10)) : SP.wds (x :: r) now = SP.wds r (now ++ [x]) := by
  rw [SP.wds, if_neg (by unfold SP.blank; rw [decide_eq_false h]; simp)]
/-- Where the loop stands. -/
def DV (R : List (List UInt8)) (rest : List UInt8) (acc : List (List UInt8)) (f : Bool) : Prop :=
  (f = false ∧ acc ++ SP.wds rest [] = R) ∨ (f = true ∧ ∃ done now, acc = done ++ [now] ∧ now ≠ [] ∧ done ++ SP.wds rest now = R)
set_option maxHeartbeats 16000000 in
theorem TopDivides_any (s : List UInt8) (w : World) (hen : Env w) : Calls Tryz.prog 4 #[.string ⟨s.toArray⟩] w fun e w' => e = .returned (.bool true) ∧ Below w.heap.size w w' := by
  have HEN := Lib.hid hen
  have HWL := Lib.hid (fun V (hV : Below w.heap.size w V) => wordsLive_any V (Env_below hen hV))
  by_cases h1 : 200 < s.length
  · have h1' : ((200 : Int) < (s.length : Int)) = True := eq_true (by omega)
    clear hen
    go_enter Tryz.func4, Tryz.ntmps4
    go_wp2_with fail
    refine (HWL.out _ (Below.refl _ _)).mono ?_
    rintro e w1 ⟨rfl, hb⟩
    go_wp2
    go_ret
    exact ⟨rfl, hb⟩
  have h1' : ((200 : Int) < (s.length : Int)) = False := eq_false (by omega)
  obtain ⟨i0, hi, hz0, hz1, hz2⟩ := info_parts infoStr
  have hiS : (Tryz.prog.info? 9).map (·.size) = some 1 := by kernel_rfl
  have hs200 : s.length ≤ 200 := by omega
  obtain ⟨R, hR⟩ : ∃ R, SP.wds s [] = R := ⟨_, rfl⟩
  have hev := environ_any s (by omega) 8 w
  unfold EnvOut at hev
  have HEV := Lib.hid hev
  have HR := Lib.hid hR
  clear hev hen hR
  go_enter Tryz.func4, Tryz.ntmps4
  go_wp2_with fail
  refine HEV.out.mono ?_
  rintro e Y ⟨VA, vc, PA, pc, rfl, hv, hs, hb⟩
  have HEX := Lib.hid (EX.of hv hs (.inr rfl) (Env_below HEN.out hb))
  have HB := Lib.hid hb
  obtain ⟨X, hX, hst, hx, hbx⟩ := box15 Y VA vc PA pc 8
  have hX' := hX
  rw [hX] at hst
  have HX := Lib.hid hX
  have HXB := Lib.hid hbx
  have HXC := Lib.hid hx
  obtain ⟨x0, x1, x2, x3, x4, x5, x6, x7, x8, x9, x10, x11, x12, x13, x14⟩ := blk15 hx
  have hxl := (Array.getElem?_eq_some_iff.1 hx).1
  clear hX hX' hx hbx hv hs hb x0 x1 x2 x3 x4 x5 x6 x7 x8 x9 x10 x11 x12 x13 x14
  go_upto_region 4 with (fail)
  rw [← HX.out]
  go_wp2
  go_loopw [5, 6, 24] (fun o f i wr => ∃ (k : Nat) (acc : List (List UInt8)) (b : Bool), k ≤ s.length ∧ i = .int .i64 k ∧ f = .bool b ∧ Hid (acc.length ≤ k) ∧ Hid (DV R (s.drop k) acc b) ∧ Hid (∀ x ∈ acc, x.length ≤ k) ∧ Hid (OR 1 es 9 X.heap.size wr o acc) ∧ Hid (Below X.heap.size X wr)) (fun _ _ i _ => s.length - (intOf i).toNat)
  case atStart => exact ⟨0, [], false, Nat.zero_le _, rfl, rfl, Lib.hid (Nat.le_refl _), Lib.hid (.inl ⟨rfl, HR.out⟩), Lib.hid (by simp), Lib.hid (OR.nil _ _ _), Lib.hid (Below.refl _ _)⟩
  case round =>
    obtain ⟨k, acc, b, hk, rfl, rfl, HAL, HDV, HLX, HO, HBW⟩ := hrel
    by_cases hlt : k < s.length
    · obtain ⟨x, hx⟩ : ∃ x, s[k]? = some x := ⟨_, List.getElem?_eq_getElem hlt⟩
      have hbt := LX.bt_some hx
      have HD := Lib.hid (show s.drop k = x :: s.drop (k + 1) by obtain ⟨h1, rfl⟩ := List.getElem?_eq_some_iff.1 hx; exact List.drop_eq_getElem_cons h1)
      have HCT := Lib.hid (show cut s k (k + 1) = [x] by rw [K.cut_one s k hlt, hbt]; unfold by8; simp)
      obtain ⟨n, hn⟩ : ∃ n, bt s k = n := ⟨_, rfl⟩
      have HN := Lib.hid (show n = (x.toNat : Int) by rw [← hn, hbt])
      have HS := Lib.hid hn
      clear hx hbt
      by_cases hbl : x = 32 ∨ x = 9 ∨ x = 10
      case pos =>
        have HDN := Lib.hid (show DV R (s.drop (k + 1)) acc false from .inl ⟨rfl, by
          have h0 := HDV.out
          rw [HD.out] at h0
          rcases h0 with ⟨_, h0⟩ | ⟨_, done, now, rfl, hne, h0⟩
          · rw [wds_blank x _ _ hbl, if_pos rfl] at h0
            exact h0
          · rw [wds_blank x _ _ hbl, if_neg hne, ← List.append_assoc] at h0
            exact h0⟩)
        have HA2 := Lib.hid (show acc.length ≤ k + 1 from Nat.le_succ_of_le HAL.out)
        have HX2 := Lib.hid (show ∀ z ∈ acc, z.length ≤ k + 1 from fun z hz => Nat.le_succ_of_le (HLX.out z hz))
        obtain ⟨A1, c1, rfl⟩ := HO.out.val
        have hn3 : n = 32 ∨ n = 9 ∨ n = 10 := by rw [HN.out]; rcases hbl with rfl | rfl | rfl <;> simp
        clear hbl
        rcases hn3 with rfl | rfl | rfl
        all_goals
          go_wp2
          go_roundw
          case rel => exact ⟨k + 1, acc, false, hlt, by go_num, rfl, HA2, HDN, HX2, HO, HBW⟩
          case measure => simp [intOf]; omega
      case neg =>
        have hn1 : ¬ n = 32 := fun e => hbl (.inl (UInt8.toNat_inj.1 (by have := HN.out; rw [e] at this; simp; omega)))
        have hn2 : ¬ n = 9 := fun e => hbl (.inr (.inl (UInt8.toNat_inj.1 (by have := HN.out; rw [e] at this; simp; omega))))
        have hn3 : ¬ n = 10 := fun e => hbl (.inr (.inr (UInt8.toNat_inj.1 (by have := HN.out; rw [e] at this; simp; omega))))
        have hb1 := beq_f hn1
        have hb2 := beq_f hn2
        have hb3 := beq_f hn3
        have HNB := Lib.hid hbl
        clear hbl
        have j1 : ((k : Int) + 1 ≤ (s.length : Int)) = True := eq_true (by omega)
        have j2 : ((k : Int) ≤ (s.length : Int)) = True := eq_true (by omega)
        have j3 : IntKind.i64.wrap ((k : Int) + 1) = (k : Int) + 1 := by rw [IntKind.wrap_i64]; omega
        have j4 : 0 ≤ (k : Int) + 1 := by omega
        have j5 : ((k : Int) + 1).toNat = k + 1 := by omega
        have j6 : ((k : Int) ≤ (k : Int) + 1) = True := eq_true (by omega)
        cases b with
        | false =>
          have HF := Lib.hid (show acc ++ SP.wds (s.drop (k + 1)) [x] = R from by
            have h0 := HDV.out
            rw [HD.out] at h0
            rcases h0 with ⟨_, h0⟩ | ⟨h0, _⟩
            · rw [wds_more x _ _ HNB.out] at h0
              exact h0
            · cases h0)
          obtain ⟨A1, c1, rfl⟩ := HO.out.val
          go_wp2_with (at_builtin; refine wpList_append_own_at _ rfl _ _ 24 rfl X.heap.size 9 i0 _ 1 16 Tryz.underlying24 hi hz0 hz1 hz2 rfl (by decide) _ acc.length _ rfl (row_below HO.out (balloc _ _)) ⟨wr.heap.size, 0, none⟩ 1 1 [.string ⟨#[]⟩] rfl rfl (one_cells _ _ _) (by intro u hu; simp at hu; subst hu; rfl) (by have := HAL.out; unfold maxLen; omega) (by have := HAL.out; omega) (by have := HBW.out.size; simp; omega) ?_)
          intro v4 W4 ho4 hg4 _ _
          have HB4 := Lib.hid ((btr HBW.out (balloc wr (.cells #[.string ⟨#[]⟩] 9))).grown hg4 (by have := HBW.out.size; simp; omega) (fun q hq => own_ge HO.out q hq))
          have ho5 : OR 1 es 9 X.heap.size W4 v4 (acc ++ [[]]) := OR.snocG (enc := es) ho4
          obtain ⟨g, cap, rfl, hgb, hgl, hgc, hgf, hset⟩ := OR.last ho5
          have hset := hset [x]
          have HLN := Lib.hid (show ([] : List UInt8).length ≤ 1000 by simp)
          have HA9 := Lib.hid (show (acc ++ [[x]]).length ≤ k + 1 by have := HAL.out; rw [List.length_append]; simp; omega)
          have HX9 := Lib.hid (show ∀ z ∈ acc ++ [[x]], z.length ≤ k + 1 by
            intro z hz
            rcases List.mem_append.1 hz with hz | hz
            · exact Nat.le_succ_of_le (HLX.out z hz)
            · simp at hz; subst hz; simp)
          clear ho4 hg4 ho5
          generalize hd : acc.length = d at hgc hgf hset
          have hm : d + 1 = d + 1 := rfl
          generalize hmm : d + 1 = m at hset ⊢
          have HD1 := Lib.hid hd
          have HM1 := Lib.hid hmm
          have hdm : d < m := by omega
          have hmb : m ≤ 1000 := by have := HAL.out; omega
          have hw1 : IntKind.i64.wrap ((m : Int) - 1) = (d : Int) := by rw [IntKind.wrap_i64]; omega
          have hdi : ((d : Int) < (m : Int)) = True := eq_true (by omega)
          have hA := str_addT [] (cut s k (k + 1)) [x] (by rw [HCT.out] <;> rfl) (by have := HLN.out; omega) (by rw [HCT.out]; simp)
          have hst := run_storeVar_str (P := Tryz.prog) (W4).drew ⟨g, d, none⟩ 9 ⟨([x]).toArray⟩ _ hiS hgc hgf
          obtain ⟨Z, hZ⟩ : ∃ Z, Z = ((W4).setCell ⟨g, d, none⟩ (.string ⟨([x]).toArray⟩)).drew := ⟨_, rfl⟩
          have HZ := Lib.hid hZ
          have HOZ := Lib.hid (show OR 1 es 9 X.heap.size Z (.slice (some ⟨g, 0, none⟩) m cap) (acc ++ [[x]]) by rw [hZ]; exact hset.below (Below.refl _ _).drew)
          have HBZ := Lib.hid (show Below X.heap.size X Z by rw [hZ]; exact (HB4.out.setCell (p := ⟨g, d, none⟩) hgb _).drew)
          clear hd hmm hm hset hZ
          go_wp2_with fail
          go_still_tail 13, (by kernel_rfl)
          change wpList _ _ _ _ _ (W4).drew
          go_upto_region 17 with (fail)
          rw [← HZ.out]
          go_wp2
          go_roundw
          case rel => exact ⟨k + 1, acc ++ [[x]], true, hlt, by go_num, rfl, HA9, Lib.hid (.inr ⟨rfl, _, _, rfl, by simp, HF.out⟩), HX9, HOZ, HBZ⟩
          case measure => simp [intOf]; omega
        | true =>
          obtain ⟨done, now, hacc, hne, hF⟩ : ∃ done now, acc = done ++ [now] ∧ now ≠ [] ∧ done ++ SP.wds (s.drop (k + 1)) (now ++ [x]) = R := by
            have h0 := HDV.out
            rw [HD.out] at h0
            rcases h0 with ⟨h0, _⟩ | ⟨_, done, now, h1, h2, h0⟩
            · cases h0
            · rw [wds_more x _ _ HNB.out] at h0
              exact ⟨done, now, h1, h2, h0⟩
          have ho5 := HO.out
          rw [hacc] at ho5
          have hdl : done.length + 1 = acc.length := by rw [hacc, List.length_append]; rfl
          have HF := Lib.hid hF
          have HLN := Lib.hid (show now.length ≤ 1000 by have := HLX.out now (by rw [hacc]; simp); omega)
          have HA9 := Lib.hid (show (done ++ [now ++ [x]]).length ≤ k + 1 by have := HAL.out; rw [List.length_append]; simp; omega)
          have HX9 := Lib.hid (show ∀ z ∈ done ++ [now ++ [x]], z.length ≤ k + 1 by
            intro z hz
            rcases List.mem_append.1 hz with hz | hz
            · exact Nat.le_succ_of_le (HLX.out z (by rw [hacc]; exact List.mem_append_left _ hz))
            · have := HLX.out now (by rw [hacc]; simp); simp at hz; subst hz; rw [List.length_append]; simp; omega)
          obtain ⟨g, cap, rfl, hgb, hgl, hgc, hgf, hset⟩ := OR.last ho5
          have hset := hset (now ++ [x])
          clear ho5 hacc hne hF
          generalize hd : done.length = d at hgc hgf hset
          have hm : d + 1 = d + 1 := rfl
          generalize hmm : d + 1 = m at hset ⊢
          have HD1 := Lib.hid hd
          have HM1 := Lib.hid hmm
          have hdm : d < m := by omega
          have hmb : m ≤ 1000 := by have := HAL.out; omega
          have hw1 : IntKind.i64.wrap ((m : Int) - 1) = (d : Int) := by rw [IntKind.wrap_i64]; omega
          have hdi : ((d : Int) < (m : Int)) = True := eq_true (by omega)
          have hA := str_addT now (cut s k (k + 1)) (now ++ [x]) (by rw [HCT.out] <;> rfl) (by have := HLN.out; omega) (by rw [HCT.out]; simp)
          have hst := run_storeVar_str (P := Tryz.prog) (wr).drew ⟨g, d, none⟩ 9 ⟨((now ++ [x])).toArray⟩ _ hiS hgc hgf
          obtain ⟨Z, hZ⟩ : ∃ Z, Z = ((wr).setCell ⟨g, d, none⟩ (.string ⟨((now ++ [x])).toArray⟩)).drew := ⟨_, rfl⟩
          have HZ := Lib.hid hZ
          have HOZ := Lib.hid (show OR 1 es 9 X.heap.size Z (.slice (some ⟨g, 0, none⟩) m cap) (done ++ [(now ++ [x])]) by rw [hZ]; exact hset.below (Below.refl _ _).drew)
          have HBZ := Lib.hid (show Below X.heap.size X Z by rw [hZ]; exact (HBW.out.setCell (p := ⟨g, d, none⟩) hgb _).drew)
          clear hd hmm hm hset hZ
          go_wp2_with fail
          go_still_tail 13, (by kernel_rfl)
          change wpList _ _ _ _ _ (wr).drew
          go_upto_region 17 with (fail)
          rw [← HZ.out]
          go_wp2
          go_roundw
          case rel => exact ⟨k + 1, done ++ [(now ++ [x])], true, hlt, by go_num, rfl, HA9, Lib.hid (.inr ⟨rfl, _, _, rfl, by simp, HF.out⟩), HX9, HOZ, HBZ⟩
          case measure => simp [intOf]; omega
    · have HAC := Lib.hid (show acc = R from by
        have h0 := HDV.out
        rw [List.drop_of_length_le (by omega)] at h0
        rcases h0 with ⟨_, h0⟩ | ⟨_, done, now, h1, h2, h0⟩
        · rw [SP.wds, if_pos rfl, List.append_nil] at h0
          exact h0
        · rw [SP.wds, if_neg h2] at h0
          rw [h1]
          exact h0)
      have HRL := Lib.hid (show R.length ≤ 1000 by rw [← HAC.out]; have := HAL.out; omega)
      have hsw := HO.out.rv es_len
      rw [HAC.out] at hsw
      have HSW := Lib.hid hsw
      clear hsw
      obtain ⟨A1, c1, rfl⟩ := HO.out.val
      have hwc := (HBW.out.block _ hxl).trans HXC.out
      obtain ⟨y0, y1, y2, y3, y4, y5, y6, y7, y8, y9, y10, y11, y12, y13, y14⟩ := blk15 hwc
      have hyl := (Array.getElem?_eq_some_iff.1 hwc).1
      have HF1 := Lib.hid (show Calls Tryz.prog 9 _ _ (FOut _ R) from by
        have := fields_x ((HEX.out.below HXB.out).below HBW.out) hs200 (fun h0 => absurd h0 (by decide))
        rw [show (xV s).value = s from rfl, SP.texts_value, HR.out] at this
        exact this)
      clear hwc
      go_wp2_with fail
      refine HF1.out.mono ?_
      rintro e V ⟨v1, rfl, hf1, -, hb1⟩
      obtain ⟨A2, c2, rfl, -⟩ := hf1.slice
      have HS1 := Lib.hid hf1
      have HSV := Lib.hid (HSW.out.below hb1)
      have HWV := Lib.hid (show Below w.heap.size w V from HB.out.trans ((HXB.out.trans ((HBW.out.trans (hb1.mono HBW.out.size)).mono HXB.out.size)).mono HB.out.size))
      clear hf1 hb1
      go_wp2_with fail
      refine (sameT_any R _ _ _ HS1.out HSV.out (by have := HRL.out; omega)).mono ?_
      rintro e V3 ⟨rfl, hv⟩
      have HV3 := Lib.hid (show Below w.heap.size w V3 from btr HWV.out hv)
      clear hv
      go_wp2_with fail
      refine (HWL.out _ HV3.out).mono ?_
      rintro e V4 ⟨rfl, hv⟩
      have HV4 := Lib.hid (btr HV3.out hv)
      clear hv
      go_wp2
      go_ret
      exact ⟨rfl, HV4.out⟩
end W
end Go.Proofs.YtkceenmlhfkkhaaGreatDoor
