/- Chapter 34: Sub of trap; Reset and Sub of the reference. -/
import Derived.Test.YtfigidknocpdaaaDoorW34c
namespace Go.Proofs.YtfigidknocpdaaaDoor
open Go.RowKit K
namespace W

set_option maxHeartbeats 1000000 in
theorem Sub_any (v : Value) (ts : List Tr) (w : World) (hV : TV w v ts) (hn : ts.length ≤ 1000000) :
    Calls Tryd.prog 28 #[v] w (TPost w (P.sub ts)) := by
  obtain ⟨i0, hi, hz0, hz1, hz2⟩ := info_parts infoTrap
  obtain ⟨A, c, rfl, hc1, hc2, -, hT⟩ := hV
  obtain ⟨R, hR⟩ : ∃ R, P.sub ts = R := ⟨_, rfl⟩
  rw [hR]
  have HR := Lib.hid (show ts.filter (P.subB) = R from hR)
  have HT := Lib.hid hT
  clear hR hT
  go_enter Tryd.func28, Tryd.ntmps28
  go_wp2
  go_loopw [3, 8] (fun o i wr => ∃ (k : Nat) (acc : List Tr), k ≤ ts.length ∧ i = .int .i64 k ∧ acc.length ≤ k ∧ wr.ownsRow w.heap.size 30 2 o acc.length (tcells acc) ∧ Below w.heap.size w wr ∧ Hid (acc ++ (ts.drop k).filter (P.subB) = R)) (fun _ i _ => ts.length - (intOf i).toNat)
  case atStart => exact ⟨0, [], by omega, rfl, by simp, World.ownsRow_nil _ _ _ _, Below.refl _ _, by show _ = _; simpa using HR.out⟩
  case round =>
    obtain ⟨k, acc, hk, rfl, hac, hown, hbw, HN⟩ := hrel
    by_cases hlt : k < ts.length
    · obtain ⟨b, off, rfl, hb, hc0, hc1'⟩ := (HT.out.below hbw).get hlt
      have HD := Lib.hid (drop_getT hlt)
      obtain ⟨⟨z, s⟩, ht⟩ : ∃ t, ts.getD k (0, []) = t := ⟨_, rfl⟩
      rw [ht] at HD hc0 hc1'
      simp only at hc0 hc1'
      clear ht
      have hsz := hbw.size
      have HB := Lib.hid hbw
      have HO := Lib.hid hown
      by_cases hq : z = 0
      · have e1 : (z != 0) = false := by simp [hq]
        rcases List.eq_nil_or_concat s with hs | hs
        · subst hs
          have HF := Lib.hid (show acc ++ (ts.drop (k + 1)).filter (P.subB) = R by rw [← HN.out, HD.out, List.filter_cons_of_neg (by simp [P.subB, hq])])
          clear hown hbw hq
          go_wp2
          go_roundw
          case rel => exact ⟨k + 1, acc, by omega, by go_num, by omega, HO.out.alloc _, HB.out.alloc HB.out.size _, HF.out⟩
          case measure => simp [intOf]; omega
        · have hs1 : s ≠ [] := by rintro rfl; simp at hs
          have hs2 : s.isEmpty = false := by cases s; simp at hs1; rfl
          have HF := Lib.hid (show acc ++ (ts.drop (k + 1)).filter (P.subB) = R by rw [← HN.out, HD.out, List.filter_cons_of_neg (by simp [P.subB, hq])])
          clear hown hbw hq hs hs1
          go_wp2
          go_roundw
          case rel => exact ⟨k + 1, acc, by omega, by go_num, by omega, HO.out.alloc _, HB.out.alloc HB.out.size _, HF.out⟩
          case measure => simp [intOf]; omega
      · have e1 : (z != 0) = true := by simp [hq]
        rcases List.eq_nil_or_concat s with hs | hs
        · subst hs
          have HF := Lib.hid (show (acc ++ [(z, ([] : List UInt8))]) ++ (ts.drop (k + 1)).filter (P.subB) = R by rw [← HN.out, HD.out, List.filter_cons_of_pos (by simp [P.subB, hq])]; simp)
          have HSN := Lib.hid (tcells_snoc acc (z, ([] : List UInt8)))
          clear hbw hq
          go_wp2_with (at_builtin; refine wpList_append_own _ rfl _ _ 26 rfl w.heap.size 30 i0 (.agg #[.int .i64 0, .string ⟨#[]⟩]) 2 24 Tryd.underlying26 hi hz0 hz1 hz2 rfl (by decide) _ _ _ rfl ((hown.alloc _).alloc _) ⟨wr.heap.size + 1, 0, none⟩ 1 1 [.int .i64 z, .string ⟨#[]⟩] rfl rfl (pair_news wr _ _ _ _) (pair_one _ _) (by unfold maxLen; omega) (by omega) (by simp; omega) ?_)
          intro v2 w2 hown2 hgrow2 _
          have hb2 : Below w.heap.size w w2 := ((HB.out.alloc HB.out.size _).alloc (by have := HB.out.size; simp; omega) _).grown hgrow2 (by have := HB.out.size; simp; omega) (fun k hk => (HO.out.lt k hk).1)
          rw [HSN.out] at hown2
          clear hown hgrow2
          go_wp2
          go_roundw
          case rel => exact ⟨k + 1, acc ++ [(z, ([] : List UInt8))], by omega, by go_num, by simp; omega, by simpa using hown2, hb2, HF.out⟩
          case measure => simp [intOf]; omega
        · have hs1 : s ≠ [] := by rintro rfl; simp at hs
          have hs2 : s.isEmpty = false := by cases s; simp at hs1; rfl
          have HF := Lib.hid (show acc ++ (ts.drop (k + 1)).filter (P.subB) = R by rw [← HN.out, HD.out, List.filter_cons_of_neg (by simp [P.subB, hs1])])
          clear hown hbw hq hs hs1
          go_wp2
          go_roundw
          case rel => exact ⟨k + 1, acc, by omega, by go_num, by omega, HO.out.alloc _, HB.out.alloc HB.out.size _, HF.out⟩
          case measure => simp [intOf]; omega
    · have HF := Lib.hid (show acc = R by have := HN.out; rw [List.drop_eq_nil_of_le (by omega)] at this; simpa using this)
      have HB := Lib.hid hbw
      have HO := Lib.hid hown
      clear hown hbw
      go_wp2
      go_ret
      exact ⟨_, rfl, by rw [← HF.out]; exact HO.out, HB.out⟩

set_option maxHeartbeats 1000000 in
theorem Reset_ref (v : Value) (ts : List Tr) (sig : Int) (w : World) (hV : TV w v ts) (hn : ts.length ≤ 1000000) :
    Calls Tryd.prog 24 #[v, .int .i64 sig] w (TPost w (P.reset ts sig)) := by
  obtain ⟨i0, hi, hz0, hz1, hz2⟩ := info_parts infoTrap
  obtain ⟨A, c, rfl, hc1, hc2, -, hT⟩ := hV
  obtain ⟨R, hR⟩ : ∃ R, P.reset ts sig = R := ⟨_, rfl⟩
  rw [hR]
  have HR := Lib.hid (show ts.filter (P.resetB sig) = R from hR)
  have HT := Lib.hid hT
  clear hR hT
  go_enter Tryd.func24, Tryd.ntmps24
  go_wp2
  go_loopw [5, 6] (fun o i wr => ∃ (k : Nat) (acc : List Tr), k ≤ ts.length ∧ i = .int .i64 k ∧ acc.length ≤ k ∧ wr.ownsRow w.heap.size 30 2 o acc.length (tcells acc) ∧ Below w.heap.size w wr ∧ Hid (acc ++ (ts.drop k).filter (P.resetB sig) = R)) (fun _ i _ => ts.length - (intOf i).toNat)
  case atStart => exact ⟨0, [], by omega, rfl, by simp, World.ownsRow_nil _ _ _ _, Below.refl _ _, by show _ = _; simpa using HR.out⟩
  case round =>
    obtain ⟨k, acc, hk, rfl, hac, hown, hbw, HN⟩ := hrel
    by_cases hlt : k < ts.length
    · obtain ⟨b, off, rfl, hb, hc0, hc1'⟩ := (HT.out.below hbw).get hlt
      have HD := Lib.hid (drop_getT hlt)
      obtain ⟨⟨z, s⟩, ht⟩ : ∃ t, ts.getD k (0, []) = t := ⟨_, rfl⟩
      rw [ht] at HD hc0 hc1'
      simp only at hc0 hc1'
      clear ht
      have hsz := hbw.size
      have HB := Lib.hid hbw
      have HO := Lib.hid hown
      by_cases hq : z = sig
      · have e1 : (z != sig) = false := by simp [hq]
        have HF := Lib.hid (show acc ++ (ts.drop (k + 1)).filter (P.resetB sig) = R by rw [← HN.out, HD.out, List.filter_cons_of_neg (by simp [P.resetB, hq])])
        clear hown hbw hq
        go_wp2
        go_roundw
        case rel => exact ⟨k + 1, acc, by omega, by go_num, by omega, HO.out, HB.out, HF.out⟩
        case measure => simp [intOf]; omega
      · have e1 : (z != sig) = true := by simp [hq]
        have HF := Lib.hid (show (acc ++ [(z, s)]) ++ (ts.drop (k + 1)).filter (P.resetB sig) = R by rw [← HN.out, HD.out, List.filter_cons_of_pos (by simp [P.resetB, hq])]; simp)
        have HSN := Lib.hid (tcells_snoc acc (z, s))
        clear hbw hq
        go_wp2_with (at_builtin; refine wpList_append_own _ rfl _ _ 26 rfl w.heap.size 30 i0 (.agg #[.int .i64 0, .string ⟨#[]⟩]) 2 24 Tryd.underlying26 hi hz0 hz1 hz2 rfl (by decide) _ _ _ rfl (hown.alloc _) ⟨wr.heap.size, 0, none⟩ 1 1 [.int .i64 z, .string ⟨s.toArray⟩] rfl rfl (pair_news1 wr _ _ _) (pair_one _ _) (by unfold maxLen; omega) (by omega) (by simp; omega) ?_)
        intro v2 w2 hown2 hgrow2 _
        have hb2 : Below w.heap.size w w2 := (HB.out.alloc HB.out.size _).grown hgrow2 (by have := HB.out.size; simp; omega) (fun k hk => (HO.out.lt k hk).1)
        rw [HSN.out] at hown2
        clear hown hgrow2
        go_wp2
        go_roundw
        case rel => exact ⟨k + 1, acc ++ [(z, s)], by omega, by go_num, by simp; omega, by simpa using hown2, hb2, HF.out⟩
        case measure => simp [intOf]; omega
    · have HF := Lib.hid (show acc = R by have := HN.out; rw [List.drop_eq_nil_of_le (by omega)] at this; simpa using this)
      have HB := Lib.hid hbw
      have HO := Lib.hid hown
      clear hown hbw
      go_wp2
      go_ret
      exact ⟨_, rfl, by rw [← HF.out]; exact HO.out, HB.out⟩

set_option maxHeartbeats 1000000 in
theorem Sub_ref (v : Value) (ts : List Tr) (w : World) (hV : TV w v ts) (hn : ts.length ≤ 1000000) :
    Calls Tryd.prog 29 #[v] w (TPost w (P.sub ts)) := by
  obtain ⟨i0, hi, hz0, hz1, hz2⟩ := info_parts infoTrap
  obtain ⟨A, c, rfl, hc1, hc2, -, hT⟩ := hV
  obtain ⟨R, hR⟩ : ∃ R, P.sub ts = R := ⟨_, rfl⟩
  rw [hR]
  have HR := Lib.hid (show ts.filter (P.subB) = R from hR)
  have HT := Lib.hid hT
  clear hR hT
  go_enter Tryd.func29, Tryd.ntmps29
  go_wp2
  go_loopw [3, 4] (fun o i wr => ∃ (k : Nat) (acc : List Tr), k ≤ ts.length ∧ i = .int .i64 k ∧ acc.length ≤ k ∧ wr.ownsRow w.heap.size 30 2 o acc.length (tcells acc) ∧ Below w.heap.size w wr ∧ Hid (acc ++ (ts.drop k).filter (P.subB) = R)) (fun _ i _ => ts.length - (intOf i).toNat)
  case atStart => exact ⟨0, [], by omega, rfl, by simp, World.ownsRow_nil _ _ _ _, Below.refl _ _, by show _ = _; simpa using HR.out⟩
  case round =>
    obtain ⟨k, acc, hk, rfl, hac, hown, hbw, HN⟩ := hrel
    by_cases hlt : k < ts.length
    · obtain ⟨b, off, rfl, hb, hc0, hc1'⟩ := (HT.out.below hbw).get hlt
      have HD := Lib.hid (drop_getT hlt)
      obtain ⟨⟨z, s⟩, ht⟩ : ∃ t, ts.getD k (0, []) = t := ⟨_, rfl⟩
      rw [ht] at HD hc0 hc1'
      simp only at hc0 hc1'
      clear ht
      have hsz := hbw.size
      have HB := Lib.hid hbw
      have HO := Lib.hid hown
      by_cases hq : z = 0
      · have e1 : (z != 0) = false := by simp [hq]
        rcases List.eq_nil_or_concat s with hs | hs
        · subst hs
          have HF := Lib.hid (show acc ++ (ts.drop (k + 1)).filter (P.subB) = R by rw [← HN.out, HD.out, List.filter_cons_of_neg (by simp [P.subB, hq])])
          clear hown hbw hq
          go_wp2
          go_roundw
          case rel => exact ⟨k + 1, acc, by omega, by go_num, by omega, HO.out, HB.out, HF.out⟩
          case measure => simp [intOf]; omega
        · have hs1 : s ≠ [] := by rintro rfl; simp at hs
          have hs2 : s.isEmpty = false := by cases s; simp at hs1; rfl
          have HF := Lib.hid (show acc ++ (ts.drop (k + 1)).filter (P.subB) = R by rw [← HN.out, HD.out, List.filter_cons_of_neg (by simp [P.subB, hq])])
          clear hown hbw hq hs hs1
          go_wp2
          go_roundw
          case rel => exact ⟨k + 1, acc, by omega, by go_num, by omega, HO.out, HB.out, HF.out⟩
          case measure => simp [intOf]; omega
      · have e1 : (z != 0) = true := by simp [hq]
        rcases List.eq_nil_or_concat s with hs | hs
        · subst hs
          have HF := Lib.hid (show (acc ++ [(z, ([] : List UInt8))]) ++ (ts.drop (k + 1)).filter (P.subB) = R by rw [← HN.out, HD.out, List.filter_cons_of_pos (by simp [P.subB, hq])]; simp)
          have HSN := Lib.hid (tcells_snoc acc (z, ([] : List UInt8)))
          clear hbw hq
          go_wp2_with (at_builtin; refine wpList_append_own _ rfl _ _ 26 rfl w.heap.size 30 i0 (.agg #[.int .i64 0, .string ⟨#[]⟩]) 2 24 Tryd.underlying26 hi hz0 hz1 hz2 rfl (by decide) _ _ _ rfl (hown.alloc _) ⟨wr.heap.size, 0, none⟩ 1 1 [.int .i64 z, .string ⟨#[]⟩] rfl rfl (pair_news1 wr _ _ _) (pair_one _ _) (by unfold maxLen; omega) (by omega) (by simp; omega) ?_)
          intro v2 w2 hown2 hgrow2 _
          have hb2 : Below w.heap.size w w2 := (HB.out.alloc HB.out.size _).grown hgrow2 (by have := HB.out.size; simp; omega) (fun k hk => (HO.out.lt k hk).1)
          rw [HSN.out] at hown2
          clear hown hgrow2
          go_wp2
          go_roundw
          case rel => exact ⟨k + 1, acc ++ [(z, ([] : List UInt8))], by omega, by go_num, by simp; omega, by simpa using hown2, hb2, HF.out⟩
          case measure => simp [intOf]; omega
        · have hs1 : s ≠ [] := by rintro rfl; simp at hs
          have hs2 : s.isEmpty = false := by cases s; simp at hs1; rfl
          have HF := Lib.hid (show acc ++ (ts.drop (k + 1)).filter (P.subB) = R by rw [← HN.out, HD.out, List.filter_cons_of_neg (by simp [P.subB, hs1])])
          clear hown hbw hq hs hs1
          go_wp2
          go_roundw
          case rel => exact ⟨k + 1, acc, by omega, by go_num, by omega, HO.out, HB.out, HF.out⟩
          case measure => simp [intOf]; omega
    · have HF := Lib.hid (show acc = R by have := HN.out; rw [List.drop_eq_nil_of_le (by omega)] at this; simpa using this)
      have HB := Lib.hid hbw
      have HO := Lib.hid hown
      clear hown hbw
      go_wp2
      go_ret
      exact ⟨_, rfl, by rw [← HF.out]; exact HO.out, HB.out⟩
end W
end Go.Proofs.YtfigidknocpdaaaDoor
