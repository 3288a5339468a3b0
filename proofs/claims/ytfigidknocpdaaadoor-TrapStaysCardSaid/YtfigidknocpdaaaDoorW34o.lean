/- Chapter 34: Requests of the reference. -/
import Derived.Test.YtfigidknocpdaaaDoorW34n
namespace Go.Proofs.YtfigidknocpdaaaDoor
open Go.RowKit K
namespace W
set_option maxHeartbeats 4000000 in
set_option maxRecDepth 100000 in
theorem Requests_ref (v1 v2 : Value) (t1 t2 : List Tr) (talks : Bool) (w : World) (hV1 : TV w v1 t1) (hV2 : TV w v2 t2) (hn1 : t1.length ≤ 1000) (hn2 : t2.length ≤ 1000) :
    Calls Tryd.prog 18 #[v1, v2, .bool talks] w (RPost w (P.requestsR t1 t2 talks)) := by
  obtain ⟨i0, hi, hy0, hy1, hy2⟩ := info_parts infoReq
  have H1 := Lib.hid (fun z w' (hb : Below w.heap.size w w') => disposition_ref v1 t1 z talks w' (hV1.below hb) (by omega))
  have H2 := Lib.hid (fun z w' (hb : Below w.heap.size w w') => disposition_ref v2 t2 z talks w' (hV2.below hb) (by omega))
  obtain ⟨R, hR⟩ : ∃ R, P.requestsR t1 t2 talks = R := ⟨_, rfl⟩
  rw [hR]
  unfold P.requestsR at hR
  have HR := Lib.hid hR
  obtain ⟨A1, c1, rfl, -, -, -, -⟩ := hV1
  obtain ⟨A2, c2, rfl, -, -, -, -⟩ := hV2
  clear hR
  go_enter Tryd.func18, Tryd.ntmps18
  go_wp2
  go_loopw [7, 8] (fun o i wr => ∃ (k : Nat) (acc : List (Int × Int)), 1 ≤ k ∧ k ≤ 21 ∧ i = .int .i64 k ∧ acc.length ≤ k ∧ wr.ownsRow w.heap.size 40 12 o acc.length (rcells acc) ∧ Below w.heap.size w wr ∧ Hid (acc ++ P.reqRAt t1 t2 talks (21 - k) k = R)) (fun _ i _ => 21 - (intOf i).toNat)
  case atStart => exact ⟨1, [], by omega, by omega, rfl, by simp, World.ownsRow_nil _ _ _ _, Below.refl _ _, by show _ = _; simpa using HR.out⟩
  case round =>
    obtain ⟨k, acc, hk1, hk, rfl, hac, hown, hbw, HN⟩ := hrel
    by_cases hlt : k < 21
    · have g0 : ((k : Int) ≤ 20) = True := eq_true (by omega)
      have HST := Lib.hid (show P.reqRAt t1 t2 talks (21 - k) k = if P.nameL k = [] ∨ k = 9 ∨ k = 19 ∨ P.dispo t2 k talks = P.dispo t1 k talks then P.reqRAt t1 t2 talks (21 - (k + 1)) (k + 1) else ((k : Int), P.dispo t2 k talks) :: P.reqRAt t1 t2 talks (21 - (k + 1)) (k + 1) by rw [show 21 - k = (21 - (k + 1)) + 1 by omega, P.reqRAt])
      have HNA := Lib.hid (NameR_any (k : Int) wr)
      have HD1 := Lib.hid (H1.out (k : Int) wr hbw)
      have HD2 := Lib.hid (H2.out (k : Int) wr hbw)
      have HB := Lib.hid hbw
      have HO := Lib.hid hown
      have hsz := hbw.size
      obtain ⟨nm, hnm⟩ : ∃ nm, P.nameL k = nm := ⟨_, rfl⟩
      rw [hnm] at HST HNA
      obtain ⟨a, ha⟩ : ∃ a, P.dispo t1 k talks = a := ⟨_, rfl⟩
      obtain ⟨d, hd⟩ : ∃ d, P.dispo t2 k talks = d := ⟨_, rfl⟩
      rw [ha, hd] at HST
      rw [ha] at HD1
      rw [hd] at HD2
      clear hnm ha hd hbw
      by_cases h1 : nm = []
      · subst h1
        have HF := Lib.hid (show acc ++ P.reqRAt t1 t2 talks (21 - (k + 1)) (k + 1) = R by rw [← HN.out, HST.out, if_pos (.inl rfl)])
        clear hown
        go_wp2_with fail; refine (HNA.out).mono ?_; rintro e w1 ⟨rfl, rfl⟩
        go_wp2
        go_roundw
        case rel => exact ⟨k + 1, acc, by omega, by omega, by go_num, by omega, HO.out, HB.out, HF.out⟩
        case measure => simp [intOf]; omega
      · have hne : nm.isEmpty = false := by cases nm; simp at h1; rfl
        by_cases h9 : k = 9
        · have HF := Lib.hid (show acc ++ P.reqRAt t1 t2 talks (21 - (k + 1)) (k + 1) = R by rw [← HN.out, HST.out, if_pos (.inr (.inl h9))])
          have e9 : ((k : Int) == 9) = true := by simp; omega
          clear hown h1 h9
          go_wp2_with fail; refine (HNA.out).mono ?_; rintro e w1 ⟨rfl, rfl⟩
          go_wp2
          go_roundw
          case rel => exact ⟨k + 1, acc, by omega, by omega, by go_num, by omega, HO.out, HB.out, HF.out⟩
          case measure => simp [intOf]; omega
        · have e9 : ((k : Int) == 9) = false := by simp; omega
          by_cases h19 : k = 19
          · have HF := Lib.hid (show acc ++ P.reqRAt t1 t2 talks (21 - (k + 1)) (k + 1) = R by rw [← HN.out, HST.out, if_pos (.inr (.inr (.inl h19)))])
            have e19 : ((k : Int) == 19) = true := by simp; omega
            clear hown h1 h9 h19
            go_wp2_with fail; refine (HNA.out).mono ?_; rintro e w1 ⟨rfl, rfl⟩
            go_wp2
            go_roundw
            case rel => exact ⟨k + 1, acc, by omega, by omega, by go_num, by omega, HO.out, HB.out, HF.out⟩
            case measure => simp [intOf]; omega
          · have e19 : ((k : Int) == 19) = false := by simp; omega
            by_cases had : d = a
            · have HF := Lib.hid (show acc ++ P.reqRAt t1 t2 talks (21 - (k + 1)) (k + 1) = R by rw [← HN.out, HST.out, if_pos (.inr (.inr (.inr had)))])
              have ead : (d != a) = false := by simp [had]
              clear hown h1 h9 h19 had
              go_wp2_with fail; refine (HNA.out).mono ?_; rintro e w1 ⟨rfl, rfl⟩
              go_wp2_with fail; refine (HD2.out).mono ?_; rintro e w1 ⟨rfl, rfl⟩
              go_wp2_with fail; refine (HD1.out).mono ?_; rintro e w1 ⟨rfl, rfl⟩
              go_wp2
              go_roundw
              case rel => exact ⟨k + 1, acc, by omega, by omega, by go_num, by omega, HO.out, HB.out, HF.out⟩
              case measure => simp [intOf]; omega
            · have HF := Lib.hid (show (acc ++ [((k : Int), d)]) ++ P.reqRAt t1 t2 talks (21 - (k + 1)) (k + 1) = R by rw [← HN.out, HST.out, if_neg (by rintro (h | h | h | h); exact h1 h; exact h9 h; exact h19 h; exact had h)]; simp)
              have ead : (d != a) = true := by simp [had]
              have HSN := Lib.hid (rcells_snoc acc ((k : Int), d))
              clear h1 h9 h19 had
              go_wp2_with fail; refine (HNA.out).mono ?_; rintro e w1 ⟨rfl, rfl⟩
              go_wp2_with fail; refine (HD2.out).mono ?_; rintro e w1 ⟨rfl, rfl⟩
              go_wp2_with fail; refine (HD1.out).mono ?_; rintro e w1 ⟨rfl, rfl⟩
              go_wp2_with fail; refine (HD2.out).mono ?_; rintro e w1 ⟨rfl, rfl⟩
              go_wp2_with (at_builtin; refine wpList_append_own _ rfl _ _ 35 rfl w.heap.size 40 i0 _ 12 144 Tryd.underlying35 hi hy0 hy1 hy2 rfl (by decide) _ _ _ rfl (hown.alloc _) ⟨wr.heap.size, 0, none⟩ 1 1 (rcell ((k : Int), d)) rfl rfl (World.news_of_block (cs := (rcell ((k : Int), d)).toArray) (t := 40) (fr := (0, 0)) (heap_alloc_new wr _)) (rcell_one _) (by unfold maxLen; omega) (by omega) (by simp; omega) ?_)
              intro v2 w2 hown2 hgrow2 _
              have hb2 : Below w.heap.size w w2 := (HB.out.alloc HB.out.size _).grown hgrow2 (by simp; omega) (fun k hk => (HO.out.lt k hk).1)
              rw [HSN.out] at hown2
              have HO2 := Lib.hid hown2
              have HB2 := Lib.hid hb2
              clear hown hgrow2 hown2 hb2
              go_wp2
              go_roundw
              case rel => exact ⟨k + 1, acc ++ [((k : Int), d)], by omega, by omega, by go_num, by simp; omega, by simpa using HO2.out, HB2.out, HF.out⟩
              case measure => simp [intOf]; omega
    · have HF := Lib.hid (show acc = R by have := HN.out; rw [show 21 - k = 0 by omega] at this; simpa [P.reqRAt] using this)
      have HB := Lib.hid hbw
      have HO := Lib.hid hown
      have g0 : ((k : Int) ≤ 20) = False := eq_false (by omega)
      clear hown hbw hlt
      go_wp2
      go_ret
      exact ⟨_, rfl, by rw [← HF.out]; exact HO.out, HB.out⟩
end W
end Go.Proofs.YtfigidknocpdaaaDoor
