/- Chapter 34: Next of the reference. -/
import Derived.Test.YtfigidknocpdaaaDoorW34p
namespace Go.Proofs.YtfigidknocpdaaaDoor
open Go.RowKit K
namespace P
def leastS (ts : List Tr) (m p : Int) : Int := if actsB ts p && (m == 0 || decide (p < m)) then p else m
def leastL (ts : List Tr) : Int → List Int → Int
  | m, [] => m
  | m, p :: r => leastL ts (leastS ts m p) r
def leastR (ts : List Tr) (ps : List Int) : Int := leastL ts 0 ps
theorem leastS_acts {ts : List Tr} {m p : Int} (h : m = 0 ∨ actsB ts m = true) : leastS ts m p = 0 ∨ actsB ts (leastS ts m p) = true := by
  unfold leastS
  split
  · rename_i hc
    simp at hc
    exact .inr hc.1
  · exact h
theorem acts_look {ts : List Tr} {m : Int} (h : actsB ts m = true) : m ≠ 0 ∧ ∃ s, look ts m = some s ∧ s ≠ [] := by
  unfold actsB at h
  cases hl : look ts m with
  | none => rw [hl] at h; simp at h
  | some s => rw [hl] at h; simp at h; exact ⟨h.1, s, rfl, h.2⟩
def keepR (ts : List Tr) (m p : Int) : Bool := actsB ts p && p != m
def restR (ts : List Tr) (ps : List Int) (m : Int) : List Int := ps.filter (keepR ts m)
end P
namespace W
/-- What Next of the reference returns. -/
def NRPost (w : World) (ts : List Tr) (ps : List Int) (e : Ending) (w' : World) : Prop :=
  Below w.heap.size w w' ∧ ((P.leastR ts ps = 0 ∧ e = .returned (.tuple #[.agg #[.int .i64 0, .string ⟨#[]⟩], .slice none 0 0, .bool false])) ∨
    ∃ v s, P.leastR ts ps ≠ 0 ∧ P.look ts (P.leastR ts ps) = some s ∧ e = .returned (.tuple #[.agg #[.int .i64 (P.leastR ts ps), .string ⟨s.toArray⟩], v, .bool true]) ∧ w'.ownsRow w.heap.size 3 1 v (P.restR ts ps (P.leastR ts ps)).length ((P.restR ts ps (P.leastR ts ps)).map (.int .i64)))

set_option maxHeartbeats 4000000 in
set_option maxRecDepth 100000 in
theorem Next_ref (v : Value) (ts : List Tr) (Ap : Option Addr) (cp : Nat) (ps : List Int) (w : World) (hV : TV w v ts) (hn : ts.length ≤ 1000) (hP : IL .i64 w Ap ps) (hp : ps.length ≤ 1000) :
    Calls Tryd.prog 15 #[v, .slice Ap ps.length cp] w (NRPost w ts ps) := by
  obtain ⟨i0, hi, hy0, hy1, hy2⟩ := info_parts infoInt
  have HACT := Lib.hid (fun z w' (hb : Below w.heap.size w w') => acts_ref v ts z w' (hV.below hb) (by omega))
  have HFND := Lib.hid (fun z w' (hb : Below w.heap.size w w') => find_ref v ts z w' (hV.below hb) (by omega))
  obtain ⟨A, c, rfl, hc1, hc2, -, hT⟩ := hV
  have HT := Lib.hid hT
  have HP := Lib.hid hP
  obtain ⟨L, hL⟩ : ∃ L, P.leastR ts ps = L := ⟨_, rfl⟩
  have HLL := Lib.hid hL
  have HL := Lib.hid (show P.leastL ts 0 (ps.drop 0) = L from hL)
  clear hT hP hL
  obtain ⟨x0, q0⟩ : ∃ x : World, x = w.alloc (.cells #[.int .i64 0, .string ⟨#[]⟩] 30) := ⟨_, rfl⟩
  have HX0 : Hid (x0.heap[w.heap.size]? = some (.cells #[.int .i64 0, .string ⟨#[]⟩] 30 (0, 0))) := by
    show _ = _
    rw [q0]
    exact heap_alloc_new w _
  have HB0 : Hid (Below w.heap.size w x0) := by show Below _ _ _; rw [q0]; exact (Below.refl _ _).alloc (Nat.le_refl _) _
  have hsz0 : w.heap.size < x0.heap.size := by rw [q0]; simp
  have Q0 := Lib.hid q0
  clear q0
  go_enter Tryd.func15, Tryd.ntmps15
  go_wp2
  rw [← Q0.out]
  clear Q0
  go_loop [7, 8] (fun l i => ∃ (k : Nat) (m : Int), k ≤ ps.length ∧ i = .int .i64 k ∧ l = .int .i64 m ∧ Hid (m = 0 ∨ P.actsB ts m = true) ∧ Hid (P.leastL ts m (ps.drop k) = L)) (fun _ i => ps.length - (intOf i).toNat)
  case atStart => exact ⟨0, 0, by omega, rfl, rfl, Lib.hid (.inl rfl), HL.out⟩
  case round =>
    obtain ⟨k, m, hk, rfl, rfl, HMA, HN⟩ := hrel
    by_cases hlt : k < ps.length
    · obtain ⟨b, off, rfl, hb, hc0⟩ := (HP.out.below HB0.out).get hlt
      have HDR := Lib.hid (drop_getI hlt)
      generalize ps.getD k 0 = q at *
      have HAQ := Lib.hid (HACT.out q x0 HB0.out)
      have HMS := Lib.hid (P.leastS_acts (p := q) HMA.out)
      have HST := Lib.hid (show P.leastL ts (P.leastS ts m q) (ps.drop (k + 1)) = L by rw [← HN.out, HDR.out]; rfl)
      have HSU := Lib.hid (show P.leastS ts m q = if P.actsB ts q && (m == 0 || decide (q < m)) then q else m from rfl)
      obtain ⟨ac, hac⟩ : ∃ ac, P.actsB ts q = ac := ⟨_, rfl⟩
      obtain ⟨ls, hls⟩ : ∃ ls, P.leastS ts m q = ls := ⟨_, rfl⟩
      rw [hls, hac] at HSU
      rw [hls] at HMS HST
      rw [hac] at HAQ
      clear hac hls
      cases ac
      · have HF := Lib.hid (show ls = m by rw [HSU.out]; rfl)
        go_wp2_with fail; refine (HAQ.out).mono ?_; rintro e w1 ⟨rfl, rfl⟩
        go_wp2
        go_round
        case rel => exact ⟨k + 1, m, by omega, by go_num, rfl, HMA, by show _ = _; rw [← HF.out]; exact HST.out⟩
        case measure => simp [intOf]; omega
      · by_cases hm0 : m = 0
        · have e0 : (m == 0) = true := by simp [hm0]
          have HF := Lib.hid (show ls = q by rw [HSU.out]; simp [hm0])
          clear hm0
          go_wp2_with fail; refine (HAQ.out).mono ?_; rintro e w1 ⟨rfl, rfl⟩
          go_wp2
          go_round
          case rel => exact ⟨k + 1, q, by omega, by go_num, rfl, by rw [← HF.out]; exact HMS, by show _ = _; rw [← HF.out]; exact HST.out⟩
          case measure => simp [intOf]; omega
        · have e0 : (m == 0) = false := by simp [hm0]
          by_cases hqm : q < m
          · have HF := Lib.hid (show ls = q by rw [HSU.out]; simp [hqm])
            clear hm0
            go_wp2_with fail; refine (HAQ.out).mono ?_; rintro e w1 ⟨rfl, rfl⟩
            go_wp2
            go_round
            case rel => exact ⟨k + 1, q, by omega, by go_num, rfl, by rw [← HF.out]; exact HMS, by show _ = _; rw [← HF.out]; exact HST.out⟩
            case measure => simp [intOf]; omega
          · have HF := Lib.hid (show ls = m by rw [HSU.out]; simp [hqm, hm0])
            clear hm0
            go_wp2_with fail; refine (HAQ.out).mono ?_; rintro e w1 ⟨rfl, rfl⟩
            go_wp2
            go_round
            case rel => exact ⟨k + 1, m, by omega, by go_num, rfl, HMA, by show _ = _; rw [← HF.out]; exact HST.out⟩
            case measure => simp [intOf]; omega
    · have hmL : m = L := by have := HN.out; rw [List.drop_eq_nil_of_le (by omega)] at this; exact this
      subst hmL
      obtain ⟨f0, f1, z0, z1⟩ := box_cells HX0.out
      have hltw : w.heap.size < x0.heap.size := by omega
      clear HN HL
      by_cases hm0 : m = 0
      · subst hm0
        go_wp2
        refine bodyPost_ret (v := .tuple #[.agg #[.int .i64 0, .string ⟨#[]⟩], .slice none 0 0, .bool false]) (by simp [results, Tryd.results15, go_sem, f0, f1]) rfl ⟨(HB0.out.setCell (by simp) _).setCell (by simp) _, .inl ⟨HLL.out, rfl⟩⟩
      · have e0 : (m == 0) = false := by simp [hm0]
        have HMM := Lib.hid hm0
        clear hm0 f0 f1 z0 z1
        go_wp2
        obtain ⟨R, hR⟩ : ∃ R, P.restR ts ps m = R := ⟨_, rfl⟩
        have HRR := Lib.hid hR
        have HR := Lib.hid (show ps.filter (P.keepR ts m) = R from hR)
        clear hR
        go_loopw [9, 10] (fun o i wr => ∃ (k : Nat) (r : List Int), k ≤ ps.length ∧ i = .int .i64 k ∧ r.length ≤ k ∧ wr.ownsRow x0.heap.size 3 1 o r.length (r.map (.int .i64)) ∧ Below x0.heap.size x0 wr ∧ Hid (r ++ (ps.drop k).filter (P.keepR ts m) = R)) (fun _ i _ => ps.length - (intOf i).toNat)
        case atStart => exact ⟨0, [], by omega, rfl, by simp, World.ownsRow_nil _ _ _ _, Below.refl _ _, by show _ = _; simpa using HR.out⟩
        case round =>
          obtain ⟨k, r, hk, rfl, hrc, hown, hbw, HN⟩ := hrel
          have hszl := hbw.size
          by_cases hlt : k < ps.length
          · obtain ⟨b, off, rfl, hb, hc0⟩ := (HP.out.below (btr HB0.out hbw)).get hlt
            have HDR := Lib.hid (drop_getI hlt)
            generalize ps.getD k 0 = q at *
            have HAQ := Lib.hid (HACT.out q wr (btr HB0.out hbw))
            have HKU := Lib.hid (show P.keepR ts m q = (P.actsB ts q && q != m) from rfl)
            obtain ⟨ac, hac⟩ : ∃ ac, P.actsB ts q = ac := ⟨_, rfl⟩
            rw [hac] at HKU HAQ
            have HB := Lib.hid hbw
            have HO := Lib.hid hown
            clear hac hbw
            cases ac
            · have HF := Lib.hid (show r ++ (ps.drop (k + 1)).filter (P.keepR ts m) = R by rw [← HN.out, HDR.out, List.filter_cons_of_neg (by rw [HKU.out]; simp)])
              clear hown
              go_wp2_with fail; refine (HAQ.out).mono ?_; rintro e w1 ⟨rfl, rfl⟩
              go_wp2
              go_roundw
              case rel => first | exact ⟨k + 1, r, by omega, by go_num, by omega, HO.out, HB.out, HF.out⟩ | ((repeat apply Exists.intro); exact ⟨⟨k + 1, r, by omega, by go_num, by omega, HO.out, HB.out, HF.out⟩, rfl⟩)
              case measure => simp [intOf]; omega
            · by_cases hq : q = m
              · have e1 : (q != m) = false := by simp [hq]
                have HF := Lib.hid (show r ++ (ps.drop (k + 1)).filter (P.keepR ts m) = R by rw [← HN.out, HDR.out, List.filter_cons_of_neg (by rw [HKU.out]; simp [hq])])
                clear hq hown
                go_wp2_with fail; refine (HAQ.out).mono ?_; rintro e w1 ⟨rfl, rfl⟩
                go_wp2
                go_roundw
                case rel => first | exact ⟨k + 1, r, by omega, by go_num, by omega, HO.out, HB.out, HF.out⟩ | ((repeat apply Exists.intro); exact ⟨⟨k + 1, r, by omega, by go_num, by omega, HO.out, HB.out, HF.out⟩, rfl⟩)
                case measure => simp [intOf]; omega
              · have e1 : (q != m) = true := by simp [hq]
                have HF := Lib.hid (show (r ++ [q]) ++ (ps.drop (k + 1)).filter (P.keepR ts m) = R by rw [← HN.out, HDR.out, List.filter_cons_of_pos (by rw [HKU.out]; simp [hq])]; simp)
                have HSN := Lib.hid (int_snoc r q)
                clear hq
                go_wp2_with fail; refine (HAQ.out).mono ?_; rintro e w1 ⟨rfl, rfl⟩
                go_wp2_with (at_builtin; refine wpList_append_own _ rfl _ _ 27 rfl x0.heap.size 3 i0 (.int .i64 0) 1 8 Tryd.underlying27 hi hy0 hy1 hy2 rfl (by decide) _ _ _ rfl (hown.alloc _) ⟨wr.heap.size, 0, none⟩ 1 1 [.int .i64 q] rfl rfl (one_cells wr _ _) (int_one _) (by unfold maxLen; omega) (by omega) (by simp; omega) ?_)
                intro v2 w2 hown2 hgrow2 _
                have hb2 : Below x0.heap.size x0 w2 := (HB.out.alloc HB.out.size _).grown hgrow2 (by simp; omega) (fun k hk => (HO.out.lt k hk).1)
                rw [HSN.out] at hown2
                have HO2 := Lib.hid hown2
                have HB2 := Lib.hid hb2
                clear hown hgrow2 hown2 hb2
                go_wp2
                go_roundw
                case rel => exact ⟨k + 1, r ++ [q], by omega, by go_num, by simp; omega, by simpa using HO2.out, HB2.out, HF.out⟩
                case measure => simp [intOf]; omega
          · have hr : r = R := by have := HN.out; rw [List.drop_eq_nil_of_le (by omega)] at this; simpa using this
            subst hr
            obtain ⟨f0, f1, z0, z1⟩ := box_cells ((hbw.block w.heap.size (by omega)).trans HX0.out)
            have HBf := Lib.hid (btr HB0.out hbw)
            have HO := Lib.hid hown
            have HTw := Lib.hid (HT.out.below HBf.out)
            have HFM := Lib.hid (HFND.out m wr HBf.out)
            have hac : P.actsB ts m = true := HMA.out.resolve_left HMM.out
            obtain ⟨_, s0, hs0, -⟩ := P.acts_look hac
            rcases P.look_find ts m with ⟨_, hb⟩ | ⟨kf, ha, hkf, hcf, hbf⟩
            · rw [hs0] at hb; cases hb
            · rw [ha] at HFM
              obtain ⟨b, off, rfl, hbl, hc0, hc1'⟩ := HTw.out.get hkf
              obtain ⟨⟨z, s⟩, ht⟩ : ∃ t, ts.getD kf (0, []) = t := ⟨_, rfl⟩
              rw [ht] at hc0 hc1' hcf hbf
              simp only at hc0 hc1' hcf hbf
              subst hcf
              have HLK := Lib.hid hbf
              have HKF := Lib.hid hkf
              have k0 : (0 : Int) ≤ (kf : Int) := by omega
              have k1 : (kf : Int) < (ts.length : Int) := by omega
              clear ha hs0 ht hac hbw hown HN hbf
              go_wp2_with fail; refine (HFM.out).mono ?_; rintro e w1 ⟨rfl, rfl⟩
              go_wp2
              refine bodyPost_ret (v := .tuple #[.agg #[.int .i64 z, .string ⟨s.toArray⟩], u9, .bool true]) (by simp [results, Tryd.results15, go_sem, f0, f1]) rfl ⟨(HBf.out.setCell (by simp) _).setCell (by simp) _, .inr ⟨u9, s, by rw [HLL.out]; exact HMM.out, by rw [HLL.out]; exact HLK.out, ?_, ?_⟩⟩
              · rw [HLL.out]
              · rw [HLL.out, HRR.out]
                exact own_base (own_set (own_set HO.out hltw _) hltw _) (by omega)
end W
end Go.Proofs.YtfigidknocpdaaaDoor
