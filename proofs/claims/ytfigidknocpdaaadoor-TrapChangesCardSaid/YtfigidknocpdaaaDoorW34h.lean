/- Chapter 34: Requests of trap. -/
import Derived.Test.YtfigidknocpdaaaDoorW34g
import Derived.Deep.AppendLies
namespace Go.Proofs.YtfigidknocpdaaaDoor
open Go.RowKit K
namespace P
/-- The requests between two dispositions, from the signal n on. -/
def reqAt (G1 G2 : Int → Option Int) : Nat → Nat → List (Int × Int)
  | 0, _ => []
  | f + 1, n => if nameL n = [] ∨ n = 9 ∨ n = 19 ∨ (G1 n).getD 0 = (G2 n).getD 0 then reqAt G1 G2 f (n + 1) else ((n : Int), (G2 n).getD 0) :: reqAt G1 G2 f (n + 1)
def requests (old l : List Tr) (talks : Bool) : List (Int × Int) := reqAt (disp old talks) (disp l talks) 20 1
end P
namespace K
/-- The cells of requests that set dispositions. -/
def rcell (r : Int × Int) : List Value := [.int .i64 14, .int .i64 0, .int .i64 0, .int .i64 0, .int .i64 0, .int .i64 r.1, .int .i64 r.2, .int .i64 0, .string ⟨#[]⟩, .string ⟨#[]⟩, .slice none 0 0, .slice none 0 0]
def rcells : List (Int × Int) → List Value
  | [] => []
  | r :: l => rcell r ++ rcells l
theorem rcells_snoc (l : List (Int × Int)) (r : Int × Int) : rcells l ++ rcell r = rcells (l ++ [r]) := by
  induction l with
  | nil => simp [rcells]
  | cons x l ih => simp [rcells, ← ih]
theorem rcell_one (r : Int × Int) : ∀ u ∈ rcell r, u.oneCell' = true := by
  intro u hu
  simp [rcell] at hu
  rcases hu with rfl | rfl | rfl | rfl | rfl | rfl | rfl <;> rfl
theorem own_base {w : World} {base base' : Nat} {e : TypeId} {size : Nat} {v : Value} {n : Nat} {xs : List Value} (h : w.ownsRow base e size v n xs) (hb : base' ≤ base) : w.ownsRow base' e size v n xs := by
  refine ⟨h.1, ?_⟩
  rcases h.2 with hn | ⟨g, cap, cur, h1, h2, rest⟩
  · exact .inl hn
  · exact .inr ⟨g, cap, cur, h1, Nat.le_trans hb h2, rest⟩
theorem valF_getD (G : Int → Option Int) (z : Int) : (valF G z).getD (.int .i64 0) = .int .i64 ((G z).getD 0) := by
  unfold valF
  cases G z <;> rfl
end K
namespace W
theorem infoReq : (Tryd.prog.info? 40).map (fun i => (i.zero, i.size, i.bytes)) = some (some (.agg #[.int .i64 0, .int .i64 0, .int .i64 0, .int .i64 0, .int .i64 0, .int .i64 0, .int .i64 0, .int .i64 0, .string ⟨#[]⟩, .string ⟨#[]⟩, .slice none 0 0, .slice none 0 0]), 12, 144) := by kernel_rfl
theorem zeroInt (w : World) : (zeroValue 3).run Tryd.prog w = .ok (.int .i64 0) w := by kernel_rfl
/-- Requests of the call's own come back. -/
def RPost (w : World) (rs : List (Int × Int)) (e : Ending) (w' : World) : Prop := ∃ v, e = .returned v ∧ w'.ownsRow w.heap.size 40 12 v rs.length (rcells rs) ∧ Below w.heap.size w w'

set_option maxHeartbeats 4000000 in
set_option maxRecDepth 100000 in
theorem Requests_any (v1 v2 : Value) (t1 t2 : List Tr) (talks : Bool) (w : World) (hV1 : TV w v1 t1) (hV2 : TV w v2 t2) (hn1 : t1.length ≤ 1000) (hn2 : t2.length ≤ 1000) (hz1 : ∀ t ∈ t1, 0 ≤ t.1 ∧ t.1 ≤ 20) (hz2 : ∀ t ∈ t2, 0 ≤ t.1 ∧ t.1 ≤ 20) (hw : Env w) :
    Calls Tryd.prog 17 #[v1, v2, .bool talks] w (RPost w (P.requests t1 t2 talks)) := by
  obtain ⟨i0, hi, hy0, hy1, hy2⟩ := info_parts infoReq
  have H1 := Lib.hid (dispositions_any v1 t1 talks w hV1 hn1 hz1)
  have H2 := Lib.hid (fun w' (hb : Below w.heap.size w w') => dispositions_any v2 t2 talks w' (hV2.below hb) hn2 hz2)
  obtain ⟨G1, hG1⟩ : ∃ G, P.disp t1 talks = G := ⟨_, rfl⟩
  obtain ⟨G2, hG2⟩ : ∃ G, P.disp t2 talks = G := ⟨_, rfl⟩
  obtain ⟨R, hR⟩ : ∃ R, P.requests t1 t2 talks = R := ⟨_, rfl⟩
  rw [hR]
  unfold P.requests at hR
  rw [hG1, hG2] at hR
  rw [hG1] at H1
  rw [hG2] at H2
  have HR := Lib.hid hR
  have HE := Lib.hid hw
  obtain ⟨A1, c1, rfl, -, -, -, -⟩ := hV1
  obtain ⟨A2, c2, rfl, -, -, -, -⟩ := hV2
  clear hR hw hz1 hz2 hG1 hG2
  go_enter Tryd.func17, Tryd.ntmps17
  go_wp2_with fail
  refine H1.out.mono ?_
  rintro e w1 ⟨b1, n1, rfl, -, -, hI1, hb1⟩
  have HI1 := Lib.hid hI1
  have HB1 := Lib.hid hb1
  clear hI1 hb1
  go_wp2_with fail
  refine (H2.out _ HB1.out).mono ?_
  rintro e wa ⟨b2, n2, rfl, -, -, hI2, hb2⟩
  have HI2 := Lib.hid hI2
  have HI1a := Lib.hid (HI1.out.below hb2)
  have HBa := Lib.hid (btr HB1.out hb2)
  clear hI2 hb2
  go_wp2
  go_loopw [9, 10] (fun o i wr => ∃ (k : Nat) (acc : List (Int × Int)), 1 ≤ k ∧ k ≤ 21 ∧ i = .int .i64 k ∧ acc.length ≤ k ∧ wr.ownsRow wa.heap.size 40 12 o acc.length (rcells acc) ∧ Below wa.heap.size wa wr ∧ Hid (acc ++ P.reqAt G1 G2 (21 - k) k = R)) (fun _ i _ => 21 - (intOf i).toNat)
  case atStart => exact ⟨1, [], by omega, by omega, rfl, by simp, World.ownsRow_nil _ _ _ _, Below.refl _ _, by show _ = _; simpa using HR.out⟩
  case round =>
    obtain ⟨k, acc, hk1, hk, rfl, hac, hown, hbw, HN⟩ := hrel
    by_cases hlt : k < 21
    · have g0 : ((k : Int) ≤ 20) = True := eq_true (by omega)
      have HST := Lib.hid (show P.reqAt G1 G2 (21 - k) k = if P.nameL k = [] ∨ k = 9 ∨ k = 19 ∨ (G1 k).getD 0 = (G2 k).getD 0 then P.reqAt G1 G2 (21 - (k + 1)) (k + 1) else ((k : Int), (G2 k).getD 0) :: P.reqAt G1 G2 (21 - (k + 1)) (k + 1) by rw [show 21 - k = (21 - (k + 1)) + 1 by omega, P.reqAt])
      have HNA := Lib.hid (Name_any (k : Int) wr (HE.out.below (btr HBa.out hbw)))
      have hwf : (Lit.int .i64 (k : Int)).wf = true := wf64 (by omega) (by omega)
      have hJ1 := HI1a.out.below hbw
      have hJ2 := HI2.out.below hbw
      have HB := Lib.hid hbw
      have HO := Lib.hid hown
      have hsz := hbw.size
      obtain ⟨nm, hnm⟩ : ∃ nm, P.nameL k = nm := ⟨_, rfl⟩
      rw [hnm] at HST HNA
      obtain ⟨a, ha⟩ : ∃ a, (G1 k).getD 0 = a := ⟨_, rfl⟩
      obtain ⟨d, hd⟩ : ∃ d, (G2 k).getD 0 = d := ⟨_, rfl⟩
      rw [ha, hd] at HST
      have HA := Lib.hid ha
      have HD := Lib.hid hd
      clear hnm ha hd hbw
      by_cases h1 : nm = []
      · subst h1
        have HF := Lib.hid (show acc ++ P.reqAt G1 G2 (21 - (k + 1)) (k + 1) = R by rw [← HN.out, HST.out, if_pos (.inl rfl)])
        clear hown hJ1 hJ2
        go_wp2_with fail
        refine HNA.out.mono ?_
        rintro e w' ⟨rfl, rfl⟩
        go_wp2
        go_roundw
        case rel => exact ⟨k + 1, acc, by omega, by omega, by go_num, by omega, HO.out, HB.out, HF.out⟩
        case measure => simp [intOf]; omega
      · have hne : nm.isEmpty = false := by cases nm; simp at h1; rfl
        by_cases h9 : k = 9
        · have HF := Lib.hid (show acc ++ P.reqAt G1 G2 (21 - (k + 1)) (k + 1) = R by rw [← HN.out, HST.out, if_pos (.inr (.inl h9))])
          have e9 : ((k : Int) == 9) = true := by simp; omega
          clear hown hJ1 hJ2 h1 h9
          go_wp2_with fail
          refine HNA.out.mono ?_
          rintro e w' ⟨rfl, rfl⟩
          go_wp2
          go_roundw
          case rel => exact ⟨k + 1, acc, by omega, by omega, by go_num, by omega, HO.out, HB.out, HF.out⟩
          case measure => simp [intOf]; omega
        · have e9 : ((k : Int) == 9) = false := by simp; omega
          by_cases h19 : k = 19
          · have HF := Lib.hid (show acc ++ P.reqAt G1 G2 (21 - (k + 1)) (k + 1) = R by rw [← HN.out, HST.out, if_pos (.inr (.inr (.inl h19)))])
            have e19 : ((k : Int) == 19) = true := by simp; omega
            clear hown hJ1 hJ2 h1 h9 h19
            go_wp2_with fail
            refine HNA.out.mono ?_
            rintro e w' ⟨rfl, rfl⟩
            go_wp2
            go_roundw
            case rel => exact ⟨k + 1, acc, by omega, by omega, by go_num, by omega, HO.out, HB.out, HF.out⟩
            case measure => simp [intOf]; omega
          · have e19 : ((k : Int) == 19) = false := by simp; omega
            by_cases had : a = d
            · have HF := Lib.hid (show acc ++ P.reqAt G1 G2 (21 - (k + 1)) (k + 1) = R by rw [← HN.out, HST.out, if_pos (.inr (.inr (.inr had)))])
              have ead : (a != d) = false := by simp [had]
              clear hown h1 h9 h19 had
              go_wp2_with fail
              refine HNA.out.mono ?_
              rintro e w' ⟨rfl, rfl⟩
              go_wp2_with (first
                | (at_lookup; refine wpList_imap_look _ rfl _ _ 58 false rfl 3 3 keyInt Tryd.underlying3 Tryd.underlying58 encI encI_inj b1 n1 _ rfl hJ1 (zeroInt _) (k : Int) hwf rfl ?_; simp only [Bool.false_eq_true, if_false, valF_getD, HA.out])
                | (at_lookup; refine wpList_imap_look _ rfl _ _ 58 false rfl 3 3 keyInt Tryd.underlying3 Tryd.underlying58 encI encI_inj b2 n2 _ rfl hJ2 (zeroInt _) (k : Int) hwf rfl ?_; simp only [Bool.false_eq_true, if_false, valF_getD, HD.out]))
              go_roundw
              case rel => exact ⟨k + 1, acc, by omega, by omega, by go_num, by omega, HO.out, HB.out, HF.out⟩
              case measure => simp [intOf]; omega
            · have HF := Lib.hid (show (acc ++ [((k : Int), d)]) ++ P.reqAt G1 G2 (21 - (k + 1)) (k + 1) = R by rw [← HN.out, HST.out, if_neg (by rintro (h | h | h | h); exact h1 h; exact h9 h; exact h19 h; exact had h)]; simp)
              have ead : (a != d) = true := by simp [had]
              have HSN := Lib.hid (rcells_snoc acc ((k : Int), d))
              clear h1 h9 h19 had
              go_wp2_with fail
              refine HNA.out.mono ?_
              rintro e w' ⟨rfl, rfl⟩
              go_wp2_with (first
                | (at_lookup; refine wpList_imap_look _ rfl _ _ 58 false rfl 3 3 keyInt Tryd.underlying3 Tryd.underlying58 encI encI_inj b1 n1 _ rfl hJ1 (zeroInt _) (k : Int) hwf rfl ?_; simp only [Bool.false_eq_true, if_false, valF_getD, HA.out])
                | (at_lookup; refine wpList_imap_look _ rfl _ _ 58 false rfl 3 3 keyInt Tryd.underlying3 Tryd.underlying58 encI encI_inj b2 n2 _ rfl hJ2 (zeroInt _) (k : Int) hwf rfl ?_; simp only [Bool.false_eq_true, if_false, valF_getD, HD.out])
                | (at_builtin; refine wpList_append_own _ rfl _ _ 35 rfl wa.heap.size 40 i0 _ 12 144 Tryd.underlying35 hi hy0 hy1 hy2 rfl (by decide) _ _ _ rfl (hown.alloc _) ⟨wr.heap.size, 0, none⟩ 1 1 (rcell ((k : Int), d)) rfl rfl (World.news_of_block (cs := (rcell ((k : Int), d)).toArray) (t := 40) (fr := (0, 0)) (heap_alloc_new wr _)) (rcell_one _) (by unfold maxLen; omega) (by omega) (by simp; omega) ?_))
              intro v2 w2 hown2 hgrow2 _
              have hb2 : Below wa.heap.size wa w2 := (HB.out.alloc HB.out.size _).grown hgrow2 (by simp; omega) (fun k hk => (HO.out.lt k hk).1)
              rw [HSN.out] at hown2
              have HO2 := Lib.hid hown2
              have HB2 := Lib.hid hb2
              clear hown hgrow2 hown2 hb2 hJ1 hJ2
              go_wp2
              go_roundw
              case rel => exact ⟨k + 1, acc ++ [((k : Int), d)], by omega, by omega, by go_num, by simp; omega, by simpa using HO2.out, HB2.out, HF.out⟩
              case measure => simp [intOf]; omega
    · have HF := Lib.hid (show acc = R by have := HN.out; rw [show 21 - k = 0 by omega] at this; simpa [P.reqAt] using this)
      have HB := Lib.hid hbw
      have HO := Lib.hid hown
      have g0 : ((k : Int) ≤ 20) = False := eq_false (by omega)
      clear hown hbw hlt
      go_wp2
      go_ret
      exact ⟨_, rfl, by rw [← HF.out]; exact own_base HO.out HBa.out.size, btr HBa.out HB.out⟩
end W
end Go.Proofs.YtfigidknocpdaaaDoor
