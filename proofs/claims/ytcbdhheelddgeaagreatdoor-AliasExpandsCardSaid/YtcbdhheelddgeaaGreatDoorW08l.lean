/- Words: braced. -/
import Derived.Test.YtcbdhheelddgeaaGreatDoorWD
import Derived.Deep.DeepCutAuto
namespace Go.Proofs.YtcbdhheelddgeaaGreatDoor
open Go.RowKit K
namespace W
/-- A block of five cells. -/
theorem blk5 {v : World} {b : Nat} {a0 a1 a2 a3 a4 : Value} {t : TypeId} (h : v.heap[b]? = some (.cells #[a0, a1, a2, a3, a4] t (0, 0))) :
    v.cell? ⟨b, 0, none⟩ = some a0 ∧ v.cell? ⟨b, 1, none⟩ = some a1 ∧ v.cell? ⟨b, 2, none⟩ = some a2 ∧ v.cell? ⟨b, 3, none⟩ = some a3 ∧ v.cell? ⟨b, 4, none⟩ = some a4 ∧ v.frozen? ⟨b, 0, none⟩ = false ∧ v.frozen? ⟨b, 1, none⟩ = false ∧ v.frozen? ⟨b, 2, none⟩ = false ∧ v.frozen? ⟨b, 3, none⟩ = false ∧ v.frozen? ⟨b, 4, none⟩ = false :=
  ⟨Lib.cell_of_heap h 0, Lib.cell_of_heap h 1, Lib.cell_of_heap h 2, Lib.cell_of_heap h 3, Lib.cell_of_heap h 4, Lib.frozen_of_heap h 0, Lib.frozen_of_heap h 1, Lib.frozen_of_heap h 2, Lib.frozen_of_heap h 3, Lib.frozen_of_heap h 4⟩
theorem blk5_of {v : World} {b : Nat} {a0 a1 a2 a3 a4 : Value} {t : TypeId} (h : v.heap[b]? = some (.cells #[a0, a1, a2, a3, a4] t (0, 0))) (k : Nat) (u : Value) : (v.setCell ⟨b, k, none⟩ u).heap[b]? = some (.cells (#[a0, a1, a2, a3, a4].setIfInBounds k u) t (0, 0)) := heap_setCell_same v b k _ _ u h
theorem operator_le (t : List UInt8) (colon : Bool) : (WP.operator t colon).2 ≤ t.length ∧ (WP.operator t colon).1 ≤ 9 := by
  unfold WP.operator
  have h22 : ∀ {a b : UInt8}, Lib.hasPrefix t [a, b] = true → 2 ≤ t.length := by
    intro a b hx
    obtain ⟨r, hr⟩ := LX.has2 hx
    rw [hr]
    simp
  by_cases h0 : t = []
  · rw [if_pos h0]; exact ⟨Nat.zero_le _, Nat.zero_le _⟩
  · have := List.length_pos_iff.2 h0
    rw [if_neg h0]
    repeat' split
    all_goals first | exact ⟨by dsimp only; omega, by dsimp only; omega⟩ | exact ⟨h22 (by assumption), by dsimp only; omega⟩
theorem rep_set {B : Nat} {W' : World} {ps : List WP.Part} {A : Option Addr} {q i : Nat} {u : Value} (hq : q < B)
    (hr : ps = [] ∨ ∃ b cells, A = some ⟨b, 0, none⟩ ∧ B ≤ b ∧ LRep W' (fun b => B ≤ b) ps cells ∧ ∀ j u, cells[j]? = some u → W'.cell? ⟨b, j, none⟩ = some u) :
    ps = [] ∨ ∃ b cells, A = some ⟨b, 0, none⟩ ∧ B ≤ b ∧ LRep (W'.setCell ⟨q, i, none⟩ u) (fun b => B ≤ b) ps cells ∧ ∀ j v, cells[j]? = some v → (W'.setCell ⟨q, i, none⟩ u).cell? ⟨b, j, none⟩ = some v := by
  rcases hr with h | ⟨b, cells, h1, h2, h3, h4⟩
  · exact .inl h
  · exact .inr ⟨b, cells, h1, h2, LRep.mono (fun x hx _ => ⟨hx, Below.heap_setCell W' _ _ x (by dsimp only; omega)⟩) ps cells h3, fun j v hj => (set_far W' (by omega)).trans (h4 j v hj)⟩
theorem rep_base {B B' : Nat} {W' : World} {ps : List WP.Part} {A : Option Addr} (hq : B' ≤ B)
    (hr : ps = [] ∨ ∃ b cells, A = some ⟨b, 0, none⟩ ∧ B ≤ b ∧ LRep W' (fun b => B ≤ b) ps cells ∧ ∀ j u, cells[j]? = some u → W'.cell? ⟨b, j, none⟩ = some u) :
    ps = [] ∨ ∃ b cells, A = some ⟨b, 0, none⟩ ∧ B' ≤ b ∧ LRep W' (fun b => B' ≤ b) ps cells ∧ ∀ j u, cells[j]? = some u → W'.cell? ⟨b, j, none⟩ = some u := by
  rcases hr with h | ⟨b, cells, h1, h2, h3, h4⟩
  · exact .inl h
  · exact .inr ⟨b, cells, h1, by omega, LRep.mono (fun x hx _ => ⟨by omega, rfl⟩) ps cells h3, h4⟩
section
variable {W : World} {g : Nat} {c : WP.Ctx} {st : WP.St}
set_option maxRecDepth 100000 in
set_option maxHeartbeats 8000000 in
theorem braced_any {N : WP.Nest} (hN : NestC c.s (st.a + 1) N) (hgn : WP.GoodN c.s N) (h : ScP W g c st) (ha : st.a + 2 ≤ c.s.length) (hl : c.s.length ≤ 20000) (hlv : c.lv ≤ 32) :
    Calls Tryz.prog 167 #[.pointer (some ⟨g, 0, none⟩)] W (BrOut W (WP.braced N c st)) := by
  obtain ⟨V0, hV0⟩ : ∃ V0, V0 = W.alloc (.cells #[.int .i64 0, .string ⟨#[]⟩, .int .i64 0, .bool false, .slice none 0 0] 126) := ⟨_, rfl⟩
  have HV0 := Lib.hid hV0
  have HBV := Lib.hid (show Below W.heap.size W V0 by rw [hV0]; exact balloc _ _)
  have HR0 := Lib.hid (show V0.heap[W.heap.size]? = some (.cells #[.int .i64 0, .string ⟨#[]⟩, .int .i64 0, .bool false, .slice none 0 0] 126 (0, 0)) by rw [hV0]; exact al_new W _)
  have HWV := Lib.hid (show V0.heap.size = W.heap.size + 1 by rw [hV0]; simp)
  have HS := Lib.hid (h.below HBV.out)
  have HS0 := Lib.hid h
  have HLT := Lib.hid h.lt
  have hF := Lib.hid (fun (x y : Int) (V : World) => fail_any x y V)
  have HPM1 := Lib.hid (fun (hq : st.a + 3 ≤ c.s.length) => parameter_any HS.out (st.a + 3) hq (by omega))
  have HPM2 := Lib.hid (parameter_any HS.out (st.a + 2) ha (by omega))
  have HN := Lib.hid hN
  have HGN := Lib.hid hgn
  obtain ⟨R, hR⟩ : ∃ R, WP.braced N c st = R := ⟨_, rfl⟩
  have HR := Lib.hid hR
  rw [hR]
  obtain ⟨tx, ls, hb⟩ := h.box
  have HB := Lib.hid (hb.kept (HBV.out.block g h.lt))
  have HBW := Lib.hid hb
  have hgw := h.lt
  have HNM := Lib.hid (fun (i k : Nat) (m : Int) (h1 : i < c.s.length) (h2 : i ≤ k) (h3 : k ≤ c.s.length) => name_any HS.out i k m h1 h2 h3 (by omega))
  clear hV0 hN hgn hR hb h
  obtain ⟨s, pl, op, lv, opn⟩ := c
  obtain ⟨a, dep, tb, lp⟩ := st
  dsimp only at HS HS0 HPM1 HPM2 HN HGN HR HB HBW HNM ha hl hlv ⊢
  obtain ⟨c0, c1, c2, c3, c4, c5, c6, c7, c8⟩ := HBW.out.cells
  have hgv2 : ¬ g = W.heap.size := by omega
  have w2 : IntKind.i64.wrap ((a : Int) + 2) = (a : Int) + 2 := IntWalk.i64_in _ (by omega)
  have hgv : ¬ W.heap.size = g := by omega
  obtain ⟨b1, hb1⟩ : ∃ b1, decide (a + 2 < s.length ∧ bt s (a + 2) = 35) = b1 := ⟨_, rfl⟩
  have HB1 := Lib.hid hb1
  clear hb1
  go_enter Tryz.func167, Tryz.ntmps167
  go_upto_region 2 with (fail)
  rw [← HV0.out]
  clear c0 c1 c2 c3 c4 c5 c6 c7 c8
  obtain ⟨c0, c1, c2, c3, c4, c5, c6, c7, c8⟩ := HB.out.cells
  go_cut [32] (fun v wx => v = .bool b1 ∧ wx = V0)
  case first =>
    by_cases q1 : a + 2 < s.length
    case neg =>
      have q1' : ((a : Int) + 2 < (s.length : Int)) = False := eq_false (by omega)
      go_wp2_with fail
      go_meet
      exact ⟨by rw [← HB1.out, decide_eq_false (fun e => q1 e.1)], rfl⟩
    case pos =>
      have q1' : ((a : Int) + 2 < (s.length : Int)) = True := eq_true (by omega)
      have a2 : ((a : Int) + 2).toNat = a + 2 := by omega
      have a3 : (0 : Int) ≤ (a : Int) + 2 := by omega
      by_cases q2 : bt s (a + 2) = 35
      case neg =>
        have q2' := beq_f q2
        go_wp2_with fail
        go_meet
        exact ⟨by rw [← HB1.out, decide_eq_false (fun e => q2 e.2)], rfl⟩
      case pos =>
        go_wp2_with fail
        go_meet
        exact ⟨by rw [← HB1.out, decide_eq_true ⟨q1, q2⟩], rfl⟩
  case rest =>
    obtain ⟨rfl, hwc⟩ := hcut
    obtain rfl : V0 = wc := hwc.symm
    have w3 : IntKind.i64.wrap ((a : Int) + 2 + 1) = (a : Int) + 3 := by rw [IntWalk.i64_in _ (by omega)]; omega
    go_upto_if 32 with (fail)
    go_cut [] (fun wx => wx = V0 ∧ Hid (WP.braced1 ⟨s, pl, op, lv, opn⟩ ⟨a, dep, tb, lp⟩ = .ok none))
    case first =>
      have HBR1 := Lib.hid (show WP.braced1 ⟨s, pl, op, lv, opn⟩ ⟨a, dep, tb, lp⟩ = if a + 2 < s.length ∧ bt s (a + 2) = 35 ∧ a + 3 < WP.parameter s (a + 3) then
          if WP.tooLong s (a + 3) (WP.parameter s (a + 3)) = true then .error ((a + 3 : Nat), 3)
          else if WP.parameter s (a + 3) = s.length then .error (a, 7)
          else if bt s (WP.parameter s (a + 3)) = 125 then .ok (some (.mk 4 (cut s (a + 3) (WP.parameter s (a + 3))) 5 false [], WP.parameter s (a + 3) + 1))
          else if (WP.operator (s.drop (a + 3)) false).2 = 0 then .error (WP.parameter s (a + 3), 6)
          else .ok none
        else .ok none from rfl)
      have HRX := Lib.hid (show ∀ x, WP.braced1 ⟨s, pl, op, lv, opn⟩ ⟨a, dep, tb, lp⟩ = .error x → R = .error x from fun x hx => by rw [← HR.out]; unfold WP.braced; rw [hx])
      have HRS := Lib.hid (show ∀ r, WP.braced1 ⟨s, pl, op, lv, opn⟩ ⟨a, dep, tb, lp⟩ = .ok (some r) → R = .ok r from fun x hx => by rw [← HR.out]; unfold WP.braced; rw [hx])
      rcases (show b1 = true ∨ b1 = false by cases b1 <;> simp) with rfl | rfl
      case inr =>
        have hq := of_decide_eq_false HB1.out
        have HQ := Lib.hid hq
        clear hq
        go_wp2_with fail
        go_meet
        exact ⟨rfl, by show _ = _; rw [HBR1.out, if_neg (fun e => HQ.out ⟨e.1, e.2.1⟩)]⟩
      case inl =>
        obtain ⟨q1, q2⟩ := of_decide_eq_true HB1.out
        have HQ2 := Lib.hid q2
        have q3 : a + 3 ≤ s.length := by omega
        have HPM := Lib.hid (show Calls Tryz.prog 169 #[.pointer (some ⟨g, 0, none⟩), .int .i64 ((a : Int) + 3)] V0 fun en w' => en = .returned (.int .i64 (WP.parameter s (a + 3))) ∧ V0 = w' from HPM1.out q3)
        have hp1 := WP.parameter_ge s (a + 3)
        have hp2 := WP.parameter_le (s := s) (i := a + 3) q3
        obtain ⟨e, he⟩ : ∃ e, WP.parameter s (a + 3) = e := ⟨_, rfl⟩
        rw [he] at HPM hp1 hp2 HBR1
        clear he q2 HPM1
        have v3 : (a : Int) + 2 + 1 = (a : Int) + 3 := by omega
        by_cases hae : a + 3 < e
        case neg =>
          have t1 : ((a : Int) + 3 < (e : Int)) = False := eq_false (by omega)
          have t2 : ((a : Int) + 2 + 1 < (e : Int)) = False := eq_false (by omega)
          go_wp2_with fail
          (try rw [v3])
          refine HPM.out.mono ?_
          rintro en v1 ⟨rfl, rfl⟩
          go_wp2_with fail
          go_meet
          exact ⟨rfl, by show _ = _; rw [HBR1.out, if_neg (fun e => hae e.2.2)]⟩
        case pos =>
          have t1 : ((a : Int) + 3 < (e : Int)) = True := eq_true (by omega)
          have t2 : ((a : Int) + 2 + 1 < (e : Int)) = True := eq_true (by omega)
          have HNM2 := Lib.hid (show Calls Tryz.prog 170 #[.pointer (some ⟨g, 0, none⟩), .int .i64 ((a : Int) + 3), .int .i64 e, .int .i64 ((a : Int) + 3)] V0 (NameOut V0 (WP.tooLong s (a + 3) e) ((a : Int) + 3)) from HNM.out (a + 3) e ((a : Int) + 3) (by omega) hp1 hp2)
          have HBR2 := HBR1.out
          rw [if_pos ⟨q1, HQ2.out, hae⟩] at HBR2
          replace HBR2 := Lib.hid HBR2
          clear HBR1
          cases htl : WP.tooLong s (a + 3) e with
          | true =>
            rw [htl] at HBR2 HNM2
            have HRE := Lib.hid (HRX.out _ (HBR2.out.trans (if_pos rfl)))
            clear htl
            go_wp2_with fail
            (try rw [v3])
            refine HPM.out.mono ?_
            rintro en v1 ⟨rfl, rfl⟩
            go_wp2_with fail
            (try rw [v3])
            refine HNM2.out.mono ?_
            rintro en v1 ⟨rfl, rfl⟩
            exact ⟨rfl, by rw [HRE.out]; exact ⟨by rw [show ((a + 3 : Nat) : Int) = (a : Int) + 3 by omega], HBV.out⟩⟩
          | false =>
            rw [htl] at HBR2 HNM2
            have HBR3 := HBR2.out
            rw [if_neg (by simp)] at HBR3
            replace HBR3 := Lib.hid HBR3
            clear htl HBR2
            by_cases hel : e = s.length
            · have HRE := Lib.hid (HRX.out _ (HBR3.out.trans (if_pos hel)))
              have e1 : ((e : Int) == (s.length : Int)) = true := by rw [beq_iff_eq]; omega
              clear hel
              go_wp2_with fail
              (try rw [v3])
              refine HPM.out.mono ?_
              rintro en v1 ⟨rfl, rfl⟩
              go_wp2_with fail
              (try rw [v3])
              refine HNM2.out.mono ?_
              rintro en v1 ⟨rfl, rfl⟩
              go_wp2_with fail
              refine (hF.out _ _ _).mono ?_
              rintro en Y ⟨rfl, rfl⟩
              exact ⟨rfl, by rw [HRE.out]; exact ⟨rfl, HBV.out⟩⟩
            · have HBR4 := HBR3.out.trans (if_neg hel)
              have e1 : ((e : Int) == (s.length : Int)) = false := by rw [beq_eq_false_iff_ne]; omega
              have e2 : ((e : Int) < (s.length : Int)) = True := eq_true (by omega)
              have e3 : ((e : Int) ≤ (s.length : Int)) = True := eq_true (by omega)
              have e4 : ((a : Int) + 3 ≤ (e : Int)) = True := eq_true (by omega)
              have e5 : ((a : Int) + 2 + 1 ≤ (e : Int)) = True := eq_true (by omega)
              have e6 : ((a : Int) + 2 + 1).toNat = a + 3 := by omega
              have e7 : ((a : Int) + 3).toNat = a + 3 := by omega
              have e8 : ((a : Int) + 3 ≤ (s.length : Int)) = True := eq_true (by omega)
              replace HBR4 := Lib.hid HBR4
              clear hel HBR3
              by_cases h125 : bt s e = 125
              · have HRE := Lib.hid (HRS.out _ (HBR4.out.trans (if_pos h125)))
                obtain ⟨r0, r1, r2, r3, r4, f0, f1, f2, f3, f4⟩ := blk5 HR0.out
                go_wp2_with fail
                (try rw [v3])
                refine HPM.out.mono ?_
                rintro en v1 ⟨rfl, rfl⟩
                go_wp2_with fail
                (try rw [v3])
                refine HNM2.out.mono ?_
                rintro en v1 ⟨rfl, rfl⟩
                go_wp2
                refine bodyPost_ret (v := .tuple #[.agg #[.int .i64 4, .string ⟨(cut s (a + 3) e).toArray⟩, .int .i64 5, .bool false, .slice none 0 0], .int .i64 ((e : Int) + 1)]) (by simp [results, Tryz.results167, go_sem, r0, r1, r2, r3, r4]) rfl ?_
                rw [HRE.out]
                exact ⟨4, cut s (a + 3) e, 5, false, [], none, 0, rfl, rfl, ((((HBV.out.setCell (Nat.le_refl _) _).setCell (Nat.le_refl _) _).setCell (Nat.le_refl _) _).setCell (Nat.le_refl _) _).setCell (Nat.le_refl _) _, .inl rfl⟩
              · have b125 := beq_f h125
                have HBR5 := HBR4.out.trans (if_neg h125)
                replace HBR5 := Lib.hid HBR5
                have HOP := Lib.hid (fun V => operator_any (s.drop (a + 3)) false V)
                obtain ⟨o, z, hoz⟩ : ∃ o z, WP.operator (s.drop (a + 3)) false = (o, z) := ⟨_, _, rfl⟩
                rw [hoz] at HBR5 HOP
                clear hoz h125 HBR4
                by_cases hz : z = 0
                · subst hz
                  have HRE := Lib.hid (HRX.out _ (HBR5.out.trans (if_pos rfl)))
                  go_wp2_with fail
                  (try rw [v3])
                  refine HPM.out.mono ?_
                  rintro en v1 ⟨rfl, rfl⟩
                  go_wp2_with fail
                  (try rw [v3])
                  refine HNM2.out.mono ?_
                  rintro en v1 ⟨rfl, rfl⟩
                  go_wp2_with fail
                  rw [cut_end]
                  refine (HOP.out _).mono ?_
                  rintro en v1 ⟨rfl, rfl⟩
                  go_wp2_with fail
                  refine (hF.out _ _ _).mono ?_
                  rintro en Y ⟨rfl, rfl⟩
                  exact ⟨rfl, by rw [HRE.out]; exact ⟨rfl, HBV.out⟩⟩
                · have HRE := Lib.hid (HBR5.out.trans (if_neg hz))
                  have z1 : ((z : Int) == 0) = false := by rw [beq_eq_false_iff_ne]; omega
                  clear hz
                  go_wp2_with fail
                  (try rw [v3])
                  refine HPM.out.mono ?_
                  rintro en v1 ⟨rfl, rfl⟩
                  go_wp2_with fail
                  (try rw [v3])
                  refine HNM2.out.mono ?_
                  rintro en v1 ⟨rfl, rfl⟩
                  go_wp2_with fail
                  rw [cut_end]
                  refine (HOP.out _).mono ?_
                  rintro en v1 ⟨rfl, rfl⟩
                  go_wp2_with fail
                  go_meet
                  exact ⟨rfl, HRE.out⟩
    case rest =>
      obtain ⟨hwc, HN1⟩ := hcut
      obtain rfl : V0 = wc := hwc.symm
      have HPM := Lib.hid (show Calls Tryz.prog 169 #[.pointer (some ⟨g, 0, none⟩), .int .i64 ((a : Int) + 2)] V0 fun en w' => en = .returned (.int .i64 (WP.parameter s (a + 2))) ∧ V0 = w' from HPM2.out)
      have hp1 := WP.parameter_ge s (a + 2)
      have hp2 := WP.parameter_le (s := s) (i := a + 2) ha
      obtain ⟨e, he⟩ : ∃ e, WP.parameter s (a + 2) = e := ⟨_, rfl⟩
      have HR2 := Lib.hid (show WP.braced2 N ⟨s, pl, op, lv, opn⟩ ⟨a, dep, tb, lp⟩ e = R by rw [← HR.out]; unfold WP.braced; rw [HN1.out, he])
      rw [he] at HPM hp1 hp2
      clear he HPM1 HPM2 w3
      have HE0 := Lib.hid (show WP.braced2 N ⟨s, pl, op, lv, opn⟩ ⟨a, dep, tb, lp⟩ e = if e = a + 2 then .error (WP.reject ⟨s, pl, op, lv, opn⟩ ⟨a, dep, tb, lp⟩ e)
        else if WP.tooLong s (a + 2) e = true then .error ((a + 2 : Nat), 3)
        else if Lib.hasPrefix (s.drop e) [125] = true then .ok (.mk 4 (cut s (a + 2) e) 0 false [], e + 1)
        else if Lib.hasPrefix (s.drop e) [58] = true then WP.braced3 N ⟨s, pl, op, lv, opn⟩ ⟨a, dep, tb, lp⟩ e (e + 1) (WP.operator (s.drop (e + 1)) true).1 (WP.operator (s.drop (e + 1)) true).2 true
        else WP.braced3 N ⟨s, pl, op, lv, opn⟩ ⟨a, dep, tb, lp⟩ e e (WP.operator (s.drop e) false).1 (WP.operator (s.drop e) false).2 false from rfl)
      go_wp2_with fail
      refine HPM.out.mono ?_
      rintro en v1 ⟨rfl, rfl⟩
      by_cases hea : e = a + 2
      · have HRE := Lib.hid (HR2.out.symm.trans (HE0.out.trans (if_pos hea)))
        have e1 : ((e : Int) == (a : Int) + 2) = true := by rw [beq_iff_eq]; omega
        have HRJ := Lib.hid (reject_any HS.out e)
        clear hea
        go_wp2_with fail
        refine HRJ.out.mono ?_
        rintro en Y ⟨rfl, rfl⟩
        exact ⟨rfl, by rw [HRE.out]; exact ⟨rfl, HBV.out⟩⟩
      have HE1 := Lib.hid (HR2.out.symm.trans (HE0.out.trans (if_neg hea)))
      have e1 : ((e : Int) == (a : Int) + 2) = false := by rw [beq_eq_false_iff_ne]; omega
      have e2 : ((e : Int) ≤ (s.length : Int)) = True := eq_true (by omega)
      have e3 : ((a : Int) + 2 ≤ (e : Int)) = True := eq_true (by omega)
      have e4 : ((a : Int) + 2).toNat = a + 2 := by omega
      have hae : a + 2 < e := by omega
      have HNM2 := Lib.hid (show Calls Tryz.prog 170 #[.pointer (some ⟨g, 0, none⟩), .int .i64 ((a : Int) + 2), .int .i64 e, .int .i64 ((a : Int) + 2)] V0 (NameOut V0 (WP.tooLong s (a + 2) e) ((a : Int) + 2)) from HNM.out (a + 2) e ((a : Int) + 2) (by omega) hp1 hp2)
      clear hea HE0 HR2 HR HPM
      cases htl : WP.tooLong s (a + 2) e with
      | true =>
        rw [htl] at HE1 HNM2
        have HRE := Lib.hid (HE1.out.trans (if_pos rfl))
        clear htl
        go_wp2_with fail
        refine HNM2.out.mono ?_
        rintro en v1 ⟨rfl, rfl⟩
        exact ⟨rfl, by rw [HRE.out]; exact ⟨by rw [show ((a + 2 : Nat) : Int) = (a : Int) + 2 by omega], HBV.out⟩⟩
      | false =>
        rw [htl] at HE1 HNM2
        have HE2 := Lib.hid (HE1.out.trans (if_neg (by simp)))
        clear htl HE1
        have HP1 := Lib.hid (fun V => lx_HasPrefix (s.drop e) [125] V)
        have HP5 := Lib.hid (fun V => lx_HasPrefix (s.drop e) [58] V)
        obtain ⟨X, hX⟩ : ∃ X, X = V0.alloc (.cells #[.int .i64 4, .string ⟨(cut s (a + 2) e).toArray⟩, .int .i64 0, .bool false, .slice none 0 0] 126) := ⟨_, rfl⟩
        have HX := Lib.hid hX
        have HVX := Lib.hid (show Below V0.heap.size V0 X by rw [hX]; exact balloc _ _)
        have HBX := Lib.hid (btr HBV.out HVX.out)
        have HPX := Lib.hid (show X.heap[V0.heap.size]? = some (.cells #[.int .i64 4, .string ⟨(cut s (a + 2) e).toArray⟩, .int .i64 0, .bool false, .slice none 0 0] 126 (0, 0)) by rw [hX]; exact al_new V0 _)
        have HRX0 := Lib.hid ((HVX.out.block W.heap.size (by rw [HWV.out]; omega)).trans HR0.out)
        clear hX
        have hgv4 : g < V0.heap.size := by have := HWV.out; omega
        have HP0 := Lib.hid (show ∃ p0, p0 = V0.heap.size from ⟨_, rfl⟩)
        obtain ⟨p0, hp0⟩ := HP0.out
        have hp0r : W.heap.size < p0 := by rw [hp0, HWV.out]; omega
        have HPP := Lib.hid hp0
        rw [← hp0] at HPX
        clear hp0 HP0
        go_wp2_with fail
        refine HNM2.out.mono ?_
        rintro en v1 ⟨rfl, rfl⟩
        clear c0 c1 c2 c3 c4 c5 c6 c7 c8
        obtain ⟨c0, c1, c2, c3, c4, c5, c6, c7, c8⟩ := HB.out.cells
        go_wp2_with fail
        rw [← HX.out, ← HPP.out, cut_end]
        clear hgv4
        refine (HP1.out _).mono ?_
        rintro en v1 ⟨rfl, rfl⟩
        clear c0 c1 c2 c3 c4 c5 c6 c7 c8
        obtain ⟨c0, c1, c2, c3, c4, c5, c6, c7, c8⟩ := (HB.out.kept (HVX.out.block g HB.out.lt)).cells
        obtain ⟨p0c, p1c, p2c, p3c, p4c, pf0, pf1, pf2, pf3, pf4⟩ := blk5 HPX.out
        obtain ⟨r0, r1, r2, r3, r4, f0, f1, f2, f3, f4⟩ := blk5 HRX0.out
        have hg1 : ¬ p0 = g := by omega
        have hg2 : ¬ W.heap.size = p0 := by omega
        cases h125 : Lib.hasPrefix (s.drop e) [125] with
        | true =>
          have HRE := Lib.hid (HE2.out.trans (if_pos h125))
          go_wp2
          refine bodyPost_ret (v := .tuple #[.agg #[.int .i64 4, .string ⟨(cut s (a + 2) e).toArray⟩, .int .i64 0, .bool false, .slice none 0 0], .int .i64 ((e : Int) + 1)]) (by simp [results, Tryz.results167, go_sem, r0, r1, r2, r3, r4]) rfl ?_
          rw [HRE.out]
          exact ⟨4, cut s (a + 2) e, 0, false, [], none, 0, rfl, rfl, ((((HBX.out.setCell (Nat.le_refl _) _).setCell (Nat.le_refl _) _).setCell (Nat.le_refl _) _).setCell (Nat.le_refl _) _).setCell (Nat.le_refl _) _, .inl rfl⟩
        | false =>
          have HE3 := Lib.hid (HE2.out.trans (if_neg (by rw [h125]; simp)))
          clear h125 HE2
          go_wp2_with fail
          rw [cut_end]
          refine (HP5.out _).mono ?_
          rintro en v1 ⟨rfl, rfl⟩
          cases h58 : Lib.hasPrefix (s.drop e) [58] with
          | true =>
            have HE4 := HE3.out.trans (if_pos h58)
            have he58 : e + 1 ≤ s.length := by obtain ⟨q, hq⟩ := LX.has1 h58; have := (LX.drop_head hq).1; omega
            clear h58 HE3
            obtain ⟨Z, hZ⟩ : ∃ Z, Z = X.setCell ⟨p0, 3, none⟩ (.bool true) := ⟨_, rfl⟩
            have HPZ := Lib.hid (show Z.heap[p0]? = some (.cells #[.int .i64 4, .string ⟨(cut s (a + 2) e).toArray⟩, .int .i64 0, .bool true, .slice none 0 0] 126 (0, 0)) by rw [hZ]; exact blk5_of HPX.out 3 _)
            have HRZ := Lib.hid (show Z.heap[W.heap.size]? = some (.cells #[.int .i64 0, .string ⟨#[]⟩, .int .i64 0, .bool false, .slice none 0 0] 126 (0, 0)) by rw [hZ]; exact (Below.heap_setCell X _ _ W.heap.size (by dsimp only; omega)).trans HRX0.out)
            have HBZ := Lib.hid (show Below W.heap.size W Z by rw [hZ]; exact HBX.out.setCell (by dsimp only; omega) _)
            have HZ := Lib.hid hZ
            clear hZ
            have HOL := operator_le (s.drop (e + 1)) true
            have HOP := Lib.hid (fun V => show Calls Tryz.prog 176 #[.string ⟨(cut s (e + 1) s.length).toArray⟩, .bool true] V fun en w' => en = .returned (.tuple #[.int .i64 (WP.operator (s.drop (e + 1)) true).1, .int .i64 (WP.operator (s.drop (e + 1)) true).2]) ∧ V = w' from by rw [cut_end]; exact operator_any (s.drop (e + 1)) true V)
            obtain ⟨o, z, hoz⟩ : ∃ o z, WP.operator (s.drop (e + 1)) true = (o, z) := ⟨_, _, rfl⟩
            rw [hoz] at HOP HE4 HOL
            obtain ⟨hzl, ho9⟩ := HOL
            rw [List.length_drop] at hzl
            dsimp only at hzl ho9
            have hk1 : ((((e : Int) + 1) : Int) ≤ (s.length : Int)) = True := eq_true (by omega)
            have hk2 : (((e : Int) + 1) : Int).toNat = (e + 1) := by omega
            have hk3 : (0 : Int) ≤ ((e : Int) + 1) := by omega
            clear hoz
            go_wp2_with fail
            rw [← HZ.out]
            clear c0 c1 c2 c3 c4 c5 c6 c7 c8 p0c p1c p2c p3c p4c pf0 pf1 pf2 pf3 pf4 r0 r1 r2 r3 r4 f0 f1 f2 f3 f4
            obtain ⟨c0, c1, c2, c3, c4, c5, c6, c7, c8⟩ := (HBW.out.kept (HBZ.out.block g HLT.out)).cells
            obtain ⟨p0c, p1c, p2c, p3c, p4c, pf0, pf1, pf2, pf3, pf4⟩ := blk5 HPZ.out
            obtain ⟨Z2, hZ2⟩ : ∃ Z2, Z2 = (Z.setCell ⟨p0, 2, none⟩ (.int .i64 o)).drew := ⟨_, rfl⟩
            have HPZ2 := Lib.hid (show Z2.heap[p0]? = some (.cells #[.int .i64 4, .string ⟨(cut s (a + 2) e).toArray⟩, .int .i64 o, .bool true, .slice none 0 0] 126 (0, 0)) by rw [hZ2]; exact blk5_of (v := Z) HPZ.out 2 _)
            have HRZ2 := Lib.hid (show Z2.heap[W.heap.size]? = some (.cells #[.int .i64 0, .string ⟨#[]⟩, .int .i64 0, .bool false, .slice none 0 0] 126 (0, 0)) by rw [hZ2]; exact (Below.heap_setCell Z _ _ W.heap.size (by dsimp only; omega)).trans HRZ.out)
            have HBZ2 := Lib.hid (show Below W.heap.size W Z2 by rw [hZ2]; exact (HBZ.out.setCell (by dsimp only; omega) _).drew)
            have HZ2 := Lib.hid hZ2
            clear hZ2
            apply merge8
            case h =>
              intro hrest
              go_region_with ((go_at_call 176; refine (HOP.out _).mono ?_; rintro en v1 ⟨rfl, rfl⟩))
              all_goals rw [← HZ2.out]
              all_goals exact hrest.out
            case g =>
              clear c0 c1 c2 c3 c4 c5 c6 c7 c8 p0c p1c p2c p3c p4c pf0 pf1 pf2 pf3 pf4 HNM HNM2 HP1 HX HVX HR0 HS HB HPX HRX0 HPZ HRZ HZ HZ2 HOP
              obtain ⟨c0, c1, c2, c3, c4, c5, c6, c7, c8⟩ := (HBW.out.kept (HBZ2.out.block g HLT.out)).cells
              obtain ⟨p0c, p1c, p2c, p3c, p4c, pf0, pf1, pf2, pf3, pf4⟩ := blk5 HPZ2.out
              obtain ⟨r0, r1, r2, r3, r4, f0, f1, f2, f3, f4⟩ := blk5 HRZ2.out
              replace HE4 := Lib.hid (show R = if z = 0 then .error (WP.reject ⟨s, pl, op, lv, opn⟩ ⟨a, dep, tb, lp⟩ (e + 1))
                else if lv = 32 then .error (e, 5)
                else if Lib.hasPrefix (s.drop (e + 1 + z)) [92, 10] = true then .error ((e + 1 + z : Nat), 6)
                else match N ⟨s, pl, true, lv + 1, a⟩ (e + 1 + z) with
                  | .error x => .error x
                  | .ok (ps, j) => .ok (.mk 4 (cut s (a + 2) e) o true ps, j + 1) from HE4)
              by_cases hz : z = 0
              · subst hz
                have HRE := Lib.hid (HE4.out.trans (if_pos rfl))
                have HRJ := Lib.hid (reject_any (HS0.out.below HBZ2.out) (e + 1))
                clear HE4
                go_wp2_with fail
                refine HRJ.out.mono ?_
                rintro en Y ⟨rfl, rfl⟩
                exact ⟨rfl, by rw [HRE.out]; exact ⟨rfl, HBZ2.out⟩⟩
              have HE5 := Lib.hid (HE4.out.trans (if_neg hz))
              have z1 : ((z : Int) == 0) = false := by rw [beq_eq_false_iff_ne]; omega
              clear hz HE4
              by_cases hl32 : lv = 32
              · subst hl32
                have HRE := Lib.hid (HE5.out.trans (if_pos rfl))
                clear HE5
                go_wp2_with fail
                refine (hF.out _ _ _).mono ?_
                rintro en Y ⟨rfl, rfl⟩
                exact ⟨rfl, by rw [HRE.out]; exact ⟨rfl, HBZ2.out⟩⟩
              have HE6 := Lib.hid (HE5.out.trans (if_neg hl32))
              have l32 : ((lv : Int) == 32) = false := by rw [beq_eq_false_iff_ne]; omega
              have HNC := Lib.hid (fun (V : World) (hV : Below Z2.heap.size Z2 V) => show Calls Tryz.prog 165 #[.pointer (some ⟨g, 0, none⟩), .int .i64 (((e : Int) + 1) + (z : Int)), .int .i64 a, .int .i64 pl, .bool true] V (NestOut V (N ⟨s, pl, true, lv + 1, a⟩ (e + 1 + z))) from by
                have := HN.out V g ⟨s, pl, op, lv, opn⟩ ⟨a, dep, tb, lp⟩ (e + 1 + z) a pl true rfl (by show lv ≤ 31; omega) (by omega) (by omega) (by omega) (HS0.out.below (btr HBZ2.out hV))
                rwa [show ((e + 1 + z : Nat) : Int) = ((e : Int) + 1) + (z : Int) by omega] at this)
              have HP6 := Lib.hid (fun V => lx_HasPrefix (s.drop (e + 1 + z)) [92, 10] V)
              have w5 : IntKind.i64.wrap (((e : Int) + 1) + (z : Int)) = ((e : Int) + 1) + (z : Int) := IntWalk.i64_in _ (by omega)
              have w6 : (0 : Int) ≤ ((e : Int) + 1) + (z : Int) := by omega
              have w7 : (((e : Int) + 1) + (z : Int) ≤ (s.length : Int)) = True := eq_true (by omega)
              have w8 : (((e : Int) + 1) + (z : Int)).toNat = e + 1 + z := by omega
              clear hl32 HE5
              cases h6 : Lib.hasPrefix (s.drop (e + 1 + z)) [92, 10] with
              | true =>
                rw [h6] at HP6
                have HRE := Lib.hid (HE6.out.trans (if_pos h6))
                clear h6 HE6
                go_wp2_with fail
                rw [cut_end]
                refine (HP6.out _).mono ?_
                rintro en v1 ⟨rfl, rfl⟩
                go_wp2_with fail
                refine (hF.out _ _ _).mono ?_
                rintro en Y ⟨rfl, rfl⟩
                exact ⟨rfl, by rw [HRE.out]; exact ⟨by rw [show ((e + 1 + z : Nat) : Int) = ((e : Int) + 1) + (z : Int) by omega], HBZ2.out⟩⟩
              | false =>
                have HE7 := Lib.hid (HE6.out.trans (if_neg (by rw [h6]; simp)))
                rw [h6] at HP6
                clear h6 HE6
                cases hn : N ⟨s, pl, true, lv + 1, a⟩ (e + 1 + z) with
                | error x =>
                  have HRE := HE7.out
                  rw [hn] at HNC HRE
                  replace HRE := Lib.hid (show R = .error x from HRE)
                  clear hn HE7
                  go_wp2_with fail
                  rw [cut_end]
                  refine (HP6.out _).mono ?_
                  rintro en v1 ⟨rfl, rfl⟩
                  go_wp2_with fail
                  go_region_dies
                  all_goals
                    first
                    | (refine (HNC.out _ (Below.refl Z2.heap.size Z2).drew).mono ?_
                       rintro en Y ⟨rfl, hb1⟩
                       exact ⟨rfl, by rw [HRE.out]; exact ⟨rfl, (btr (btr HBZ2.out (Below.refl Z2.heap.size Z2).drew) hb1)⟩⟩)
                    | (refine (HNC.out _ (Below.refl Z2.heap.size Z2)).mono ?_
                       rintro en Y ⟨rfl, hb1⟩
                       exact ⟨rfl, by rw [HRE.out]; exact ⟨rfl, (btr HBZ2.out hb1)⟩⟩)
                | ok r =>
                  obtain ⟨ps, j⟩ := r
                  obtain ⟨hj1, hj2, -⟩ := HGN.out ⟨s, pl, true, lv + 1, a⟩ (e + 1 + z) ps j rfl (show (0 : Int) ≤ (a : Int) by omega) (by omega) hn
                  have HRE := HE7.out
                  rw [hn] at HNC HRE
                  replace HRE := Lib.hid (show R = .ok (.mk 4 (cut s (a + 2) e) o true ps, j + 1) from HRE)
                  have HNK := Lib.hid (fun (V : World) (hV : Below Z2.heap.size Z2 V) => show Calls Tryz.prog 165 #[.pointer (some ⟨g, 0, none⟩), .int .i64 (((e : Int) + 1) + (z : Int)), .int .i64 a, .int .i64 pl, .bool true] V (fun en Y => ∃ A cap, en = .returned (.tuple #[.slice A ps.length cap, .int .i64 j]) ∧ Y.heap[p0]? = some (.cells #[.int .i64 4, .string ⟨(cut s (a + 2) e).toArray⟩, .int .i64 o, .bool true, .slice none 0 0] 126 (0, 0)) ∧
                      Y.heap[W.heap.size]? = some (.cells #[.int .i64 0, .string ⟨#[]⟩, .int .i64 0, .bool false, .slice none 0 0] 126 (0, 0)) ∧ Below W.heap.size W Y ∧
                      (ps = [] ∨ ∃ b cells, A = some ⟨b, 0, none⟩ ∧ p0 + 1 ≤ b ∧ LRep Y (fun b => p0 + 1 ≤ b) ps cells ∧ ∀ j u, cells[j]? = some u → Y.cell? ⟨b, j, none⟩ = some u)) from by
                    refine (HNC.out V hV).mono ?_
                    intro en Y hy
                    obtain ⟨A, cap, h1, h2, h3⟩ := hy
                    have hp : p0 < Z2.heap.size := (Array.getElem?_eq_some_iff.1 HPZ2.out).1
                    have hq : W.heap.size < Z2.heap.size := by omega
                    have hb2 := btr hV h2
                    refine ⟨A, cap, h1, (hb2.block p0 hp).trans HPZ2.out, (hb2.block _ hq).trans HRZ2.out, btr HBZ2.out hb2, rep_base ?_ h3⟩
                    have := hV.size
                    omega)
                  clear hn HE7 HNC hj1
                  have wj : IntKind.i64.wrap ((j : Int) + 1) = (j : Int) + 1 := IntWalk.i64_in _ (by omega)
                  have hps : (0 : Int) ≤ (ps.length : Int) := by omega
                  go_wp2_with fail
                  rw [cut_end]
                  refine (HP6.out _).mono ?_
                  rintro en v1 ⟨rfl, rfl⟩
                  go_wp2_with fail
                  go_region_with ((go_at_call 165; refine (HNK.out _ (by first | exact (Below.refl _ _).drew | exact Below.refl _ _)).mono ?_; rintro en Y ⟨A, cap, rfl, hpy, hry, hby, hrep⟩; have HBY := Lib.hid hby; have HREP := Lib.hid hrep; obtain ⟨y0, y1, y2, y3, y4, yf0, yf1, yf2, yf3, yf4⟩ := blk5 hpy; obtain ⟨t0, t1, t2, t3, t4, tf0, tf1, tf2, tf3, tf4⟩ := blk5 hry; clear hpy hry hby hrep))
                  all_goals
                    clear c0 c1 c2 c3 c4 c5 c6 c7 c8 p0c p1c p2c p3c p4c pf0 pf1 pf2 pf3 pf4 r0 r1 r2 r3 r4 f0 f1 f2 f3 f4
                    go_wp2
                    refine bodyPost_ret (v := .tuple #[.agg #[.int .i64 4, .string ⟨(cut s (a + 2) e).toArray⟩, .int .i64 o, .bool true, .slice A ps.length cap], .int .i64 ((j : Int) + 1)]) (by simp [results, Tryz.results167, go_sem, t0, t1, t2, t3, t4]) rfl ?_
                    rw [HRE.out]
                    refine ⟨4, cut s (a + 2) e, o, true, ps, A, cap, rfl, rfl, ?_, ?_⟩
                    · exact (((((HBY.out.setCell (Nat.le_of_lt hp0r) _).setCell (Nat.le_refl _) _).setCell (Nat.le_refl _) _).setCell (Nat.le_refl _) _).setCell (Nat.le_refl _) _).setCell (Nat.le_refl _) _
                    · exact rep_base (by omega) (rep_set (by omega) (rep_set (by omega) (rep_set (by omega) (rep_set (by omega) (rep_set (by omega) (rep_set (Nat.lt_succ_self _) HREP.out))))))
          | false =>
            have HE4 := HE3.out.trans (if_neg (by rw [h58]; simp))
            clear h58 HE3
            obtain ⟨Z, hZ⟩ : ∃ Z, Z = X := ⟨_, rfl⟩
            have HPZ := Lib.hid (show Z.heap[p0]? = some (.cells #[.int .i64 4, .string ⟨(cut s (a + 2) e).toArray⟩, .int .i64 0, .bool false, .slice none 0 0] 126 (0, 0)) by rw [hZ]; exact HPX.out)
            have HRZ := Lib.hid (show Z.heap[W.heap.size]? = some (.cells #[.int .i64 0, .string ⟨#[]⟩, .int .i64 0, .bool false, .slice none 0 0] 126 (0, 0)) by rw [hZ]; exact HRX0.out)
            have HBZ := Lib.hid (show Below W.heap.size W Z by rw [hZ]; exact HBX.out)
            have HZ := Lib.hid hZ
            clear hZ
            have HOL := operator_le (s.drop e) false
            have HOP := Lib.hid (fun V => show Calls Tryz.prog 176 #[.string ⟨(cut s e s.length).toArray⟩, .bool false] V fun en w' => en = .returned (.tuple #[.int .i64 (WP.operator (s.drop e) false).1, .int .i64 (WP.operator (s.drop e) false).2]) ∧ V = w' from by rw [cut_end]; exact operator_any (s.drop e) false V)
            obtain ⟨o, z, hoz⟩ : ∃ o z, WP.operator (s.drop e) false = (o, z) := ⟨_, _, rfl⟩
            rw [hoz] at HOP HE4 HOL
            obtain ⟨hzl, ho9⟩ := HOL
            rw [List.length_drop] at hzl
            dsimp only at hzl ho9
            have hk1 : (((e : Int) : Int) ≤ (s.length : Int)) = True := eq_true (by omega)
            have hk2 : ((e : Int) : Int).toNat = e := by omega
            have hk3 : (0 : Int) ≤ (e : Int) := by omega
            clear hoz
            go_wp2_with fail
            rw [← HZ.out]
            clear c0 c1 c2 c3 c4 c5 c6 c7 c8 p0c p1c p2c p3c p4c pf0 pf1 pf2 pf3 pf4 r0 r1 r2 r3 r4 f0 f1 f2 f3 f4
            obtain ⟨c0, c1, c2, c3, c4, c5, c6, c7, c8⟩ := (HBW.out.kept (HBZ.out.block g HLT.out)).cells
            obtain ⟨p0c, p1c, p2c, p3c, p4c, pf0, pf1, pf2, pf3, pf4⟩ := blk5 HPZ.out
            obtain ⟨Z2, hZ2⟩ : ∃ Z2, Z2 = (Z.setCell ⟨p0, 2, none⟩ (.int .i64 o)).drew := ⟨_, rfl⟩
            have HPZ2 := Lib.hid (show Z2.heap[p0]? = some (.cells #[.int .i64 4, .string ⟨(cut s (a + 2) e).toArray⟩, .int .i64 o, .bool false, .slice none 0 0] 126 (0, 0)) by rw [hZ2]; exact blk5_of (v := Z) HPZ.out 2 _)
            have HRZ2 := Lib.hid (show Z2.heap[W.heap.size]? = some (.cells #[.int .i64 0, .string ⟨#[]⟩, .int .i64 0, .bool false, .slice none 0 0] 126 (0, 0)) by rw [hZ2]; exact (Below.heap_setCell Z _ _ W.heap.size (by dsimp only; omega)).trans HRZ.out)
            have HBZ2 := Lib.hid (show Below W.heap.size W Z2 by rw [hZ2]; exact (HBZ.out.setCell (by dsimp only; omega) _).drew)
            have HZ2 := Lib.hid hZ2
            clear hZ2
            apply merge8
            case h =>
              intro hrest
              go_region_with ((go_at_call 176; refine (HOP.out _).mono ?_; rintro en v1 ⟨rfl, rfl⟩))
              all_goals rw [← HZ2.out]
              all_goals exact hrest.out
            case g =>
              clear c0 c1 c2 c3 c4 c5 c6 c7 c8 p0c p1c p2c p3c p4c pf0 pf1 pf2 pf3 pf4 HNM HNM2 HP1 HX HVX HR0 HS HB HPX HRX0 HPZ HRZ HZ HZ2 HOP
              obtain ⟨c0, c1, c2, c3, c4, c5, c6, c7, c8⟩ := (HBW.out.kept (HBZ2.out.block g HLT.out)).cells
              obtain ⟨p0c, p1c, p2c, p3c, p4c, pf0, pf1, pf2, pf3, pf4⟩ := blk5 HPZ2.out
              obtain ⟨r0, r1, r2, r3, r4, f0, f1, f2, f3, f4⟩ := blk5 HRZ2.out
              replace HE4 := Lib.hid (show R = if z = 0 then .error (WP.reject ⟨s, pl, op, lv, opn⟩ ⟨a, dep, tb, lp⟩ (e))
                else if lv = 32 then .error (e, 5)
                else if Lib.hasPrefix (s.drop (e + z)) [92, 10] = true then .error ((e + z : Nat), 6)
                else match N ⟨s, pl, true, lv + 1, a⟩ (e + z) with
                  | .error x => .error x
                  | .ok (ps, j) => .ok (.mk 4 (cut s (a + 2) e) o false ps, j + 1) from HE4)
              by_cases hz : z = 0
              · subst hz
                have HRE := Lib.hid (HE4.out.trans (if_pos rfl))
                have HRJ := Lib.hid (reject_any (HS0.out.below HBZ2.out) (e))
                clear HE4
                go_wp2_with fail
                refine HRJ.out.mono ?_
                rintro en Y ⟨rfl, rfl⟩
                exact ⟨rfl, by rw [HRE.out]; exact ⟨rfl, HBZ2.out⟩⟩
              have HE5 := Lib.hid (HE4.out.trans (if_neg hz))
              have z1 : ((z : Int) == 0) = false := by rw [beq_eq_false_iff_ne]; omega
              clear hz HE4
              by_cases hl32 : lv = 32
              · subst hl32
                have HRE := Lib.hid (HE5.out.trans (if_pos rfl))
                clear HE5
                go_wp2_with fail
                refine (hF.out _ _ _).mono ?_
                rintro en Y ⟨rfl, rfl⟩
                exact ⟨rfl, by rw [HRE.out]; exact ⟨rfl, HBZ2.out⟩⟩
              have HE6 := Lib.hid (HE5.out.trans (if_neg hl32))
              have l32 : ((lv : Int) == 32) = false := by rw [beq_eq_false_iff_ne]; omega
              have HNC := Lib.hid (fun (V : World) (hV : Below Z2.heap.size Z2 V) => show Calls Tryz.prog 165 #[.pointer (some ⟨g, 0, none⟩), .int .i64 ((e : Int) + (z : Int)), .int .i64 a, .int .i64 pl, .bool true] V (NestOut V (N ⟨s, pl, true, lv + 1, a⟩ (e + z))) from by
                have := HN.out V g ⟨s, pl, op, lv, opn⟩ ⟨a, dep, tb, lp⟩ (e + z) a pl true rfl (by show lv ≤ 31; omega) (by omega) (by omega) (by omega) (HS0.out.below (btr HBZ2.out hV))
                rwa [show ((e + z : Nat) : Int) = (e : Int) + (z : Int) by omega] at this)
              have HP6 := Lib.hid (fun V => lx_HasPrefix (s.drop (e + z)) [92, 10] V)
              have w5 : IntKind.i64.wrap ((e : Int) + (z : Int)) = (e : Int) + (z : Int) := IntWalk.i64_in _ (by omega)
              have w6 : (0 : Int) ≤ (e : Int) + (z : Int) := by omega
              have w7 : ((e : Int) + (z : Int) ≤ (s.length : Int)) = True := eq_true (by omega)
              have w8 : ((e : Int) + (z : Int)).toNat = e + z := by omega
              clear hl32 HE5
              cases h6 : Lib.hasPrefix (s.drop (e + z)) [92, 10] with
              | true =>
                rw [h6] at HP6
                have HRE := Lib.hid (HE6.out.trans (if_pos h6))
                clear h6 HE6
                go_wp2_with fail
                rw [cut_end]
                refine (HP6.out _).mono ?_
                rintro en v1 ⟨rfl, rfl⟩
                go_wp2_with fail
                refine (hF.out _ _ _).mono ?_
                rintro en Y ⟨rfl, rfl⟩
                exact ⟨rfl, by rw [HRE.out]; exact ⟨by rw [show ((e + z : Nat) : Int) = (e : Int) + (z : Int) by omega], HBZ2.out⟩⟩
              | false =>
                have HE7 := Lib.hid (HE6.out.trans (if_neg (by rw [h6]; simp)))
                rw [h6] at HP6
                clear h6 HE6
                cases hn : N ⟨s, pl, true, lv + 1, a⟩ (e + z) with
                | error x =>
                  have HRE := HE7.out
                  rw [hn] at HNC HRE
                  replace HRE := Lib.hid (show R = .error x from HRE)
                  clear hn HE7
                  go_wp2_with fail
                  rw [cut_end]
                  refine (HP6.out _).mono ?_
                  rintro en v1 ⟨rfl, rfl⟩
                  go_wp2_with fail
                  go_region_dies
                  all_goals
                    first
                    | (refine (HNC.out _ (Below.refl Z2.heap.size Z2).drew).mono ?_
                       rintro en Y ⟨rfl, hb1⟩
                       exact ⟨rfl, by rw [HRE.out]; exact ⟨rfl, (btr (btr HBZ2.out (Below.refl Z2.heap.size Z2).drew) hb1)⟩⟩)
                    | (refine (HNC.out _ (Below.refl Z2.heap.size Z2)).mono ?_
                       rintro en Y ⟨rfl, hb1⟩
                       exact ⟨rfl, by rw [HRE.out]; exact ⟨rfl, (btr HBZ2.out hb1)⟩⟩)
                | ok r =>
                  obtain ⟨ps, j⟩ := r
                  obtain ⟨hj1, hj2, -⟩ := HGN.out ⟨s, pl, true, lv + 1, a⟩ (e + z) ps j rfl (show (0 : Int) ≤ (a : Int) by omega) (by omega) hn
                  have HRE := HE7.out
                  rw [hn] at HNC HRE
                  replace HRE := Lib.hid (show R = .ok (.mk 4 (cut s (a + 2) e) o false ps, j + 1) from HRE)
                  have HNK := Lib.hid (fun (V : World) (hV : Below Z2.heap.size Z2 V) => show Calls Tryz.prog 165 #[.pointer (some ⟨g, 0, none⟩), .int .i64 ((e : Int) + (z : Int)), .int .i64 a, .int .i64 pl, .bool true] V (fun en Y => ∃ A cap, en = .returned (.tuple #[.slice A ps.length cap, .int .i64 j]) ∧ Y.heap[p0]? = some (.cells #[.int .i64 4, .string ⟨(cut s (a + 2) e).toArray⟩, .int .i64 o, .bool false, .slice none 0 0] 126 (0, 0)) ∧
                      Y.heap[W.heap.size]? = some (.cells #[.int .i64 0, .string ⟨#[]⟩, .int .i64 0, .bool false, .slice none 0 0] 126 (0, 0)) ∧ Below W.heap.size W Y ∧
                      (ps = [] ∨ ∃ b cells, A = some ⟨b, 0, none⟩ ∧ p0 + 1 ≤ b ∧ LRep Y (fun b => p0 + 1 ≤ b) ps cells ∧ ∀ j u, cells[j]? = some u → Y.cell? ⟨b, j, none⟩ = some u)) from by
                    refine (HNC.out V hV).mono ?_
                    intro en Y hy
                    obtain ⟨A, cap, h1, h2, h3⟩ := hy
                    have hp : p0 < Z2.heap.size := (Array.getElem?_eq_some_iff.1 HPZ2.out).1
                    have hq : W.heap.size < Z2.heap.size := by omega
                    have hb2 := btr hV h2
                    refine ⟨A, cap, h1, (hb2.block p0 hp).trans HPZ2.out, (hb2.block _ hq).trans HRZ2.out, btr HBZ2.out hb2, rep_base ?_ h3⟩
                    have := hV.size
                    omega)
                  clear hn HE7 HNC hj1
                  have wj : IntKind.i64.wrap ((j : Int) + 1) = (j : Int) + 1 := IntWalk.i64_in _ (by omega)
                  have hps : (0 : Int) ≤ (ps.length : Int) := by omega
                  go_wp2_with fail
                  rw [cut_end]
                  refine (HP6.out _).mono ?_
                  rintro en v1 ⟨rfl, rfl⟩
                  go_wp2_with fail
                  go_region_with ((go_at_call 165; refine (HNK.out _ (by first | exact (Below.refl _ _).drew | exact Below.refl _ _)).mono ?_; rintro en Y ⟨A, cap, rfl, hpy, hry, hby, hrep⟩; have HBY := Lib.hid hby; have HREP := Lib.hid hrep; obtain ⟨y0, y1, y2, y3, y4, yf0, yf1, yf2, yf3, yf4⟩ := blk5 hpy; obtain ⟨t0, t1, t2, t3, t4, tf0, tf1, tf2, tf3, tf4⟩ := blk5 hry; clear hpy hry hby hrep))
                  all_goals
                    clear c0 c1 c2 c3 c4 c5 c6 c7 c8 p0c p1c p2c p3c p4c pf0 pf1 pf2 pf3 pf4 r0 r1 r2 r3 r4 f0 f1 f2 f3 f4
                    go_wp2
                    refine bodyPost_ret (v := .tuple #[.agg #[.int .i64 4, .string ⟨(cut s (a + 2) e).toArray⟩, .int .i64 o, .bool false, .slice A ps.length cap], .int .i64 ((j : Int) + 1)]) (by simp [results, Tryz.results167, go_sem, t0, t1, t2, t3, t4]) rfl ?_
                    rw [HRE.out]
                    refine ⟨4, cut s (a + 2) e, o, false, ps, A, cap, rfl, rfl, ?_, ?_⟩
                    · exact (((((HBY.out.setCell (Nat.le_of_lt hp0r) _).setCell (Nat.le_refl _) _).setCell (Nat.le_refl _) _).setCell (Nat.le_refl _) _).setCell (Nat.le_refl _) _).setCell (Nat.le_refl _) _
                    · exact rep_base (by omega) (rep_set (by omega) (rep_set (by omega) (rep_set (by omega) (rep_set (by omega) (rep_set (by omega) (rep_set (Nat.lt_succ_self _) HREP.out))))))
end
end W
end Go.Proofs.YtcbdhheelddgeaaGreatDoor
