/- Words: nested, the scope's parse. -/
import Derived.Test.YtkceenmlhfkkhaaGreatDoorW08m
namespace Go.Proofs.YtkceenmlhfkkhaaGreatDoor
open Go.RowKit K
namespace W
/-- What the scope's parse gives from a start, at a fuel. -/
def ParC (s : List UInt8) (lo : Nat) (f : Nat) : Prop := ∀ (W : World) (g : Nat) (c : WP.Ctx) (k : Nat), c.s = s → lo ≤ k → k ≤ s.length → c.lv ≤ 32 → ScP W g c ⟨k, 0, [], []⟩ →
  Calls Tryz.prog 35 #[.pointer (some ⟨g, 0, none⟩)] W (Out W g c (WP.run f c ⟨k, 0, [], []⟩))
theorem own_rep {W W' : World} {g : Nat} {c : WP.Ctx} {st : WP.St} (hg : W.heap.size ≤ g) (h : ScP W' g c st) : ∃ tx A cap, SB W' g c.s st.a c.pl c.op c.lv c.opn st.dep tx (.slice A st.ls.length cap) ∧
    (st.ls = [] ∨ ∃ b cells, A = some ⟨b, 0, none⟩ ∧ W.heap.size ≤ b ∧ LRep W' (fun b => W.heap.size ≤ b) st.ls cells ∧ ∀ j u, cells[j]? = some u → W'.cell? ⟨b, j, none⟩ = some u) := by
  obtain ⟨lc, ⟨tx, ls, hb, ht, hl⟩, hr⟩ := h
  obtain ⟨A, cap, rfl⟩ := row_val hl
  refine ⟨tx, A, cap, hb, ?_⟩
  by_cases hn : st.ls = []
  · exact .inl hn
  rcases hl.2 with ⟨h1, h2⟩ | ⟨b, cap', cur, hv, hB, hgb, hc1, hc2, hc3, hc4⟩
  · exact absurd (List.length_eq_zero_iff.1 h2) hn
  · injection hv with hv _ _
    refine .inr ⟨b, lc, hv, by omega, LRep.mono (fun x hx _ => ⟨by omega, rfl⟩) _ _ hr, fun j u hj => ?_⟩
    have hjl := (List.getElem?_eq_some_iff.1 hj).1
    have hlen := hr.len
    have e1 : (cur.toList.take (st.ls.length * 5))[j]? = some u := by rw [hc4]; exact hj
    rw [List.getElem?_take_of_lt (by omega)] at e1
    simp only [World.cell?, hgb]
    simpa using e1
def nestOf (r : Except WP.Flt WP.St) : Except WP.Flt (List WP.Part × Nat) := match r with | .error x => .error x | .ok y => .ok (y.ls, y.a)
theorem nest_eq (f : Nat) (c : WP.Ctx) (k : Nat) : WP.nest f c k = nestOf (WP.run f c ⟨k, 0, [], []⟩) := rfl
set_option maxRecDepth 100000 in
set_option maxHeartbeats 4000000 in
theorem nested_any {s : List UInt8} {lo f : Nat} (hP : ParC s lo f) : NestC s lo (WP.nest f) := by
  intro W g c st k opn p o e1 hlv hlo hk hop h
  obtain ⟨X, hX⟩ : ∃ X, X = (W.alloc (.cells #[.string ⟨s.toArray⟩, .int .i64 k, .int .i64 p, .bool o, .int .i64 ((c.lv : Int) + 1), .int .i64 opn, .int .i64 0, .slice none 0 0, .slice none 0 0] 83)).drew := ⟨_, rfl⟩
  have HX := Lib.hid hX
  have HBX := Lib.hid (show Below W.heap.size W X by rw [hX]; exact (balloc _ _).drew)
  have HSX := Lib.hid (show W.heap.size < X.heap.size by rw [hX]; show W.heap.size < (W.alloc _).heap.size; simp)
  have HSC := Lib.hid (show ScP X W.heap.size ⟨s, p, o, c.lv + 1, opn⟩ ⟨k, 0, [], []⟩ from by
    refine ⟨[], ⟨.slice none 0 0, .slice none 0 0, ?_, ⟨rfl, .inl ⟨rfl, rfl⟩⟩, ⟨rfl, .inl ⟨rfl, rfl⟩⟩⟩, by rw [LRep]⟩
    rw [hX]
    exact al_new W _)
  have HP := Lib.hid (hP X W.heap.size ⟨s, p, o, c.lv + 1, opn⟩ k rfl hlo hk (by show c.lv + 1 ≤ 32; omega) HSC.out)
  rw [nest_eq]
  obtain ⟨R, hR⟩ : ∃ R, WP.run f ⟨s, p, o, c.lv + 1, opn⟩ ⟨k, 0, [], []⟩ = R := ⟨_, rfl⟩
  rw [hR] at HP ⊢
  obtain ⟨tx, ls, hb⟩ := h.box
  have HLT := Lib.hid h.lt
  rw [e1] at hb
  obtain ⟨c0, c1, c2, c3, c4, c5, c6, c7, c8⟩ := hb.cells
  have hgl := h.lt
  have w1 : IntKind.i64.wrap ((c.lv : Int) + 1) = (c.lv : Int) + 1 := IntWalk.i64_in _ (by omega)
  clear hX hP hR hb h
  obtain ⟨s', pl', op', lv, opn'⟩ := c
  dsimp only at *
  cases R with
  | error x =>
    go_enter Tryz.func123, Tryz.ntmps123
    go_wp2_with fail
    refine wp_region_still_tail 14 (by kernel_rfl) (by kernel_rfl) ?_
    simp only [List.take_succ_cons, List.take_zero, List.drop_succ_cons, List.drop_zero]
    repeat still_step
    refine wpStill_nil ?_
    change wpList _ _ _ _ _ W.drew
    go_wp2_with fail
    rw [← HX.out]
    refine HP.out.mono ?_
    rintro e Y ⟨rfl, hb1⟩
    exact ⟨rfl, rfl, HBX.out.trans hb1⟩
  | ok y =>
    go_enter Tryz.func123, Tryz.ntmps123
    go_wp2_with fail
    refine wp_region_still_tail 14 (by kernel_rfl) (by kernel_rfl) ?_
    simp only [List.take_succ_cons, List.take_zero, List.drop_succ_cons, List.drop_zero]
    repeat still_step
    refine wpStill_nil ?_
    change wpList _ _ _ _ _ W.drew
    go_wp2_with fail
    rw [← HX.out]
    refine HP.out.mono ?_
    rintro e Y ⟨rfl, hs1, hf1⟩
    have HBY := Lib.hid (HBX.out.trans hf1.below)
    obtain ⟨tx2, A, cap, hb2, hrep⟩ := own_rep (W := W) (Nat.le_refl _) hs1
    have HREP := Lib.hid hrep
    clear hs1 hf1 hrep c0 c1 c2 c3 c4 c5 c6 c7 c8
    obtain ⟨c0, c1, c2, c3, c4, c5, c6, c7, c8⟩ := hb2.cells
    clear hb2
    go_wp2_with fail
    go_quiet (fail)
    go_wp2
    go_ret2
    exact ⟨A, cap, rfl, bdN HBY.out nq, rep_more (bdN (Below.refl _ _) nq) HREP.out⟩
/-- The offset of a scope. -/
def offOf (w : World) (g : Nat) : Nat := match w.cell? ⟨g, 1, none⟩ with | some (.int _ n) => n.toNat | _ => 0
theorem ScP.off {W : World} {g : Nat} {c : WP.Ctx} {st : WP.St} (h : ScP W g c st) : offOf W g = st.a := by
  obtain ⟨tx, ls, hb⟩ := h.box
  unfold offOf
  rw [hb.cells.2.1]
  simp
theorem ended_dep {c : WP.Ctx} {st : WP.St} (h : WP.ended c st = .ok false) (h1 : c.pl = 2) (h2 : c.op = false) (h3 : bt c.s st.a = 41) : 0 < st.dep := by
  rcases Nat.eq_zero_or_pos st.dep with h0 | h0
  · unfold WP.ended at h
    rw [h1, h2, h0, h3] at h
    split at h
    · split at h
      · cases h
      · cases h
    · simp at h
      split at h
      · cases h
      · split at h
        · cases h
        · cases h
  · exact h0
theorem ended_lt {c : WP.Ctx} {st : WP.St} (h : WP.ended c st = .ok false) (ha : st.a ≤ c.s.length) : st.a < c.s.length := by
  rcases Nat.lt_or_ge st.a c.s.length with h' | h'
  · exact h'
  · unfold WP.ended at h
    rw [if_pos (by omega)] at h
    split at h <;> cases h
/-- What braced gives over whatever reads the parts of a construct. -/
def BrAll : Prop := ∀ (W : World) (g : Nat) (c : WP.Ctx) (st : WP.St) (N : WP.Nest), NestC c.s (st.a + 1) N → WP.GoodN c.s N → ScP W g c st → st.a + 2 ≤ c.s.length → c.s.length ≤ 20000 → c.lv ≤ 32 → Calls Tryz.prog 125 #[.pointer (some ⟨g, 0, none⟩)] W (BrOut W (WP.braced N c st))
theorem BrAll.at_ (hB : BrAll) {s : List UInt8} {lo : Nat} {N : WP.Nest} (hs : s.length ≤ 20000) (hN : NestC s (lo + 1) N) (hg : WP.GoodN s N) : BracedC s lo N := by
  intro W g c st e1 e2 e3 e4 e5
  subst e1
  exact hB W g c st N (fun W' g' c' st' k o p b q1 q2 q3 q4 q5 q6 => hN W' g' c' st' k o p b q1 q2 (by omega) q4 q5 q6) hg e5 e4 hs e3
/-- Where the loop of parse stands. -/
def ParRel (W : World) (g : Nat) (c : WP.Ctx) (f : Nat) (R : Except WP.Flt WP.St) (wr : World) : Prop :=
  ∃ f' st', f' ≤ f ∧ ScP wr g c st' ∧ WP.Inv c st' ∧ c.s.length - st'.a < f' ∧ WP.run f' c st' = R ∧ Fr g W wr
set_option maxRecDepth 100000 in
set_option maxHeartbeats 4000000 in
theorem parse_run (hB : BrAll) : ∀ (f : Nat) (W : World) (g : Nat) (c : WP.Ctx) (st : WP.St), WP.Inv c st → c.s.length ≤ 20000 → c.lv ≤ 32 → ScP W g c st → c.s.length - st.a < f →
    Calls Tryz.prog 35 #[.pointer (some ⟨g, 0, none⟩)] W (Out W g c (WP.run f c st)) := by
  intro f
  induction f using Nat.strongRecOn with
  | ind f ih =>
    intro W g c st hi hl hlv h hf
    obtain ⟨R, hR⟩ : ∃ R, WP.run f c st = R := ⟨_, rfl⟩
    rw [hR]
    have HST := Lib.hid (show ParRel W g c f R W from ⟨f, st, Nat.le_refl _, h, hi, hf, hR, Fr.refl _ _⟩)
    have HLT := Lib.hid h.lt
    have IH := Lib.hid ih
    have HL := Lib.hid hl
    clear hi h hf hR ih st
    go_enter Tryz.func35, Tryz.ntmps35
    go_wp2
    go_loopw [] (fun wr => Hid (ParRel W g c f R wr)) (fun wr => c.s.length - offOf wr g)
    case atStart => exact HST.out
    case round =>
      obtain ⟨f', st', hf, hs, hi, hlt, hR, hfr⟩ := hrel.out
      have HFR := Lib.hid hfr
      have HS := Lib.hid hs
      have HI := Lib.hid hi
      have HO := Lib.hid hs.off
      obtain ⟨f2, rfl⟩ : ∃ k, f' = k + 1 := ⟨f' - 1, by omega⟩
      rw [WP.run_succ] at hR
      have HE := Lib.hid (ended_any hs hi.le (by omega) (by have := hi.dep; have := hi.le; omega))
      clear hrel hfr hs HST
      cases hen : WP.ended c st' with
      | error x =>
        rw [hen] at hR HE
        have HRE := Lib.hid (show Except.error x = R from hR)
        clear hR hen hi
        go_wp2_with fail
        refine HE.out.mono ?_
        rintro e w1 ⟨rfl, hb1⟩
        exact ⟨rfl, by rw [← HRE.out]; exact ⟨rfl, HFR.out.below.trans (hb1.mono (Nat.le_of_lt HS.out.lt))⟩⟩
      | ok b =>
        cases b with
        | true =>
          rw [hen] at hR HE
          have HRE := Lib.hid (show Except.ok (WP.flush st') = R from hR)
          have hn : st'.ls.length ≤ 90000 := by have := hi.sum; have := hi.le; omega
          clear hR hen hi
          go_wp2_with fail
          refine HE.out.mono ?_
          rintro e w1 ⟨rfl, hb1⟩
          have HF2 := Lib.hid (flush_any (HS.out.below hb1) hn)
          have HB1 := Lib.hid (Fr.of_below hb1 HS.out.lt)
          clear hb1 hn
          go_wp2_with fail
          refine HF2.out.mono ?_
          rintro e w2 ⟨rfl, hs2, hf2⟩
          have HS2 := Lib.hid hs2
          have HFR2 := Lib.hid ((HFR.out.trans HB1.out).trans hf2)
          clear hs2 hf2
          go_wp2
          go_end0
          rw [← HRE.out]
          exact ⟨rfl, HS2.out, HFR2.out⟩
        | false =>
          have ha := ended_lt hen hi.le
          have HD := Lib.hid (fun h1 h2 h3 => ended_dep hen h1 h2 h3)
          rw [hen] at hR HE
          have HNC := Lib.hid (show NestC c.s (st'.a + 1) (WP.nest f2) from nested_any (fun W1 g1 c1 k e1 hlo hk hlv1 hsc => IH.out f2 (by omega) W1 g1 c1 ⟨k, 0, [], []⟩ ⟨by rw [e1]; exact hk, by simp, by simp⟩ (by rw [e1]; exact HL.out) hlv1 hsc (by rw [e1]; show _ - k < _; omega)))
          have HGN := Lib.hid (WP.nest_good f2 c.s)
          have HNX := Lib.hid (fun V (hV : Below wr.heap.size wr V) => next_any HNC.out (hB.at_ HL.out HNC.out HGN.out) HGN.out (HS.out.below hV) HI.out ha HD.out HL.out hlv)
          have HA := Lib.hid ha
          cases hnx : WP.next (WP.nest f2) c st' with
          | error x =>
            rw [hnx] at HNX
            have HRE := Lib.hid (show Except.error x = R from by rw [← hR]; dsimp only; rw [hnx])
            clear hR hen hi hnx
            go_wp2_with fail
            refine HE.out.mono ?_
            rintro e w1 ⟨rfl, hb1⟩
            have HB1 := Lib.hid hb1
            have HNY := Lib.hid (HNX.out w1 hb1)
            clear hb1
            go_wp2_with fail
            refine HNY.out.mono ?_
            rintro e w2 ⟨rfl, hb2⟩
            exact ⟨rfl, by rw [← HRE.out]; exact ⟨rfl, (HFR.out.below.trans (HB1.out.mono (Nat.le_of_lt HS.out.lt))).trans hb2⟩⟩
          | ok st2 =>
            have hg2 := WP.next_good HGN.out hi ha hnx
            rw [hnx] at HNX
            have HR2 := Lib.hid (show WP.run f2 c st2 = R from by rw [← hR]; dsimp only; rw [hnx])
            have HG2 := Lib.hid hg2
            clear hR hen hi hnx hg2
            go_wp2_with fail
            refine HE.out.mono ?_
            rintro e w1 ⟨rfl, hb1⟩
            have HB1 := Lib.hid (Fr.of_below hb1 HS.out.lt)
            have HNY := Lib.hid (HNX.out w1 hb1)
            clear hb1
            go_wp2_with fail
            refine HNY.out.mono ?_
            rintro e w2 ⟨rfl, hs2, hf2⟩
            have HS2 := Lib.hid hs2
            have HFR2 := Lib.hid ((HFR.out.trans HB1.out).trans hf2)
            have HO2 := Lib.hid hs2.off
            clear hs2 hf2
            go_wp2
            go_roundw
            case rel => exact Lib.hid ⟨f2, st2, by omega, HS2.out, HG2.out.2, by have := HG2.out.1; omega, HR2.out, HFR2.out⟩
            case measure => rw [HO.out, HO2.out]; have := HG2.out.1; have := HA.out; omega
end W
end Go.Proofs.YtkceenmlhfkkhaaGreatDoor
