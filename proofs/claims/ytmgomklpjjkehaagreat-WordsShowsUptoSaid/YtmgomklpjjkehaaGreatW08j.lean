/- Words: dollar. -/
import Derived.Test.YtmgomklpjjkehaaGreatW08i
namespace Go.Proofs.YtmgomklpjjkehaaGreat
open Go.RowKit K
namespace W
/-- What braced gives: a part over new memory and the offset after it, or an error. -/
def BrOut (W : World) : Except WP.Flt (WP.Part × Nat) → Ending → World → Prop
  | .ok (p, e), en, W' => ∃ (k : Nat) (t : List UInt8) (o : Nat) (b : Bool) (ps : List WP.Part) (A : Option Addr) (cap : Nat), p = .mk k t o b ps ∧ en = .returned (.tuple #[.agg #[.int .i64 k, .string ⟨t.toArray⟩, .int .i64 o, .bool b, .slice A ps.length cap], .int .i64 e]) ∧ Below W.heap.size W W' ∧
      (ps = [] ∨ ∃ b cells, A = some ⟨b, 0, none⟩ ∧ W.heap.size ≤ b ∧ LRep W' (fun b => W.heap.size ≤ b) ps cells ∧ ∀ j u, cells[j]? = some u → W'.cell? ⟨b, j, none⟩ = some u)
  | .error f, en, W' => en = .panicked (faultP f) ∧ Below W.heap.size W W'
def BracedC (s : List UInt8) (lo : Nat) (N : WP.Nest) : Prop := ∀ (W : World) (g : Nat) (c : WP.Ctx) (st : WP.St), c.s = s → lo ≤ st.a → c.lv ≤ 32 → st.a + 2 ≤ s.length → ScP W g c st →
  Calls Tryz.prog 77 #[.pointer (some ⟨g, 0, none⟩)] W (BrOut W (WP.braced N c st))
theorem rep_more {W W' W2 : World} {ps : List WP.Part} {A : Option Addr} (hb : Below W'.heap.size W' W2)
    (hr : ps = [] ∨ ∃ b cells, A = some ⟨b, 0, none⟩ ∧ W.heap.size ≤ b ∧ LRep W' (fun b => W.heap.size ≤ b) ps cells ∧ ∀ j u, cells[j]? = some u → W'.cell? ⟨b, j, none⟩ = some u) :
    ps = [] ∨ ∃ b cells, A = some ⟨b, 0, none⟩ ∧ W.heap.size ≤ b ∧ LRep W2 (fun b => W.heap.size ≤ b) ps cells ∧ ∀ j u, cells[j]? = some u → W2.cell? ⟨b, j, none⟩ = some u := by
  rcases hr with h | ⟨b, cells, h1, h2, h3, h4⟩
  · exact .inl h
  · exact .inr ⟨b, cells, h1, h2, LRep.mono (fun x hx hl => ⟨hx, hb.block x hl⟩) ps cells h3, fun j u hj => cell_below hb (h4 j u hj)⟩
section
variable {W : World} {g : Nat} {c : WP.Ctx} {st : WP.St}
set_option maxRecDepth 100000 in
set_option maxHeartbeats 8000000 in
/-- A dollar before a parenthesis or a brace. -/
theorem dollar_open {N : WP.Nest} (hN : NestC c.s (st.a + 1) N) (hBR : BracedC c.s st.a N) (hgn : WP.GoodN c.s N) (h : ScP W g c st) (hi : WP.Inv c st) (ha : st.a < c.s.length) (hb36 : bt c.s st.a = 36) (hl : c.s.length ≤ 20000) (hlv : c.lv ≤ 32)
    (hop : Lib.hasPrefix (c.s.drop (st.a + 1)) [40, 40] = true ∨ Lib.hasPrefix (c.s.drop (st.a + 1)) [40] = true ∨ Lib.hasPrefix (c.s.drop (st.a + 1)) [123] = true) :
    Calls Tryz.prog 61 #[.pointer (some ⟨g, 0, none⟩)] W (Out W g c (WP.dollar N c st)) := by
  have HS := Lib.hid h
  have HLT := Lib.hid h.lt
  have hsum := hi.sum
  have HUE := Lib.hid (Below.refl W.heap.size W)
  have hF := Lib.hid (fun (x y : Int) (V : World) => fail_any x y V)
  have HA := Lib.hid (fun (k : Nat) (t : List UInt8) (m : Nat) (V : World) (hV : Below W.heap.size W V) => add0 (W := V) k t 0 false m (HS.out.below hV) (by omega))
  have HCL := Lib.hid (fun V (hV : Below W.heap.size W V) => close_any (HS.out.below hV) (by omega))
  have HN := Lib.hid hN
  have HBR := Lib.hid hBR
  have HGN := Lib.hid hgn
  obtain ⟨tx, ls, hb⟩ := h.box
  have HB := Lib.hid hb
  have HR := Lib.hid (show WP.dollar N c st = if Lib.hasPrefix (c.s.drop (st.a + 1)) [40, 40] = true then
      if c.lv = 32 then .error (st.a, 5)
      else match N ⟨c.s, 2, false, c.lv + 1, st.a⟩ (st.a + 3) with
        | .error x => .error x
        | .ok (ps, e) => .ok (WP.add (.mk 6 [] 0 false ps) (e + 2) st)
    else if Lib.hasPrefix (c.s.drop (st.a + 1)) [40] = true then
      match WP.cls c.s st.a with
      | .error x => .error x
      | .ok e => .ok (WP.add (.mk 5 (cut c.s (st.a + 2) (e - 1)) 0 false []) e st)
    else if Lib.hasPrefix (c.s.drop (st.a + 1)) [123] = true then
      match WP.braced N c st with
      | .error x => .error x
      | .ok (p, e) => .ok (WP.add p e st)
    else WP.dollar N c st by
      by_cases h1 : Lib.hasPrefix (c.s.drop (st.a + 1)) [40, 40] = true
      · rw [if_pos h1]; conv => lhs; unfold WP.dollar
        rw [if_pos h1]; rfl
      · rw [if_neg h1]
        by_cases h2 : Lib.hasPrefix (c.s.drop (st.a + 1)) [40] = true
        · rw [if_pos h2]; conv => lhs; unfold WP.dollar
          rw [if_neg h1, if_pos h2]; rfl
        · rw [if_neg h2]
          by_cases h3 : Lib.hasPrefix (c.s.drop (st.a + 1)) [123] = true
          · rw [if_pos h3]; conv => lhs; unfold WP.dollar
            rw [if_neg h1, if_neg h2, if_pos h3]; rfl
          · rw [if_neg h3])
  clear h hN hgn hBR
  obtain ⟨s, pl, op, lv, opn⟩ := c
  obtain ⟨a, dep, tb, lp⟩ := st
  dsimp only at HS HA HB HR HCL HN HBR HGN ha hl hsum hlv hb36 hop ⊢
  obtain ⟨c0, c1, c2, c3, c4, c5, c6, c7, c8⟩ := HB.out.cells
  clear hb
  have w1 : IntKind.i64.wrap ((a : Int) + 1) = (a : Int) + 1 := IntWalk.i64_in _ (by omega)
  have a0 : (0 : Int) ≤ (a : Int) := by omega
  have a4 : (0 : Int) ≤ (a : Int) + 1 := by omega
  have a2 : ((a : Int) + 1).toNat = a + 1 := by omega
  have a3 : ((a : Int) + 1 ≤ (s.length : Int)) = True := eq_true (by omega)
  have HP40 := Lib.hid (fun V => lx_HasPrefix (s.drop (a + 1)) [40, 40] V)
  have HP4 := Lib.hid (fun V => lx_HasPrefix (s.drop (a + 1)) [40] V)
  have HP1 := Lib.hid (fun V => lx_HasPrefix (s.drop (a + 1)) [123] V)
  rw [show WP.dollar N _ _ = _ from HR.out]
  clear HR
  cases h40 : Lib.hasPrefix (s.drop (a + 1)) [40, 40] with
  | true =>
    rw [if_pos rfl]
    obtain ⟨r, hr⟩ := LX.has2 h40
    have d1 := LX.drop_head hr
    have d2 := LX.drop_head d1.2.2
    have hd3 : a + 3 ≤ s.length := by have := d2.1; omega
    rw [h40] at HP40
    clear hop hr d1 d2 h40 r
    by_cases hl32 : lv = 32
    · rw [if_pos hl32]
      subst hl32
      go_enter Tryz.func61, Tryz.ntmps61
      go_wp2_with fail
      go_quiet (fail)
      rw [cut_end]
      have HUU := Lib.hid (bdN HUE.out nq)
      generalize W.drewN nq = U at HUU ⊢
      clear c0 c1 c2 c3 c4 c5 c6 c7 c8
      obtain ⟨c0, c1, c2, c3, c4, c5, c6, c7, c8⟩ := (HB.out.kept (HUU.out.block g HLT.out)).cells
      go_wp2_with fail
      refine (HP40.out _).mono ?_
      rintro en w1 ⟨rfl, rfl⟩
      go_wp2_with fail
      refine (hF.out _ _ _).mono ?_
      rintro en Y ⟨rfl, rfl⟩
      exact ⟨rfl, rfl, HUU.out.mono (Nat.le_of_lt HLT.out)⟩
    · rw [if_neg hl32]
      have l32 : ((lv : Int) == 32) = false := by rw [beq_eq_false_iff_ne]; omega
      have w3 : IntKind.i64.wrap ((a : Int) + 3) = (a : Int) + 3 := IntWalk.i64_in _ (by omega)
      have HNC := Lib.hid (fun (V : World) (hV : Below W.heap.size W V) => show Calls Tryz.prog 75 #[.pointer (some ⟨g, 0, none⟩), .int .i64 ((a : Int) + 3), .int .i64 a, .int .i64 2, .bool false] V (NestOut V (N ⟨s, 2, false, lv + 1, a⟩ (a + 3))) from HN.out V g ⟨s, pl, op, lv, opn⟩ ⟨a, dep, tb, lp⟩ (a + 3) a 2 false rfl (by show lv ≤ 31; omega) (by omega) hd3 (by omega) (HS.out.below hV))
      have HGG := Lib.hid (fun ps e h => HGN.out ⟨s, 2, false, lv + 1, a⟩ (a + 3) ps e rfl (show (0 : Int) ≤ (a : Int) by omega) hd3 h)
      clear hl32
      cases hn : N ⟨s, 2, false, lv + 1, a⟩ (a + 3) with
      | error x =>
        rw [hn] at HNC
        clear hn
        go_enter Tryz.func61, Tryz.ntmps61
        go_wp2_with fail
        go_quiet (fail)
        rw [cut_end]
        have HUU := Lib.hid (bdN HUE.out nq)
        generalize W.drewN nq = U at HUU ⊢
        clear c0 c1 c2 c3 c4 c5 c6 c7 c8
        obtain ⟨c0, c1, c2, c3, c4, c5, c6, c7, c8⟩ := (HB.out.kept (HUU.out.block g HLT.out)).cells
        go_wp2_with fail
        refine (HP40.out _).mono ?_
        rintro en w1 ⟨rfl, rfl⟩
        go_wp2_with fail
        go_region_dies
        all_goals
          refine (HNC.out _ HUU.out.drew).mono ?_
          rintro en Y ⟨rfl, hb1⟩
          exact ⟨rfl, rfl, (btr HUU.out.drew hb1).mono (Nat.le_of_lt HLT.out)⟩
      | ok r =>
        obtain ⟨ps, e⟩ := r
        obtain ⟨hg1, hg2, hg3⟩ := HGG.out ps e hn
        have hg4 := hg3 rfl rfl
        rw [hn] at HNC
        clear hn hg3
        go_enter Tryz.func61, Tryz.ntmps61
        go_wp2_with fail
        go_quiet (fail)
        rw [cut_end]
        have HUU := Lib.hid (bdN HUE.out nq)
        generalize W.drewN nq = U at HUU ⊢
        clear c0 c1 c2 c3 c4 c5 c6 c7 c8
        obtain ⟨c0, c1, c2, c3, c4, c5, c6, c7, c8⟩ := (HB.out.kept (HUU.out.block g HLT.out)).cells
        go_wp2_with fail
        refine (HP40.out _).mono ?_
        rintro en w1 ⟨rfl, rfl⟩
        go_wp2_with fail
        go_region_held3 (fun w' => w'.cell? ⟨g, 1, none⟩ = some (.int .i64 a) ∧ Below W.heap.size W w')
          (first | exact ⟨by simpa using c1, HUU.out.drew⟩ | (go_split_ands; exact ⟨cell_below (btr ‹Below W.heap.size W _› ‹_›) HB.out.cells.2.1, btr ‹Below W.heap.size W _› ‹_›⟩) | go_keep)
          ((go_at_call 75; go_split_ands; have HVV := Lib.hid ‹Below W.heap.size W _›; refine (HNC.out _ HVV.out).mono ?_; rintro en Y ⟨A, cap, rfl, hb1, hrep⟩))
        have HUY := Lib.hid (btr HVV.out hb1)
        have HA2 := Lib.hid (show Calls Tryz.prog 73 #[.pointer (some ⟨g, 0, none⟩), .agg #[.int .i64 6, .string ⟨#[]⟩, .int .i64 0, .bool false, .slice A ps.length cap], .int .i64 ((e : Int) + 2)] Y (fun en Y2 => en = .returned (.tuple #[]) ∧ ScP Y2 g _ _ ∧ Fr g Y Y2) from
          add_any (W := Y) 6 [] 0 false ps A cap (e + 2) (HS.out.below HUY.out) (by show lp.length ≤ 90000; omega) (nest_rep (HS.out.below HVV.out) hb1 6 [] 0 false hrep))
        clear hrep hb1
        have pn0 : (0 : Int) ≤ (ps.length : Int) := by omega
        go_wp2_with fail
        refine HA2.out.mono ?_
        rintro en Y2 ⟨rfl, hs, hf⟩
        go_wp2
        first | go_end0 | refine bodyPost_ret (results_none rfl _ _ _) rfl ?_
        exact ⟨rfl, hs, (Fr.of_below HUY.out HLT.out).trans hf⟩
  | false =>
    rw [if_neg (by simp)]
    rw [h40] at HP40 hop
    have hn3 := LX.has_not3 h40
    clear h40
    cases h4 : Lib.hasPrefix (s.drop (a + 1)) [40] with
    | true =>
      rw [if_pos rfl]
      obtain ⟨r, hr⟩ := LX.has1 h4
      have d1 := LX.drop_head hr
      have hb40 := d1.2.1
      have hd2 : a + 2 ≤ s.length := by have := d1.1; omega
      rw [h4] at HP4
      clear hop hr d1 h4 r
      cases hcl : WP.cls s a with
      | error x =>
        rw [hcl] at HCL
        clear hcl
        go_enter Tryz.func61, Tryz.ntmps61
        go_wp2_with fail
        go_quiet (fail)
        rw [cut_end]
        have HUU := Lib.hid (bdN HUE.out nq)
        generalize W.drewN nq = U at HUU ⊢
        go_wp2_with fail
        refine (HP40.out _).mono ?_
        rintro en w1 ⟨rfl, rfl⟩
        go_wp2_with fail
        refine (HP4.out _).mono ?_
        rintro en w1 ⟨rfl, rfl⟩
        go_wp2_with fail
        refine (HCL.out _ HUU.out).mono ?_
        rintro en Y ⟨rfl, hbY⟩
        exact ⟨rfl, rfl, (btr HUU.out hbY).mono (Nat.le_of_lt HLT.out)⟩
      | ok e =>
        rw [hcl] at HCL
        obtain ⟨he1, he2⟩ := WP.cls_le hcl
        have he3 := LX.close_cmd hb36 hb40 hn3 he1
        clear hcl he1
        have w2 : IntKind.i64.wrap ((a : Int) + 2) = (a : Int) + 2 := IntWalk.i64_in _ (by omega)
        have a5 : ((a : Int) + 2).toNat = a + 2 := by omega
        have a6 : (0 : Int) ≤ (a : Int) + 2 := by omega
        have s1 : IntKind.i64.wrap ((e : Int) - 1) = (e : Int) - 1 := IntWalk.i64_in _ (by omega)
        have s2 : (0 : Int) ≤ (e : Int) - 1 := by omega
        have s3 : ((e : Int) - 1).toNat = e - 1 := by omega
        have s4 : ((a : Int) + 2 ≤ (e : Int) - 1) = True := eq_true (by omega)
        have s5 : ((e : Int) - 1 ≤ (s.length : Int)) = True := eq_true (by omega)
        go_enter Tryz.func61, Tryz.ntmps61
        go_wp2_with fail
        go_quiet (fail)
        rw [cut_end]
        have HUU := Lib.hid (bdN HUE.out nq)
        generalize W.drewN nq = U at HUU ⊢
        go_wp2_with fail
        refine (HP40.out _).mono ?_
        rintro en w1 ⟨rfl, rfl⟩
        go_wp2_with fail
        refine (HP4.out _).mono ?_
        rintro en w1 ⟨rfl, rfl⟩
        go_wp2_with fail
        refine (HCL.out _ HUU.out).mono ?_
        rintro en Y ⟨rfl, hbY⟩
        have HUY := Lib.hid (btr HUU.out hbY)
        clear c0 c1 c2 c3 c4 c5 c6 c7 c8 hbY
        obtain ⟨c0, c1, c2, c3, c4, c5, c6, c7, c8⟩ := (HB.out.kept (HUY.out.block g HLT.out)).cells
        have HA2 := Lib.hid (show Calls Tryz.prog 73 #[.pointer (some ⟨g, 0, none⟩), .agg #[.int .i64 5, .string ⟨(cut s (a + 2) (e - 1)).toArray⟩, .int .i64 0, .bool false, .slice none 0 0], .int .i64 e] Y.drew (Out Y.drew g _ _) from HA.out 5 (cut s (a + 2) (e - 1)) e _ HUY.out.drew)
        go_wp2_with fail
        refine wp_region_still_tail 15 (by kernel_rfl) (by kernel_rfl) ?_
        simp only [List.take_succ_cons, List.take_zero, List.drop_succ_cons, List.drop_zero]
        repeat still_step
        refine wpStill_nil ?_
        change wpList _ _ _ _ _ Y.drew
        go_wp2_with fail
        refine HA2.out.mono ?_
        rintro en Y2 ⟨rfl, hs, hf⟩
        go_wp2
        first | go_end0 | refine bodyPost_ret (results_none rfl _ _ _) rfl ?_
        exact ⟨rfl, hs, (Fr.of_below HUY.out.drew HLT.out).trans hf⟩
    | false =>
      rw [if_neg (by simp)]
      rw [h4] at HP4 hop
      clear h4
      have h123 : Lib.hasPrefix (s.drop (a + 1)) [123] = true := by rcases hop with h | h | h; cases h; cases h; exact h
      rw [if_pos h123]
      obtain ⟨r, hr⟩ := LX.has1 h123
      have hd2 : a + 2 ≤ s.length := by have := (LX.drop_head hr).1; omega
      rw [h123] at HP1
      clear hop hr h123 r
      have HBC := Lib.hid (fun (V : World) (hV : Below W.heap.size W V) => HBR.out V g ⟨s, pl, op, lv, opn⟩ ⟨a, dep, tb, lp⟩ rfl (Nat.le_refl _) hlv hd2 (HS.out.below hV))
      cases hbr : WP.braced N ⟨s, pl, op, lv, opn⟩ ⟨a, dep, tb, lp⟩ with
      | error x =>
        rw [hbr] at HBC
        clear hbr
        go_enter Tryz.func61, Tryz.ntmps61
        go_wp2_with fail
        go_quiet (fail)
        rw [cut_end]
        have HUU := Lib.hid (bdN HUE.out nq)
        generalize W.drewN nq = U at HUU ⊢
        go_wp2_with fail
        refine (HP40.out _).mono ?_
        rintro en w1 ⟨rfl, rfl⟩
        go_wp2_with fail
        refine (HP4.out _).mono ?_
        rintro en w1 ⟨rfl, rfl⟩
        go_wp2_with fail
        refine (HP1.out _).mono ?_
        rintro en w1 ⟨rfl, rfl⟩
        go_wp2_with fail
        refine (HBC.out _ HUU.out).mono ?_
        rintro en Y ⟨rfl, hbY⟩
        exact ⟨rfl, rfl, (btr HUU.out hbY).mono (Nat.le_of_lt HLT.out)⟩
      | ok r =>
        obtain ⟨p, e⟩ := r
        rw [hbr] at HBC
        clear hbr
        go_enter Tryz.func61, Tryz.ntmps61
        go_wp2_with fail
        go_quiet (fail)
        rw [cut_end]
        have HUU := Lib.hid (bdN HUE.out nq)
        generalize W.drewN nq = U at HUU ⊢
        go_wp2_with fail
        refine (HP40.out _).mono ?_
        rintro en w1 ⟨rfl, rfl⟩
        go_wp2_with fail
        refine (HP4.out _).mono ?_
        rintro en w1 ⟨rfl, rfl⟩
        go_wp2_with fail
        refine (HP1.out _).mono ?_
        rintro en w1 ⟨rfl, rfl⟩
        go_wp2_with fail
        refine (HBC.out _ HUU.out).mono ?_
        rintro en Y ⟨k, t, o, b, ps, A, cap, rfl, rfl, hbY, hrep⟩
        have HUY := Lib.hid (btr HUU.out hbY)
        obtain ⟨Z, hZ⟩ : ∃ Z, Z = Y.alloc (.cells #[.int .i64 k, .string ⟨t.toArray⟩, .int .i64 o, .bool b, .slice A ps.length cap] 38) := ⟨_, rfl⟩
        have HZB := Lib.hid (show Below Y.heap.size Y Z by rw [hZ]; exact balloc _ _)
        have HZ := Lib.hid hZ
        have HA2 := Lib.hid (add_any (W := Z) k t o b ps A cap e (HS.out.below (btr HUY.out HZB.out)) (by show lp.length ≤ 90000; omega) (nest_rep (HS.out.below HUU.out) (btr hbY HZB.out) k t o b (rep_more HZB.out hrep)))
        clear hrep hbY hZ
        go_wp2_with fail
        rw [← HZ.out]
        refine HA2.out.mono ?_
        rintro en Y2 ⟨rfl, hs, hf⟩
        go_wp2
        first | go_end0 | refine bodyPost_ret (results_none rfl _ _ _) rfl ?_
        exact ⟨rfl, hs, (Fr.of_below (btr HUY.out HZB.out) HLT.out).trans hf⟩
end
end W
end Go.Proofs.YtmgomklpjjkehaaGreat
