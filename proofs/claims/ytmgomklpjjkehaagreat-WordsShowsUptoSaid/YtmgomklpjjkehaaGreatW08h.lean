/- Words: unquoted. -/
import Derived.Test.YtmgomklpjjkehaaGreatW08g
import Derived.Deep.RegionHeld3
import Derived.RegionDies
namespace Go.Proofs.YtmgomklpjjkehaaGreat
open Go.RowKit K
namespace W
/-- What the reader of a construct's parts gives: a slice of parts in new memory and the offset of what ends them, or an error. -/
def NestOut (W : World) : Except WP.Flt (List WP.Part × Nat) → Ending → World → Prop
  | .ok (ps, e), en, W' => ∃ A cap, en = .returned (.tuple #[.slice A ps.length cap, .int .i64 e]) ∧ Below W.heap.size W W' ∧
      (ps = [] ∨ ∃ b cells, A = some ⟨b, 0, none⟩ ∧ W.heap.size ≤ b ∧ LRep W' (fun b => W.heap.size ≤ b) ps cells ∧ ∀ j u, cells[j]? = some u → W'.cell? ⟨b, j, none⟩ = some u)
  | .error f, en, W' => en = .panicked (faultP f) ∧ Below W.heap.size W W'
/-- The contract of nested over a plain reader. -/
def NestC (s : List UInt8) (lo : Nat) (N : WP.Nest) : Prop := ∀ (W : World) (g : Nat) (c : WP.Ctx) (st : WP.St) (k : Nat) (opn : Nat) (p : Nat) (o : Bool), c.s = s → c.lv ≤ 31 → lo ≤ k → k ≤ s.length → opn ≤ s.length → ScP W g c st →
  Calls Tryz.prog 75 #[.pointer (some ⟨g, 0, none⟩), .int .i64 k, .int .i64 opn, .int .i64 p, .bool o] W (NestOut W (N ⟨s, p, o, c.lv + 1, opn⟩ k))
/-- A part over what a reader gave. -/
theorem nest_rep {W W' : World} {g : Nat} {c : WP.Ctx} {st : WP.St} (h : ScP W g c st) (hb : Below W.heap.size W W') {ps : List WP.Part} {A : Option Addr} {cap : Nat} (k : Nat) (t : List UInt8) (o : Nat) (b : Bool)
    (hr : ps = [] ∨ ∃ b cells, A = some ⟨b, 0, none⟩ ∧ W.heap.size ≤ b ∧ LRep W' (fun b => W.heap.size ≤ b) ps cells ∧ ∀ j u, cells[j]? = some u → W'.cell? ⟨b, j, none⟩ = some u) :
    PRep W' (fun b => g < b ∧ ¬ ownSet W' g b) (.mk k t o b ps) (pc k t o b (.slice A ps.length cap)) := by
  have hg := h.lt
  have hno : ∀ q, W.heap.size ≤ q → g < q ∧ ¬ ownSet W' g q := fun q hq => ⟨by omega, fun e => by
    rw [own_same8 (hb.block g hg)] at e
    obtain ⟨lc, ⟨tx, ls, hbx, ht, hl⟩, -⟩ := h
    rw [own_iff hbx] at e
    rcases e with e | e | e
    · omega
    · have := own_lt ht _ e; omega
    · have := own_lt hl _ e; omega⟩
  rw [PRep]
  refine ⟨A, cap, rfl, ?_⟩
  rcases hr with hr | ⟨q, cells, h1, h2, h3, h4⟩
  · exact .inl hr
  · exact .inr ⟨q, cells, h1, hno q h2, LRep.mono (fun x hx _ => ⟨hno x hx, rfl⟩) ps cells h3, h4⟩
section
variable {W : World} {g : Nat} {c : WP.Ctx} {st : WP.St}
set_option maxRecDepth 100000 in
set_option maxHeartbeats 16000000 in
theorem unquoted_any {N : WP.Nest} (hN : NestC c.s (st.a + 1) N) (hgn : WP.GoodN c.s N) (h : ScP W g c st) (hi : WP.Inv c st) (ha : st.a < c.s.length) (hl : c.s.length ≤ 20000) (hlv : c.lv ≤ 32) :
    Calls Tryz.prog 63 #[.pointer (some ⟨g, 0, none⟩), .int .u8 (bt c.s st.a)] W (Out W g c (WP.unquoted N c st)) := by
  have HS := Lib.hid h
  have HLT := Lib.hid h.lt
  have hsum := hi.sum
  have HUE := Lib.hid (Below.refl W.heap.size W)
  have hF := Lib.hid (fun (x y : Int) (V : World) => fail_any x y V)
  have HL := Lib.hid (fun (b : UInt8) (m : Nat) (V : World) (hV : Below W.heap.size W V) (hm : m ≤ 10) => lit_any (W := V) b m (HS.out.below hV) (by omega) (by omega) hm)
  have HA := Lib.hid (fun (k : Nat) (t : List UInt8) (m : Nat) (V : World) (hV : Below W.heap.size W V) => add0 (W := V) k t 0 false m (HS.out.below hV) (by omega))
  have HCL := Lib.hid (close_any h (by omega))
  have HTI := Lib.hid (tilde_any h ha (by omega))
  have HN := Lib.hid hN
  have HGN := Lib.hid hgn
  obtain ⟨tx, ls, hb⟩ := h.box
  have HB := Lib.hid hb
  have HR := Lib.hid (show WP.unquoted N c st = if bt c.s st.a = 39 then
      match WP.cls c.s st.a with
      | .error x => .error x
      | .ok e => .ok (WP.add (.mk 2 (cut c.s (st.a + 1) (e - 1)) 0 false []) e st)
    else if bt c.s st.a = 34 then
      if c.lv = 32 then .error (st.a, 5)
      else match N ⟨c.s, 1, false, c.lv + 1, st.a⟩ (st.a + 1) with
        | .error x => .error x
        | .ok (ps, e) => .ok (WP.add (.mk 3 [] 0 false ps) (e + 1) st)
    else if LX.divides (bt c.s st.a) = true then (if c.op = true then .ok (WP.lit (by8 (bt c.s st.a)) 1 st) else .error (st.a, 6))
    else if bt c.s st.a = 126 ∧ WP.tilde c st = true then .ok (WP.add (.mk 7 [] 0 false []) (st.a + 1) st)
    else .ok (WP.lit (by8 (bt c.s st.a)) 1 st) from rfl)
  clear h hN hgn
  obtain ⟨s, pl, op, lv, opn⟩ := c
  obtain ⟨a, dep, tb, lp⟩ := st
  dsimp only at HS HL HA HB HR HCL HTI HN HGN ha hl hsum hlv ⊢
  obtain ⟨c0, c1, c2, c3, c4, c5, c6, c7, c8⟩ := HB.out.cells
  clear hb
  have w1 : IntKind.i64.wrap ((a : Int) + 1) = (a : Int) + 1 := IntWalk.i64_in _ (by omega)
  have a0 : (0 : Int) ≤ (a : Int) := by omega
  have a4 : (0 : Int) ≤ (a : Int) + 1 := by omega
  have a2 : ((a : Int) + 1).toNat = a + 1 := by omega
  obtain ⟨b, hbb⟩ : ∃ b, bt s a = b := ⟨_, rfl⟩
  have HBB := Lib.hid hbb
  have hb0 := bt_nonneg s a
  have hb1 := bt_le s a
  rw [hbb] at HR hb0 hb1 ⊢
  have HBY := Lib.hid (by8_toNat b hb0 hb1)
  clear hbb
  rw [show WP.unquoted N _ _ = _ from HR.out]
  clear HR
  by_cases h39 : b = 39
  · rw [if_pos h39]
    subst h39
    cases hcl : WP.cls s a with
    | error x =>
      rw [hcl] at HCL
      clear hcl
      go_enter Tryz.func63, Tryz.ntmps63
      go_wp2_with fail
      refine HCL.out.mono ?_
      rintro e Y ⟨rfl, hbY⟩
      exact ⟨rfl, rfl, hbY.mono (Nat.le_of_lt HLT.out)⟩
    | ok e =>
      rw [hcl] at HCL
      obtain ⟨he1, he2⟩ := WP.cls_le hcl
      have he3 := LX.close_single HBB.out he1
      clear hcl he1
      have s1 : IntKind.i64.wrap ((e : Int) - 1) = (e : Int) - 1 := IntWalk.i64_in _ (by omega)
      have s2 : (0 : Int) ≤ (e : Int) - 1 := by omega
      have s3 : ((e : Int) - 1).toNat = e - 1 := by omega
      have s4 : ((a : Int) + 1 ≤ (e : Int) - 1) = True := eq_true (by omega)
      have s5 : ((e : Int) - 1 ≤ (s.length : Int)) = True := eq_true (by omega)
      go_enter Tryz.func63, Tryz.ntmps63
      go_wp2_with fail
      refine HCL.out.mono ?_
      rintro en Y ⟨rfl, hbY⟩
      have HUY := Lib.hid hbY
      clear c0 c1 c2 c3 c4 c5 c6 c7 c8 hbY
      obtain ⟨c0, c1, c2, c3, c4, c5, c6, c7, c8⟩ := (HB.out.kept (HUY.out.block g HLT.out)).cells
      have HA2 := Lib.hid (show Calls Tryz.prog 73 #[.pointer (some ⟨g, 0, none⟩), .agg #[.int .i64 2, .string ⟨(cut s (a + 1) (e - 1)).toArray⟩, .int .i64 0, .bool false, .slice none 0 0], .int .i64 e] Y.drew (Out Y.drew g _ _) from HA.out 2 (cut s (a + 1) (e - 1)) e _ HUY.out.drew)
      go_wp2_with fail
      refine wp_region_still_tail 15 (by kernel_rfl) (by kernel_rfl) ?_
      simp only [List.take_succ_cons, List.take_zero, List.drop_succ_cons, List.drop_zero]
      repeat still_step
      refine wpStill_nil ?_
      change wpList _ _ _ _ _ Y.drew
      go_wp2_with fail
      refine HA2.out.mono ?_
      rintro en Y2 ⟨rfl, hs, hf⟩
      go_wp2
      first | go_end0 | refine bodyPost_ret (results_none rfl _ _ _) rfl ?_
      exact ⟨rfl, hs, (Fr.of_below HUY.out.drew HLT.out).trans hf⟩
  rw [if_neg h39]
  by_cases h34 : b = 34
  · rw [if_pos h34]
    subst h34
    by_cases hl32 : lv = 32
    · rw [if_pos hl32]
      subst hl32
      go_enter Tryz.func63, Tryz.ntmps63
      go_wp2_with fail
      refine (hF.out _ _ _).mono ?_
      rintro en Y ⟨rfl, rfl⟩
      exact ⟨rfl, rfl, HUE.out.mono (Nat.le_of_lt HLT.out)⟩
    · rw [if_neg hl32]
      have l32 : ((lv : Int) == 32) = false := by rw [beq_eq_false_iff_ne]; omega
      have HNC := Lib.hid (fun (V : World) (hV : Below W.heap.size W V) => show Calls Tryz.prog 75 #[.pointer (some ⟨g, 0, none⟩), .int .i64 ((a : Int) + 1), .int .i64 a, .int .i64 1, .bool false] V (NestOut V (N ⟨s, 1, false, lv + 1, a⟩ (a + 1))) from HN.out V g ⟨s, pl, op, lv, opn⟩ ⟨a, dep, tb, lp⟩ (a + 1) a 1 false rfl (by show lv ≤ 31; omega) (Nat.le_refl _) (by omega) (by omega) (HS.out.below hV))
      have HGG := Lib.hid (fun ps e h => HGN.out ⟨s, 1, false, lv + 1, a⟩ (a + 1) ps e rfl (show (0 : Int) ≤ (a : Int) by omega) (by omega) h)
      clear hl32
      cases hn : N ⟨s, 1, false, lv + 1, a⟩ (a + 1) with
      | error x =>
        rw [hn] at HNC
        clear hn
        go_enter Tryz.func63, Tryz.ntmps63
        go_wp2_with fail
        go_region_dies
        all_goals
          refine (HNC.out _ (Below.refl W.heap.size W).drew).mono ?_
          rintro en Y ⟨rfl, hb1⟩
          exact ⟨rfl, rfl, (btr (Below.refl W.heap.size W).drew hb1).mono (Nat.le_of_lt HLT.out)⟩
      | ok r =>
        obtain ⟨ps, e⟩ := r
        have hg3 := HGG.out ps e hn
        obtain ⟨hg1, hg2, -⟩ := hg3
        rw [hn] at HNC
        clear hn
        go_enter Tryz.func63, Tryz.ntmps63
        go_wp2_with fail
        go_region_held3 (fun w' => w'.cell? ⟨g, 1, none⟩ = some (.int .i64 a) ∧ Below W.heap.size W w')
          (first | exact ⟨by simpa using c1, (Below.refl _ _).drew⟩ | (go_split_ands; exact ⟨cell_below (btr ‹Below W.heap.size W _› ‹_›) HB.out.cells.2.1, btr ‹Below W.heap.size W _› ‹_›⟩) | go_keep)
          ((go_at_call 75; go_split_ands; have HVV := Lib.hid ‹Below W.heap.size W _›; refine (HNC.out _ HVV.out).mono ?_; rintro en Y ⟨A, cap, rfl, hb1, hrep⟩))
        have HUY := Lib.hid (btr HVV.out hb1)
        have HA2 := Lib.hid (show Calls Tryz.prog 73 #[.pointer (some ⟨g, 0, none⟩), .agg #[.int .i64 3, .string ⟨#[]⟩, .int .i64 0, .bool false, .slice A ps.length cap], .int .i64 ((e : Int) + 1)] Y (fun en Y2 => en = .returned (.tuple #[]) ∧ ScP Y2 g _ _ ∧ Fr g Y Y2) from
          add_any (W := Y) 3 [] 0 false ps A cap (e + 1) (HS.out.below HUY.out) (by show lp.length ≤ 90000; omega) (nest_rep (HS.out.below HVV.out) hb1 3 [] 0 false hrep))
        clear hrep hb1
        have pn0 : (0 : Int) ≤ (ps.length : Int) := by omega
        go_wp2_with fail
        refine HA2.out.mono ?_
        rintro en Y2 ⟨rfl, hs, hf⟩
        go_wp2
        first | go_end0 | refine bodyPost_ret (results_none rfl _ _ _) rfl ?_
        exact ⟨rfl, hs, (Fr.of_below HUY.out HLT.out).trans hf⟩
  rw [if_neg h34]
  by_cases hdv : LX.divides b = true
  · rw [if_pos hdv]
    have hdd : b = 38 ∨ b = 124 ∨ b = 59 ∨ b = 40 ∨ b = 41 ∨ b = 60 ∨ b = 62 ∨ b = 10 ∨ b = 9 ∨ b = 32 := by unfold LX.divides at hdv; exact of_decide_eq_true hdv
    clear hdv h39 h34
    rcases (show op = true ∨ op = false by cases op <;> simp) with rfl | rfl
    · rw [if_pos rfl]
      have HL1 := HL.out (by8 b) 1 W HUE.out (by decide)
      rw [HBY.out] at HL1
      replace HL1 := Lib.hid HL1
      clear HBY
      obtain ⟨u, hu⟩ : ∃ u, by8 b = u := ⟨_, rfl⟩
      rw [hu] at HL1 ⊢
      clear hu
      rcases hdd with rfl | rfl | rfl | rfl | rfl | rfl | rfl | rfl | rfl | rfl
      all_goals
        go_enter Tryz.func63, Tryz.ntmps63
        go_wp2_with fail
        refine HL1.out.mono ?_
        rintro en Y ⟨rfl, hs, hf⟩
        go_wp2
        first | go_end0 | refine bodyPost_ret (results_none rfl _ _ _) rfl ?_
        exact ⟨rfl, hs, hf⟩
    · rw [if_neg (by simp)]
      rcases hdd with rfl | rfl | rfl | rfl | rfl | rfl | rfl | rfl | rfl | rfl
      all_goals
        go_enter Tryz.func63, Tryz.ntmps63
        go_wp2_with fail
        refine (hF.out _ _ _).mono ?_
        rintro en Y ⟨rfl, rfl⟩
        exact ⟨rfl, rfl, HUE.out.mono (Nat.le_of_lt HLT.out)⟩
  rw [if_neg hdv]
  have hnd : ¬ b = 38 ∧ ¬ b = 124 ∧ ¬ b = 59 ∧ ¬ b = 40 ∧ ¬ b = 41 ∧ ¬ b = 60 ∧ ¬ b = 62 ∧ ¬ b = 10 ∧ ¬ b = 9 ∧ ¬ b = 32 := by
    unfold LX.divides at hdv
    simp only [decide_eq_true_eq, not_or] at hdv
    exact hdv
  obtain ⟨n1, n2, n3, n4, n5, n6, n7, n8, n9, n10⟩ := hnd
  clear hdv
  have HL2 := HL.out (by8 b) 1
  rw [HBY.out] at HL2
  replace HL2 := Lib.hid HL2
  by_cases h126 : b = 126
  · subst h126
    cases hti : WP.tilde ⟨s, pl, op, lv, opn⟩ ⟨a, dep, tb, lp⟩ with
    | true =>
      rw [if_pos ⟨rfl, rfl⟩]
      rw [hti] at HTI
      clear hti
      go_enter Tryz.func63, Tryz.ntmps63
      go_wp2_with fail
      refine HTI.out.mono ?_
      rintro en Y ⟨rfl, hbY⟩
      have HUY := Lib.hid hbY
      clear c0 c1 c2 c3 c4 c5 c6 c7 c8 hbY
      obtain ⟨c0, c1, c2, c3, c4, c5, c6, c7, c8⟩ := (HB.out.kept (HUY.out.block g HLT.out)).cells
      have HA2 := Lib.hid (show Calls Tryz.prog 73 #[.pointer (some ⟨g, 0, none⟩), .agg #[.int .i64 7, .string ⟨#[]⟩, .int .i64 0, .bool false, .slice none 0 0], .int .i64 ((a : Int) + 1)] Y (Out Y g _ _) from HA.out 7 [] (a + 1) _ HUY.out)
      go_wp2_with fail
      refine HA2.out.mono ?_
      rintro en Y2 ⟨rfl, hs, hf⟩
      go_wp2
      first | go_end0 | refine bodyPost_ret (results_none rfl _ _ _) rfl ?_
      exact ⟨rfl, hs, (Fr.of_below HUY.out HLT.out).trans hf⟩
    | false =>
      rw [if_neg (fun e => by cases e.2)]
      rw [hti] at HTI
      clear hti
      go_enter Tryz.func63, Tryz.ntmps63
      go_wp2_with fail
      refine HTI.out.mono ?_
      rintro en Y ⟨rfl, hbY⟩
      have HUY := Lib.hid hbY
      have HL3 := Lib.hid (HL2.out Y HUY.out (by decide))
      clear hbY
      go_wp2_with fail
      refine HL3.out.mono ?_
      rintro en Y2 ⟨rfl, hs, hf⟩
      go_wp2
      first | go_end0 | refine bodyPost_ret (results_none rfl _ _ _) rfl ?_
      exact ⟨rfl, hs, (Fr.of_below HUY.out HLT.out).trans hf⟩
  · rw [if_neg (fun e => h126 e.1)]
    have HL3 := Lib.hid (HL2.out W HUE.out (by decide))
    go_enter Tryz.func63, Tryz.ntmps63
    go_wp2_with fail
    refine HL3.out.mono ?_
    rintro en Y2 ⟨rfl, hs, hf⟩
    go_wp2
    first | go_end0 | refine bodyPost_ret (results_none rfl _ _ _) rfl ?_
    exact ⟨rfl, hs, hf⟩
end
end W
end Go.Proofs.YtmgomklpjjkehaaGreat
