/- Several texts in one: W08h W08i W08j W08k. -/
import Derived.Test.YtcbdhheelddgeaaGreatDoorWC
import Derived.Deep.RegionHeld3
import Derived.RegionDies
namespace Go.Proofs.YtcbdhheelddgeaaGreatDoor
open Go.RowKit K
namespace W
/-- What the reader of a construct's parts gives: a slice of parts in new memory and the offset of what ends them, or an error. -/
def NestOut (W : World) : Except WP.Flt (List WP.Part × Nat) → Ending → World → Prop
  | .ok (ps, e), en, W' => ∃ A cap, en = .returned (.tuple #[.slice A ps.length cap, .int .i64 e]) ∧ Below W.heap.size W W' ∧
      (ps = [] ∨ ∃ b cells, A = some ⟨b, 0, none⟩ ∧ W.heap.size ≤ b ∧ LRep W' (fun b => W.heap.size ≤ b) ps cells ∧ ∀ j u, cells[j]? = some u → W'.cell? ⟨b, j, none⟩ = some u)
  | .error f, en, W' => en = .panicked (faultP f) ∧ Below W.heap.size W W'
/-- The contract of nested over a plain reader. -/
def NestC (s : List UInt8) (lo : Nat) (N : WP.Nest) : Prop := ∀ (W : World) (g : Nat) (c : WP.Ctx) (st : WP.St) (k : Nat) (opn : Nat) (p : Nat) (o : Bool), c.s = s → c.lv ≤ 31 → lo ≤ k → k ≤ s.length → opn ≤ s.length → ScP W g c st →
  Calls Tryz.prog 165 #[.pointer (some ⟨g, 0, none⟩), .int .i64 k, .int .i64 opn, .int .i64 p, .bool o] W (NestOut W (N ⟨s, p, o, c.lv + 1, opn⟩ k))
/-- A part over what a reader gave. -/
theorem nest_rep {W W' : World} {g : Nat} {c : WP.Ctx} {st : WP.St} (h : ScP W g c st) (hb : Below W.heap.size W W') {ps : List WP.Part} {A : Option Addr} {cap : Nat} (k : Nat) (t : List UInt8) (o : Nat) (b : Bool)
    (hr : ps = [] ∨ ∃ b cells, A = some ⟨b, 0, none⟩ ∧ W.heap.size ≤ b ∧ LRep W' (fun b => W.heap.size ≤ b) ps cells ∧ ∀ j u, cells[j]? = some u → W'.cell? ⟨b, j, none⟩ = some u) :
    PRep W' (fun b => g < b ∧ ¬ ownSet W' g b) (.mk k t o b ps) (pc k t o b (.slice A ps.length cap)) := by
  have hg := h.lt
  have hno : ∀ q, W.heap.size ≤ q → g < q ∧ ¬ ownSet W' g q := fun q hq => ⟨by omega, fun e => by
    rw [own_same8 (hb.block g hg)] at e
    obtain ⟨lc, ⟨tx, ls, hbx, ht, hl⟩, -⟩ := h
    rw [own_iff hbx] at e
    rcases e with e | e | e
    · omega
    · have := own_lt ht _ e; omega
    · have := own_lt hl _ e; omega⟩
  rw [PRep]
  refine ⟨A, cap, rfl, ?_⟩
  rcases hr with hr | ⟨q, cells, h1, h2, h3, h4⟩
  · exact .inl hr
  · exact .inr ⟨q, cells, h1, hno q h2, LRep.mono (fun x hx _ => ⟨hno x hx, rfl⟩) ps cells h3, h4⟩
section
variable {W : World} {g : Nat} {c : WP.Ctx} {st : WP.St}
set_option maxRecDepth 100000 in
set_option maxHeartbeats 16000000 in
theorem unquoted_any {N : WP.Nest} (hN : NestC c.s (st.a + 1) N) (hgn : WP.GoodN c.s N) (h : ScP W g c st) (hi : WP.Inv c st) (ha : st.a < c.s.length) (hl : c.s.length ≤ 20000) (hlv : c.lv ≤ 32) :
    Calls Tryz.prog 157 #[.pointer (some ⟨g, 0, none⟩), .int .u8 (bt c.s st.a)] W (Out W g c (WP.unquoted N c st)) := by
  have HS := Lib.hid h
  have HLT := Lib.hid h.lt
  have hsum := hi.sum
  have HUE := Lib.hid (Below.refl W.heap.size W)
  have hF := Lib.hid (fun (x y : Int) (V : World) => fail_any x y V)
  have HL := Lib.hid (fun (b : UInt8) (m : Nat) (V : World) (hV : Below W.heap.size W V) (hm : m ≤ 10) => lit_any (W := V) b m (HS.out.below hV) (by omega) (by omega) hm)
  have HA := Lib.hid (fun (k : Nat) (t : List UInt8) (m : Nat) (V : World) (hV : Below W.heap.size W V) => add0 (W := V) k t 0 false m (HS.out.below hV) (by omega))
  have HCL := Lib.hid (close_any h (by omega))
  have HTI := Lib.hid (tilde_any h ha (by omega))
  have HN := Lib.hid hN
  have HGN := Lib.hid hgn
  obtain ⟨tx, ls, hb⟩ := h.box
  have HB := Lib.hid hb
  have HR := Lib.hid (show WP.unquoted N c st = if bt c.s st.a = 39 then
      match WP.cls c.s st.a with
      | .error x => .error x
      | .ok e => .ok (WP.add (.mk 2 (cut c.s (st.a + 1) (e - 1)) 0 false []) e st)
    else if bt c.s st.a = 34 then
      if c.lv = 32 then .error (st.a, 5)
      else match N ⟨c.s, 1, false, c.lv + 1, st.a⟩ (st.a + 1) with
        | .error x => .error x
        | .ok (ps, e) => .ok (WP.add (.mk 3 [] 0 false ps) (e + 1) st)
    else if LX.divides (bt c.s st.a) = true then (if c.op = true then .ok (WP.lit (by8 (bt c.s st.a)) 1 st) else .error (st.a, 6))
    else if bt c.s st.a = 126 ∧ WP.tilde c st = true then .ok (WP.add (.mk 7 [] 0 false []) (st.a + 1) st)
    else .ok (WP.lit (by8 (bt c.s st.a)) 1 st) from rfl)
  clear h hN hgn
  obtain ⟨s, pl, op, lv, opn⟩ := c
  obtain ⟨a, dep, tb, lp⟩ := st
  dsimp only at HS HL HA HB HR HCL HTI HN HGN ha hl hsum hlv ⊢
  obtain ⟨c0, c1, c2, c3, c4, c5, c6, c7, c8⟩ := HB.out.cells
  clear hb
  have w1 : IntKind.i64.wrap ((a : Int) + 1) = (a : Int) + 1 := IntWalk.i64_in _ (by omega)
  have a0 : (0 : Int) ≤ (a : Int) := by omega
  have a4 : (0 : Int) ≤ (a : Int) + 1 := by omega
  have a2 : ((a : Int) + 1).toNat = a + 1 := by omega
  obtain ⟨b, hbb⟩ : ∃ b, bt s a = b := ⟨_, rfl⟩
  have HBB := Lib.hid hbb
  have hb0 := bt_nonneg s a
  have hb1 := bt_le s a
  rw [hbb] at HR hb0 hb1 ⊢
  have HBY := Lib.hid (by8_toNat b hb0 hb1)
  clear hbb
  rw [show WP.unquoted N _ _ = _ from HR.out]
  clear HR
  by_cases h39 : b = 39
  · rw [if_pos h39]
    subst h39
    cases hcl : WP.cls s a with
    | error x =>
      rw [hcl] at HCL
      clear hcl
      go_enter Tryz.func157, Tryz.ntmps157
      go_wp2_with fail
      refine HCL.out.mono ?_
      rintro e Y ⟨rfl, hbY⟩
      exact ⟨rfl, rfl, hbY.mono (Nat.le_of_lt HLT.out)⟩
    | ok e =>
      rw [hcl] at HCL
      obtain ⟨he1, he2⟩ := WP.cls_le hcl
      have he3 := LX.close_single HBB.out he1
      clear hcl he1
      have s1 : IntKind.i64.wrap ((e : Int) - 1) = (e : Int) - 1 := IntWalk.i64_in _ (by omega)
      have s2 : (0 : Int) ≤ (e : Int) - 1 := by omega
      have s3 : ((e : Int) - 1).toNat = e - 1 := by omega
      have s4 : ((a : Int) + 1 ≤ (e : Int) - 1) = True := eq_true (by omega)
      have s5 : ((e : Int) - 1 ≤ (s.length : Int)) = True := eq_true (by omega)
      go_enter Tryz.func157, Tryz.ntmps157
      go_wp2_with fail
      refine HCL.out.mono ?_
      rintro en Y ⟨rfl, hbY⟩
      have HUY := Lib.hid hbY
      clear c0 c1 c2 c3 c4 c5 c6 c7 c8 hbY
      obtain ⟨c0, c1, c2, c3, c4, c5, c6, c7, c8⟩ := (HB.out.kept (HUY.out.block g HLT.out)).cells
      have HA2 := Lib.hid (show Calls Tryz.prog 163 #[.pointer (some ⟨g, 0, none⟩), .agg #[.int .i64 2, .string ⟨(cut s (a + 1) (e - 1)).toArray⟩, .int .i64 0, .bool false, .slice none 0 0], .int .i64 e] Y.drew (Out Y.drew g _ _) from HA.out 2 (cut s (a + 1) (e - 1)) e _ HUY.out.drew)
      go_wp2_with fail
      refine wp_region_still_tail 15 (by kernel_rfl) (by kernel_rfl) ?_
      simp only [List.take_succ_cons, List.take_zero, List.drop_succ_cons, List.drop_zero]
      repeat still_step
      refine wpStill_nil ?_
      change wpList _ _ _ _ _ Y.drew
      go_wp2_with fail
      refine HA2.out.mono ?_
      rintro en Y2 ⟨rfl, hs, hf⟩
      go_wp2
      first | go_end0 | refine bodyPost_ret (results_none rfl _ _ _) rfl ?_
      exact ⟨rfl, hs, (Fr.of_below HUY.out.drew HLT.out).trans hf⟩
  rw [if_neg h39]
  by_cases h34 : b = 34
  · rw [if_pos h34]
    subst h34
    by_cases hl32 : lv = 32
    · rw [if_pos hl32]
      subst hl32
      go_enter Tryz.func157, Tryz.ntmps157
      go_wp2_with fail
      refine (hF.out _ _ _).mono ?_
      rintro en Y ⟨rfl, rfl⟩
      exact ⟨rfl, rfl, HUE.out.mono (Nat.le_of_lt HLT.out)⟩
    · rw [if_neg hl32]
      have l32 : ((lv : Int) == 32) = false := by rw [beq_eq_false_iff_ne]; omega
      have HNC := Lib.hid (fun (V : World) (hV : Below W.heap.size W V) => show Calls Tryz.prog 165 #[.pointer (some ⟨g, 0, none⟩), .int .i64 ((a : Int) + 1), .int .i64 a, .int .i64 1, .bool false] V (NestOut V (N ⟨s, 1, false, lv + 1, a⟩ (a + 1))) from HN.out V g ⟨s, pl, op, lv, opn⟩ ⟨a, dep, tb, lp⟩ (a + 1) a 1 false rfl (by show lv ≤ 31; omega) (Nat.le_refl _) (by omega) (by omega) (HS.out.below hV))
      have HGG := Lib.hid (fun ps e h => HGN.out ⟨s, 1, false, lv + 1, a⟩ (a + 1) ps e rfl (show (0 : Int) ≤ (a : Int) by omega) (by omega) h)
      clear hl32
      cases hn : N ⟨s, 1, false, lv + 1, a⟩ (a + 1) with
      | error x =>
        rw [hn] at HNC
        clear hn
        go_enter Tryz.func157, Tryz.ntmps157
        go_wp2_with fail
        go_region_dies
        all_goals
          refine (HNC.out _ (Below.refl W.heap.size W).drew).mono ?_
          rintro en Y ⟨rfl, hb1⟩
          exact ⟨rfl, rfl, (btr (Below.refl W.heap.size W).drew hb1).mono (Nat.le_of_lt HLT.out)⟩
      | ok r =>
        obtain ⟨ps, e⟩ := r
        have hg3 := HGG.out ps e hn
        obtain ⟨hg1, hg2, -⟩ := hg3
        rw [hn] at HNC
        clear hn
        go_enter Tryz.func157, Tryz.ntmps157
        go_wp2_with fail
        go_region_held3 (fun w' => w'.cell? ⟨g, 1, none⟩ = some (.int .i64 a) ∧ Below W.heap.size W w')
          (first | exact ⟨by simpa using c1, (Below.refl _ _).drew⟩ | (go_split_ands; exact ⟨cell_below (btr ‹Below W.heap.size W _› ‹_›) HB.out.cells.2.1, btr ‹Below W.heap.size W _› ‹_›⟩) | go_keep)
          ((go_at_call 165; go_split_ands; have HVV := Lib.hid ‹Below W.heap.size W _›; refine (HNC.out _ HVV.out).mono ?_; rintro en Y ⟨A, cap, rfl, hb1, hrep⟩))
        have HUY := Lib.hid (btr HVV.out hb1)
        have HA2 := Lib.hid (show Calls Tryz.prog 163 #[.pointer (some ⟨g, 0, none⟩), .agg #[.int .i64 3, .string ⟨#[]⟩, .int .i64 0, .bool false, .slice A ps.length cap], .int .i64 ((e : Int) + 1)] Y (fun en Y2 => en = .returned (.tuple #[]) ∧ ScP Y2 g _ _ ∧ Fr g Y Y2) from
          add_any (W := Y) 3 [] 0 false ps A cap (e + 1) (HS.out.below HUY.out) (by show lp.length ≤ 90000; omega) (nest_rep (HS.out.below HVV.out) hb1 3 [] 0 false hrep))
        clear hrep hb1
        have pn0 : (0 : Int) ≤ (ps.length : Int) := by omega
        go_wp2_with fail
        refine HA2.out.mono ?_
        rintro en Y2 ⟨rfl, hs, hf⟩
        go_wp2
        first | go_end0 | refine bodyPost_ret (results_none rfl _ _ _) rfl ?_
        exact ⟨rfl, hs, (Fr.of_below HUY.out HLT.out).trans hf⟩
  rw [if_neg h34]
  by_cases hdv : LX.divides b = true
  · rw [if_pos hdv]
    have hdd : b = 38 ∨ b = 124 ∨ b = 59 ∨ b = 40 ∨ b = 41 ∨ b = 60 ∨ b = 62 ∨ b = 10 ∨ b = 9 ∨ b = 32 := by unfold LX.divides at hdv; exact of_decide_eq_true hdv
    clear hdv h39 h34
    rcases (show op = true ∨ op = false by cases op <;> simp) with rfl | rfl
    · rw [if_pos rfl]
      have HL1 := HL.out (by8 b) 1 W HUE.out (by decide)
      rw [HBY.out] at HL1
      replace HL1 := Lib.hid HL1
      clear HBY
      obtain ⟨u, hu⟩ : ∃ u, by8 b = u := ⟨_, rfl⟩
      rw [hu] at HL1 ⊢
      clear hu
      rcases hdd with rfl | rfl | rfl | rfl | rfl | rfl | rfl | rfl | rfl | rfl
      all_goals
        go_enter Tryz.func157, Tryz.ntmps157
        go_wp2_with fail
        refine HL1.out.mono ?_
        rintro en Y ⟨rfl, hs, hf⟩
        go_wp2
        first | go_end0 | refine bodyPost_ret (results_none rfl _ _ _) rfl ?_
        exact ⟨rfl, hs, hf⟩
    · rw [if_neg (by simp)]
      rcases hdd with rfl | rfl | rfl | rfl | rfl | rfl | rfl | rfl | rfl | rfl
      all_goals
        go_enter Tryz.func157, Tryz.ntmps157
        go_wp2_with fail
        refine (hF.out _ _ _).mono ?_
        rintro en Y ⟨rfl, rfl⟩
        exact ⟨rfl, rfl, HUE.out.mono (Nat.le_of_lt HLT.out)⟩
  rw [if_neg hdv]
  have hnd : ¬ b = 38 ∧ ¬ b = 124 ∧ ¬ b = 59 ∧ ¬ b = 40 ∧ ¬ b = 41 ∧ ¬ b = 60 ∧ ¬ b = 62 ∧ ¬ b = 10 ∧ ¬ b = 9 ∧ ¬ b = 32 := by
    unfold LX.divides at hdv
    simp only [decide_eq_true_eq, not_or] at hdv
    exact hdv
  obtain ⟨n1, n2, n3, n4, n5, n6, n7, n8, n9, n10⟩ := hnd
  clear hdv
  have HL2 := HL.out (by8 b) 1
  rw [HBY.out] at HL2
  replace HL2 := Lib.hid HL2
  by_cases h126 : b = 126
  · subst h126
    cases hti : WP.tilde ⟨s, pl, op, lv, opn⟩ ⟨a, dep, tb, lp⟩ with
    | true =>
      rw [if_pos ⟨rfl, rfl⟩]
      rw [hti] at HTI
      clear hti
      go_enter Tryz.func157, Tryz.ntmps157
      go_wp2_with fail
      refine HTI.out.mono ?_
      rintro en Y ⟨rfl, hbY⟩
      have HUY := Lib.hid hbY
      clear c0 c1 c2 c3 c4 c5 c6 c7 c8 hbY
      obtain ⟨c0, c1, c2, c3, c4, c5, c6, c7, c8⟩ := (HB.out.kept (HUY.out.block g HLT.out)).cells
      have HA2 := Lib.hid (show Calls Tryz.prog 163 #[.pointer (some ⟨g, 0, none⟩), .agg #[.int .i64 7, .string ⟨#[]⟩, .int .i64 0, .bool false, .slice none 0 0], .int .i64 ((a : Int) + 1)] Y (Out Y g _ _) from HA.out 7 [] (a + 1) _ HUY.out)
      go_wp2_with fail
      refine HA2.out.mono ?_
      rintro en Y2 ⟨rfl, hs, hf⟩
      go_wp2
      first | go_end0 | refine bodyPost_ret (results_none rfl _ _ _) rfl ?_
      exact ⟨rfl, hs, (Fr.of_below HUY.out HLT.out).trans hf⟩
    | false =>
      rw [if_neg (fun e => by cases e.2)]
      rw [hti] at HTI
      clear hti
      go_enter Tryz.func157, Tryz.ntmps157
      go_wp2_with fail
      refine HTI.out.mono ?_
      rintro en Y ⟨rfl, hbY⟩
      have HUY := Lib.hid hbY
      have HL3 := Lib.hid (HL2.out Y HUY.out (by decide))
      clear hbY
      go_wp2_with fail
      refine HL3.out.mono ?_
      rintro en Y2 ⟨rfl, hs, hf⟩
      go_wp2
      first | go_end0 | refine bodyPost_ret (results_none rfl _ _ _) rfl ?_
      exact ⟨rfl, hs, (Fr.of_below HUY.out HLT.out).trans hf⟩
  · rw [if_neg (fun e => h126 e.1)]
    have HL3 := Lib.hid (HL2.out W HUE.out (by decide))
    go_enter Tryz.func157, Tryz.ntmps157
    go_wp2_with fail
    refine HL3.out.mono ?_
    rintro en Y2 ⟨rfl, hs, hf⟩
    go_wp2
    first | go_end0 | refine bodyPost_ret (results_none rfl _ _ _) rfl ?_
    exact ⟨rfl, hs, hf⟩
end
end W
end Go.Proofs.YtcbdhheelddgeaaGreatDoor
namespace Go.Proofs.YtcbdhheelddgeaaGreatDoor
open Go.RowKit K
namespace WP
theorem unq_len : ∀ (n : Nat) (t : Str), t.length ≤ n → (unq t).length ≤ t.length
  | _, [], _ => Nat.le_refl _
  | _, [x], _ => Nat.le_refl _
  | 0, x :: y :: r, h => by simp at h
  | n + 1, x :: y :: r, h => by
    rw [unq]
    split
    · have := unq_len n r (by simp at h; omega); simp; omega
    · have := unq_len n (y :: r) (by simp at h ⊢; omega); simp at this ⊢; omega
theorem unq_esc {y : UInt8} {r : Str} (h : y = 96 ∨ y = 92 ∨ y = 36) : unq (92 :: y :: r) = y :: unq r := by rw [unq, if_pos ⟨rfl, h⟩]
theorem unq_plain {x : UInt8} {r : Str} (h : x = 92 → ∀ y q, r = y :: q → ¬ (y = 96 ∨ y = 92 ∨ y = 36)) : unq (x :: r) = x :: unq r := by
  cases r with
  | nil => rfl
  | cons y q => rw [unq, if_neg (fun e => h e.1 y q rfl e.2)]
theorem esc_index (y : UInt8) : 0 ≤ Lib.indexByte [96, 92, 36] y ↔ y = 96 ∨ y = 92 ∨ y = 36 := by
  have := Lib.contains_iff_indexByte [96, 92, 36] y
  rw [Bool.eq_iff_iff, decide_eq_true_eq] at this
  rw [← this]
  simp
theorem bqText_len (t : Str) : (bqText t).length ≤ t.length + 1 := by unfold bqText; split <;> simp
end WP
namespace W
section
variable {W : World} {g : Nat} {c : WP.Ctx} {st : WP.St}
set_option maxRecDepth 100000 in
set_option maxHeartbeats 4000000 in
theorem backquoted_any (h : ScP W g c st) (hi : WP.Inv c st) (ha : st.a < c.s.length) (hb96 : bt c.s st.a = 96) (hl : c.s.length ≤ 20000) :
    Calls Tryz.prog 156 #[.pointer (some ⟨g, 0, none⟩)] W (Out W g c (WP.backquoted c st)) := by
  have HS := Lib.hid h
  have HLT := Lib.hid h.lt
  have hsum := hi.sum
  have hF := Lib.hid (fun (x y : Int) (V : World) => fail_any x y V)
  have HA := Lib.hid (fun (k : Nat) (t : List UInt8) (m : Nat) (V : World) (hV : Below W.heap.size W V) => add0 (W := V) k t 0 false m (HS.out.below hV) (by omega))
  have HCL := Lib.hid (close_any h (by omega))
  obtain ⟨tx, ls, hb⟩ := h.box
  have HB := Lib.hid hb
  have HR := Lib.hid (show WP.backquoted c st = match WP.cls c.s st.a with
    | .error e => .error e
    | .ok e =>
      if WP.subst (WP.bqText (WP.unq (cut c.s (st.a + 1) (e - 1)))) = true then .ok (WP.add (.mk 5 (WP.bqText (WP.unq (cut c.s (st.a + 1) (e - 1)))) 0 false []) e st)
      else if WP.subst (WP.bqText (WP.unq (cut c.s (st.a + 1) (e - 1))) ++ [10]) = true then .ok (WP.add (.mk 5 (WP.bqText (WP.unq (cut c.s (st.a + 1) (e - 1))) ++ [10]) 0 false []) e st)
      else .error (st.a, 6) from rfl)
  obtain ⟨i0, hi0, hz0, hz1, hz2⟩ := info_parts infoByte
  have hcv0 : ∀ w : World, (convert 122 9 (.slice none 0 0)).run Tryz.prog w = .ok (.string ⟨#[]⟩) w := fun _ => by kernel_rfl
  have HCV := Lib.hid hcv0
  clear h hcv0
  obtain ⟨s, pl, op, lv, opn⟩ := c
  obtain ⟨a, dep, tb, lp⟩ := st
  dsimp only at HS HA HB HR HCL ha hl hsum hb96 ⊢
  clear hb
  rw [show WP.backquoted _ _ = _ from HR.out]
  clear HR
  cases hcl : WP.cls s a with
  | error x =>
    rw [hcl] at HCL
    clear hcl
    go_enter Tryz.func156, Tryz.ntmps156
    go_wp2_with fail
    refine HCL.out.mono ?_
    rintro e Y ⟨rfl, hbY⟩
    exact ⟨rfl, rfl, hbY.mono (Nat.le_of_lt HLT.out)⟩
  | ok e =>
    dsimp only
    rw [hcl] at HCL
    obtain ⟨he1, he2⟩ := WP.cls_le hcl
    have he3 := LX.close_back hb96 he1
    clear hcl he1 hb96
    have s1 : IntKind.i64.wrap ((e : Int) - 1) = (e : Int) - 1 := IntWalk.i64_in _ (by omega)
    have s2 : (0 : Int) ≤ (e : Int) - 1 := by omega
    have s3 : ((e : Int) - 1).toNat = e - 1 := by omega
    have s4 : ((a : Int) + 1 ≤ (e : Int) - 1) = True := eq_true (by omega)
    have s5 : ((e : Int) - 1 ≤ (s.length : Int)) = True := eq_true (by omega)
    have w1 : IntKind.i64.wrap ((a : Int) + 1) = (a : Int) + 1 := IntWalk.i64_in _ (by omega)
    have a4 : (0 : Int) ≤ (a : Int) + 1 := by omega
    have a2 : ((a : Int) + 1).toNat = a + 1 := by omega
    obtain ⟨t, ht⟩ : ∃ t, cut s (a + 1) (e - 1) = t := ⟨_, rfl⟩
    have htl : t.length ≤ 20000 := by rw [← ht, cut_length]; omega
    have HTC := Lib.hid ht
    rw [ht]
    have hul := WP.unq_len t.length t (Nat.le_refl _)
    obtain ⟨u, hu⟩ : ∃ u, WP.unq t = u := ⟨_, rfl⟩
    have HU0 := Lib.hid hu
    rw [hu] at hul ⊢
    have hql := WP.bqText_len u
    obtain ⟨q, hq⟩ : ∃ q, WP.bqText u = q := ⟨_, rfl⟩
    have HQ := Lib.hid (show q = if Lib.hasPrefix u [40] = true then 32 :: u else u from hq.symm)
    rw [hq] at hql ⊢
    have HP := Lib.hid (fun V => lx_HasPrefix u [40] V)
    have HS1 := Lib.hid (fun V => substitution_any q V (by omega))
    have HS2 := Lib.hid (fun V => substitution_any (q ++ [10]) V (by simp; omega))
    obtain ⟨R, hR⟩ : ∃ R : Except WP.Flt WP.St, (if WP.subst q = true then .ok (WP.add (.mk 5 q 0 false []) e ⟨a, dep, tb, lp⟩) else if WP.subst (q ++ [10]) = true then .ok (WP.add (.mk 5 (q ++ [10]) 0 false []) e ⟨a, dep, tb, lp⟩) else .error ((a : Int), 6)) = R := ⟨_, rfl⟩
    rw [hR]
    have HRR := Lib.hid hR
    clear ht hu hq hR
    go_enter Tryz.func156, Tryz.ntmps156
    go_wp2_with fail
    refine HCL.out.mono ?_
    rintro en Y ⟨rfl, hbY⟩
    have HUY := Lib.hid hbY
    clear hbY
    obtain ⟨c0, c1, c2, c3, c4, c5, c6, c7, c8⟩ := (HB.out.kept (HUY.out.block g HLT.out)).cells
    go_wp2_with fail
    go_quiet (fail)
    have HUU := Lib.hid (bdN HUY.out nq)
    generalize Y.drewN nq = U at HUU ⊢
    clear c0 c1 c2 c3 c4 c5 c6 c7 c8
    rw [HTC.out]
    clear s1 s2 s3 s4 s5 w1 a4 a2
    go_wp2
    go_loopw [4, 5] (fun v x wr => ∃ (i : Nat) (out : List UInt8), x = .int .i64 i ∧ i ≤ t.length ∧ out.length ≤ i ∧ Hid (wr.ownsRow U.heap.size 5 1 v out.length (Lib.byteCells out)) ∧ Hid (out ++ WP.unq (t.drop i) = u) ∧ Hid (Below U.heap.size U wr)) (fun _ x _ => t.length - (intOf x).toNat)
    case atStart => exact ⟨0, [], rfl, Nat.zero_le _, Nat.le_refl _, ⟨rfl, .inl ⟨rfl, rfl⟩⟩, by show _ = _; rw [List.nil_append, List.drop_zero, HU0.out], Below.refl _ _⟩
    case round =>
      obtain ⟨i, out, hxi, hin, hout, HO, HN, HBL⟩ := hrel
      subst hxi
      by_cases hlt : i < t.length
      · obtain ⟨x, hx, hbx, _⟩ := drop_cons t i hlt
        obtain ⟨A, cap, hv⟩ := row_val HO.out
        subst hv
        have hwz := HBL.out.size
        have hbl : (Lib.byteCells out).length ≤ 100000 := by rw [Lib.byteCells_length]; omega
        by_cases hesc : x = 92 ∧ ∃ y r, t.drop (i + 1) = y :: r ∧ (y = 96 ∨ y = 92 ∨ y = 36)
        · obtain ⟨rfl, y, r, hy, hyy⟩ := hesc
          obtain ⟨y1, y2, y3⟩ := LX.drop_head hy
          have HN2 := Lib.hid (show (out ++ [y]) ++ WP.unq (t.drop (i + 2)) = u by
            rw [← HN.out, hx, hy, WP.unq_esc hyy, show i + 2 = i + 1 + 1 by rfl, y3]
            simp)
          have hc92 : bt t i = 92 := hbx
          have HIX := Lib.hid (fun V => show Calls Tryz.prog 59 #[.string ⟨#[96, 92, 36]⟩, .int .u8 (bt t (i + 1))] V fun e w' => e = .returned (.int .i64 (Lib.indexByte [96, 92, 36] y)) ∧ V = w' from by
            have := lx_IndexByte [96, 92, 36] (bt t (i + 1)) V
            rw [y2] at this
            rw [y2]
            simpa using this)
          have x1 := (WP.esc_index y).2 hyy
          generalize Lib.indexByte [96, 92, 36] y = ix at HIX x1
          have HBX := Lib.hid y2
          have i1 : ((i : Int) + 1 < (t.length : Int)) = True := eq_true (by omega)
          have i2 : ((i : Int) + 1).toNat = i + 1 := by omega
          clear hx hbx hy y2 y3 hyy
          go_wp2_with (first | (go_at_call 59; refine (HIX.out _).mono ?_; rintro e w' ⟨rfl, rfl⟩) | (at_builtin; refine wpList_append_own _ rfl _ _ 122 rfl U.heap.size 5 i0 (.int .u8 0) 1 1 Tryz.underlying122 hi0 hz0 hz1 hz2 rfl (by decide) _ _ _ rfl (HO.out.alloc _) ⟨wr.heap.size, 0, none⟩ 1 1 [.int .u8 (bt t (i + 1))] rfl rfl (one_cells wr _ _) (by intro u hu; simp at hu; subst hu; rfl) (by unfold maxLen; omega) (by omega) (by simp; omega) ?_))
          intro v' w2 hown' hgrow _
          have HO2 := Lib.hid (show w2.ownsRow U.heap.size 5 1 v' (out ++ [y]).length (Lib.byteCells (out ++ [y])) by
            rw [List.length_append, Lib.byteCells_append]
            rw [HBX.out] at hown'
            exact hown')
          have HB2 := Lib.hid (show Below U.heap.size U w2 from (HBL.out.alloc hwz _).grown hgrow (by simp; omega) (fun k hk => (HO.out.lt k hk).1))
          clear hown' hgrow
          go_wp2
          go_roundw
          case rel => exact ⟨i + 2, out ++ [y], by go_num, by omega, by simp; omega, HO2.out, HN2.out, HB2.out⟩
          case measure => simp [intOf]; omega
        · have HN2 := Lib.hid (show (out ++ [x]) ++ WP.unq (t.drop (i + 1)) = u by
            rw [← HN.out, hx, WP.unq_plain (fun h92 y q hq hh => hesc ⟨h92, y, q, hq, hh⟩)]
            simp)
          have HBX := Lib.hid hbx
          have HES := Lib.hid hesc
          have HIX := Lib.hid (fun V => lx_IndexByte [96, 92, 36] (bt t (i + 1)) V)
          by_cases h92 : bt t i = 92
          · have hx92 : x = 92 := UInt8.toNat_inj.1 (by have := HBX.out; rw [h92] at this; show x.toNat = 92; omega)
            by_cases hi1 : i + 1 < t.length
            · obtain ⟨y, hy, hby, _⟩ := drop_cons t (i + 1) hi1
              have i1 : ((i : Int) + 1 < (t.length : Int)) = True := eq_true (by omega)
              have i2 : ((i : Int) + 1).toNat = i + 1 := by omega
              have hny : ¬ 0 ≤ Lib.indexByte [96, 92, 36] (bt t (i + 1)).toNat.toUInt8 := by
                rw [hby, show ((y.toNat : Int)).toNat.toUInt8 = y by simp, WP.esc_index]
                exact fun hh => HES.out ⟨hx92, y, _, hy, hh⟩
              generalize Lib.indexByte [96, 92, 36] (bt t (i + 1)).toNat.toUInt8 = ix at HIX hny
              have x1 : ¬ 0 ≤ ix := hny
              have HB92 := Lib.hid h92
              clear hesc hx hbx hy hby hny hx92
              go_wp2_with (first | (go_at_call 59; refine (HIX.out _).mono ?_; rintro e w' ⟨rfl, rfl⟩) | (at_builtin; refine wpList_append_own _ rfl _ _ 122 rfl U.heap.size 5 i0 (.int .u8 0) 1 1 Tryz.underlying122 hi0 hz0 hz1 hz2 rfl (by decide) _ _ _ rfl (HO.out.alloc _) ⟨wr.heap.size, 0, none⟩ 1 1 [.int .u8 (92)] rfl rfl (one_cells wr _ _) (by intro u hu; simp at hu; subst hu; rfl) (by unfold maxLen; omega) (by omega) (by simp; omega) ?_))
              intro v' w2 hown' hgrow _
              have HO2 := Lib.hid (show w2.ownsRow U.heap.size 5 1 v' (out ++ [x]).length (Lib.byteCells (out ++ [x])) by
                rw [List.length_append, Lib.byteCells_append]
                rw [show (92 : Int) = (x.toNat : Int) from HB92.out.symm.trans HBX.out] at hown'
                exact hown')
              have HB2 := Lib.hid (show Below U.heap.size U w2 from (HBL.out.alloc hwz _).grown hgrow (by simp; omega) (fun k hk => (HO.out.lt k hk).1))
              clear hown' hgrow
              go_wp2
              go_roundw
              case rel => exact ⟨i + 1, out ++ [x], by go_num, by omega, by simp; omega, HO2.out, HN2.out, HB2.out⟩
              case measure => simp [intOf]; omega
            · have i1 : ((i : Int) + 1 < (t.length : Int)) = False := eq_false (by omega)
              have HB92 := Lib.hid h92
              clear hesc hx hbx hx92
              go_wp2_with (first | (go_at_call 59; refine (HIX.out _).mono ?_; rintro e w' ⟨rfl, rfl⟩) | (at_builtin; refine wpList_append_own _ rfl _ _ 122 rfl U.heap.size 5 i0 (.int .u8 0) 1 1 Tryz.underlying122 hi0 hz0 hz1 hz2 rfl (by decide) _ _ _ rfl (HO.out.alloc _) ⟨wr.heap.size, 0, none⟩ 1 1 [.int .u8 (92)] rfl rfl (one_cells wr _ _) (by intro u hu; simp at hu; subst hu; rfl) (by unfold maxLen; omega) (by omega) (by simp; omega) ?_))
              intro v' w2 hown' hgrow _
              have HO2 := Lib.hid (show w2.ownsRow U.heap.size 5 1 v' (out ++ [x]).length (Lib.byteCells (out ++ [x])) by
                rw [List.length_append, Lib.byteCells_append]
                rw [show (92 : Int) = (x.toNat : Int) from HB92.out.symm.trans HBX.out] at hown'
                exact hown')
              have HB2 := Lib.hid (show Below U.heap.size U w2 from (HBL.out.alloc hwz _).grown hgrow (by simp; omega) (fun k hk => (HO.out.lt k hk).1))
              clear hown' hgrow
              go_wp2
              go_roundw
              case rel => exact ⟨i + 1, out ++ [x], by go_num, by omega, by simp; omega, HO2.out, HN2.out, HB2.out⟩
              case measure => simp [intOf]; omega
          · have e92 := beq_f h92
            clear hesc hx hbx
            go_wp2_with (first | (go_at_call 59; refine (HIX.out _).mono ?_; rintro e w' ⟨rfl, rfl⟩) | (at_builtin; refine wpList_append_own _ rfl _ _ 122 rfl U.heap.size 5 i0 (.int .u8 0) 1 1 Tryz.underlying122 hi0 hz0 hz1 hz2 rfl (by decide) _ _ _ rfl (HO.out.alloc _) ⟨wr.heap.size, 0, none⟩ 1 1 [.int .u8 (bt t i)] rfl rfl (one_cells wr _ _) (by intro u hu; simp at hu; subst hu; rfl) (by unfold maxLen; omega) (by omega) (by simp; omega) ?_))
            intro v' w2 hown' hgrow _
            have HO2 := Lib.hid (show w2.ownsRow U.heap.size 5 1 v' (out ++ [x]).length (Lib.byteCells (out ++ [x])) by
              rw [List.length_append, Lib.byteCells_append]
              rw [HBX.out] at hown'
              exact hown')
            have HB2 := Lib.hid (show Below U.heap.size U w2 from (HBL.out.alloc hwz _).grown hgrow (by simp; omega) (fun k hk => (HO.out.lt k hk).1))
            clear hown' hgrow
            go_wp2
            go_roundw
            case rel => exact ⟨i + 1, out ++ [x], by go_num, by omega, by simp; omega, HO2.out, HN2.out, HB2.out⟩
            case measure => simp [intOf]; omega
      · have hout2 : out = u := by rw [← HN.out, List.drop_eq_nil_of_le (by omega)]; simp [WP.unq]
        subst hout2
        clear HN
        have HO3 := HO.out
        have HCC := Lib.hid (show ∃ A cap, u4 = Value.slice A out.length cap ∧ ∀ V : World, Below wr.heap.size wr V → (convert 122 9 (.slice A out.length cap)).run Tryz.prog V = .ok (.string ⟨out.toArray⟩) V from by
          rcases HO3.2 with ⟨h1, h2⟩ | ⟨r, cap, cur, hv, _⟩
          · obtain rfl := List.eq_nil_of_length_eq_zero h2
            exact ⟨none, 0, h1, fun V _ => HCV.out V⟩
          · subst hv
            exact ⟨some ⟨r, 0, none⟩, cap, rfl, fun V hV => run_convert_bytes_back (P := Tryz.prog) V 122 9 5 ⟨r, 0, none⟩ cap out Tryz.underlying122 Tryz.underlying5 Tryz.underlying9 (fun j hj => (row_below HO3 hV).cells (g := r) rfl j _ (by simp [Lib.byteCells, hj]))⟩)
        obtain ⟨A, cap, hA, hcc⟩ := HCC.out
        subst hA
        have hc1 := hcc wr (Below.refl _ _)
        have HWU := Lib.hid (btr HUU.out HBL.out)
        have HADD := Lib.hid (fun (x : List UInt8) V (hV : Below W.heap.size W V) => show Calls Tryz.prog 163 #[.pointer (some ⟨g, 0, none⟩), .agg #[.int .i64 5, .string ⟨x.toArray⟩, .int .i64 0, .bool false, .slice none 0 0], .int .i64 e] V (Out V g _ _) from HA.out 5 x e V hV)
        have HCELL := Lib.hid (fun V (hV : Below W.heap.size W V) => (HB.out.kept (hV.block g HLT.out)).cells.2.1)
        clear hcc HO HO3
        have hpp : (q = 32 :: out ∧ Lib.hasPrefix out [40] = true) ∨ (q = out ∧ Lib.hasPrefix out [40] = false) := by
          cases h : Lib.hasPrefix out [40] with
          | true => left; have := HQ.out; rw [h, if_pos rfl] at this; exact ⟨this, rfl⟩
          | false => right; have := HQ.out; rw [h, if_neg (by simp)] at this; exact ⟨this, rfl⟩
        rcases hpp with ⟨hq, hp⟩ | ⟨hq, hp⟩
        all_goals
          rw [hp] at HP
          clear HQ hp
          subst hq
          go_wp2_with fail
          refine (HP.out _).mono ?_
          rintro en w1 ⟨rfl, rfl⟩
          go_wp2_with fail
          refine (HS1.out _).mono ?_
          rintro en w2 ⟨rfl, hb2⟩
          have HB2 := Lib.hid (btr HWU.out hb2)
          clear hb2 hc1
        all_goals
          have hsb : ∀ b : Bool, b = true ∨ b = false := fun b => by cases b <;> simp
        · rcases hsb (WP.subst (32 :: out)) with hs1 | hs1
          · have HR1 := HRR.out
            rw [if_pos hs1] at HR1
            subst HR1
            rw [hs1]
            clear hs1 HRR hsb
            go_wp2_with fail
            refine (HADD.out _ _ HB2.out).mono ?_
            rintro en Y2 ⟨rfl, hs, hf⟩
            go_wp2
            first | go_end0 | refine bodyPost_ret (results_none rfl _ _ _) rfl ?_
            exact ⟨rfl, hs, (Fr.of_below HB2.out HLT.out).trans hf⟩
          · have HR1 := HRR.out
            rw [if_neg (by rw [hs1]; simp)] at HR1
            rw [hs1]
            have HS3 := Lib.hid (fun V => show Calls Tryz.prog 171 #[.string ⟨(32 :: (out ++ [10])).toArray⟩] V fun e w' => e = .returned (.bool (WP.subst (32 :: out ++ [10]))) ∧ Below V.heap.size V w' from HS2.out V)
            clear hs1 HRR
            rcases hsb (WP.subst (32 :: out ++ [10])) with hs2 | hs2
            · rw [if_pos hs2] at HR1
              subst HR1
              rw [hs2] at HS3
              clear hs2 hsb
              go_wp2_with fail
              refine (HS3.out _).mono ?_
              rintro en w3 ⟨rfl, hb3⟩
              have HB3 := Lib.hid (btr HB2.out hb3)
              clear hb3
              go_wp2_with fail
              have HA3 := Lib.hid (show Calls Tryz.prog 163 #[.pointer (some ⟨g, 0, none⟩), .agg #[.int .i64 5, .string ⟨(32 :: (out ++ [10])).toArray⟩, .int .i64 0, .bool false, .slice none 0 0], .int .i64 e] w3 (Out w3 g ⟨s, pl, op, lv, opn⟩ (.ok (WP.add (.mk 5 (32 :: out ++ [10]) 0 false []) e ⟨a, dep, tb, lp⟩))) from HADD.out (32 :: out ++ [10]) _ HB3.out)
              refine HA3.out.mono ?_
              rintro en Y2 ⟨rfl, hs, hf⟩
              go_wp2
              first | go_end0 | refine bodyPost_ret (results_none rfl _ _ _) rfl ?_
              exact ⟨rfl, hs, (Fr.of_below HB3.out HLT.out).trans hf⟩
            · rw [if_neg (by rw [hs2]; simp)] at HR1
              subst HR1
              rw [hs2] at HS3
              clear hs2 hsb
              go_wp2_with fail
              refine (HS3.out _).mono ?_
              rintro en w3 ⟨rfl, hb3⟩
              have HB3 := Lib.hid (btr HB2.out hb3)
              have c1 := HCELL.out _ HB3.out
              clear hb3
              go_wp2_with fail
              refine (hF.out _ _ _).mono ?_
              rintro en Y2 ⟨rfl, rfl⟩
              exact ⟨rfl, rfl, HB3.out.mono (Nat.le_of_lt HLT.out)⟩
        · rcases hsb (WP.subst (q)) with hs1 | hs1
          · have HR1 := HRR.out
            rw [if_pos hs1] at HR1
            subst HR1
            rw [hs1]
            clear hs1 HRR hsb
            go_wp2_with fail
            refine (HADD.out _ _ HB2.out).mono ?_
            rintro en Y2 ⟨rfl, hs, hf⟩
            go_wp2
            first | go_end0 | refine bodyPost_ret (results_none rfl _ _ _) rfl ?_
            exact ⟨rfl, hs, (Fr.of_below HB2.out HLT.out).trans hf⟩
          · have HR1 := HRR.out
            rw [if_neg (by rw [hs1]; simp)] at HR1
            rw [hs1]
            have HS3 := HS2
            clear hs1 HRR
            rcases hsb (WP.subst (q ++ [10])) with hs2 | hs2
            · rw [if_pos hs2] at HR1
              subst HR1
              rw [hs2] at HS3
              clear hs2 hsb
              go_wp2_with fail
              refine (HS3.out _).mono ?_
              rintro en w3 ⟨rfl, hb3⟩
              have HB3 := Lib.hid (btr HB2.out hb3)
              clear hb3
              go_wp2_with fail
              have HA3 := Lib.hid (HADD.out (q ++ [10]) _ HB3.out)
              refine HA3.out.mono ?_
              rintro en Y2 ⟨rfl, hs, hf⟩
              go_wp2
              first | go_end0 | refine bodyPost_ret (results_none rfl _ _ _) rfl ?_
              exact ⟨rfl, hs, (Fr.of_below HB3.out HLT.out).trans hf⟩
            · rw [if_neg (by rw [hs2]; simp)] at HR1
              subst HR1
              rw [hs2] at HS3
              clear hs2 hsb
              go_wp2_with fail
              refine (HS3.out _).mono ?_
              rintro en w3 ⟨rfl, hb3⟩
              have HB3 := Lib.hid (btr HB2.out hb3)
              have c1 := HCELL.out _ HB3.out
              clear hb3
              go_wp2_with fail
              refine (hF.out _ _ _).mono ?_
              rintro en Y2 ⟨rfl, rfl⟩
              exact ⟨rfl, rfl, HB3.out.mono (Nat.le_of_lt HLT.out)⟩
end
end W
end Go.Proofs.YtcbdhheelddgeaaGreatDoor
namespace Go.Proofs.YtcbdhheelddgeaaGreatDoor
open Go.RowKit K
namespace W
/-- What braced gives: a part over new memory and the offset after it, or an error. -/
def BrOut (W : World) : Except WP.Flt (WP.Part × Nat) → Ending → World → Prop
  | .ok (p, e), en, W' => ∃ (k : Nat) (t : List UInt8) (o : Nat) (b : Bool) (ps : List WP.Part) (A : Option Addr) (cap : Nat), p = .mk k t o b ps ∧ en = .returned (.tuple #[.agg #[.int .i64 k, .string ⟨t.toArray⟩, .int .i64 o, .bool b, .slice A ps.length cap], .int .i64 e]) ∧ Below W.heap.size W W' ∧
      (ps = [] ∨ ∃ b cells, A = some ⟨b, 0, none⟩ ∧ W.heap.size ≤ b ∧ LRep W' (fun b => W.heap.size ≤ b) ps cells ∧ ∀ j u, cells[j]? = some u → W'.cell? ⟨b, j, none⟩ = some u)
  | .error f, en, W' => en = .panicked (faultP f) ∧ Below W.heap.size W W'
def BracedC (s : List UInt8) (lo : Nat) (N : WP.Nest) : Prop := ∀ (W : World) (g : Nat) (c : WP.Ctx) (st : WP.St), c.s = s → lo ≤ st.a → c.lv ≤ 32 → st.a + 2 ≤ s.length → ScP W g c st →
  Calls Tryz.prog 167 #[.pointer (some ⟨g, 0, none⟩)] W (BrOut W (WP.braced N c st))
theorem rep_more {W W' W2 : World} {ps : List WP.Part} {A : Option Addr} (hb : Below W'.heap.size W' W2)
    (hr : ps = [] ∨ ∃ b cells, A = some ⟨b, 0, none⟩ ∧ W.heap.size ≤ b ∧ LRep W' (fun b => W.heap.size ≤ b) ps cells ∧ ∀ j u, cells[j]? = some u → W'.cell? ⟨b, j, none⟩ = some u) :
    ps = [] ∨ ∃ b cells, A = some ⟨b, 0, none⟩ ∧ W.heap.size ≤ b ∧ LRep W2 (fun b => W.heap.size ≤ b) ps cells ∧ ∀ j u, cells[j]? = some u → W2.cell? ⟨b, j, none⟩ = some u := by
  rcases hr with h | ⟨b, cells, h1, h2, h3, h4⟩
  · exact .inl h
  · exact .inr ⟨b, cells, h1, h2, LRep.mono (fun x hx hl => ⟨hx, hb.block x hl⟩) ps cells h3, fun j u hj => cell_below hb (h4 j u hj)⟩
section
variable {W : World} {g : Nat} {c : WP.Ctx} {st : WP.St}
set_option maxRecDepth 100000 in
set_option maxHeartbeats 8000000 in
/-- A dollar before a parenthesis or a brace. -/
theorem dollar_open {N : WP.Nest} (hN : NestC c.s (st.a + 1) N) (hBR : BracedC c.s st.a N) (hgn : WP.GoodN c.s N) (h : ScP W g c st) (hi : WP.Inv c st) (ha : st.a < c.s.length) (hb36 : bt c.s st.a = 36) (hl : c.s.length ≤ 20000) (hlv : c.lv ≤ 32)
    (hop : Lib.hasPrefix (c.s.drop (st.a + 1)) [40, 40] = true ∨ Lib.hasPrefix (c.s.drop (st.a + 1)) [40] = true ∨ Lib.hasPrefix (c.s.drop (st.a + 1)) [123] = true) :
    Calls Tryz.prog 155 #[.pointer (some ⟨g, 0, none⟩)] W (Out W g c (WP.dollar N c st)) := by
  have HS := Lib.hid h
  have HLT := Lib.hid h.lt
  have hsum := hi.sum
  have HUE := Lib.hid (Below.refl W.heap.size W)
  have hF := Lib.hid (fun (x y : Int) (V : World) => fail_any x y V)
  have HA := Lib.hid (fun (k : Nat) (t : List UInt8) (m : Nat) (V : World) (hV : Below W.heap.size W V) => add0 (W := V) k t 0 false m (HS.out.below hV) (by omega))
  have HCL := Lib.hid (fun V (hV : Below W.heap.size W V) => close_any (HS.out.below hV) (by omega))
  have HN := Lib.hid hN
  have HBR := Lib.hid hBR
  have HGN := Lib.hid hgn
  obtain ⟨tx, ls, hb⟩ := h.box
  have HB := Lib.hid hb
  have HR := Lib.hid (show WP.dollar N c st = if Lib.hasPrefix (c.s.drop (st.a + 1)) [40, 40] = true then
      if c.lv = 32 then .error (st.a, 5)
      else match N ⟨c.s, 2, false, c.lv + 1, st.a⟩ (st.a + 3) with
        | .error x => .error x
        | .ok (ps, e) => .ok (WP.add (.mk 6 [] 0 false ps) (e + 2) st)
    else if Lib.hasPrefix (c.s.drop (st.a + 1)) [40] = true then
      match WP.cls c.s st.a with
      | .error x => .error x
      | .ok e => .ok (WP.add (.mk 5 (cut c.s (st.a + 2) (e - 1)) 0 false []) e st)
    else if Lib.hasPrefix (c.s.drop (st.a + 1)) [123] = true then
      match WP.braced N c st with
      | .error x => .error x
      | .ok (p, e) => .ok (WP.add p e st)
    else WP.dollar N c st by
      by_cases h1 : Lib.hasPrefix (c.s.drop (st.a + 1)) [40, 40] = true
      · rw [if_pos h1]; conv => lhs; unfold WP.dollar
        rw [if_pos h1]; rfl
      · rw [if_neg h1]
        by_cases h2 : Lib.hasPrefix (c.s.drop (st.a + 1)) [40] = true
        · rw [if_pos h2]; conv => lhs; unfold WP.dollar
          rw [if_neg h1, if_pos h2]; rfl
        · rw [if_neg h2]
          by_cases h3 : Lib.hasPrefix (c.s.drop (st.a + 1)) [123] = true
          · rw [if_pos h3]; conv => lhs; unfold WP.dollar
            rw [if_neg h1, if_neg h2, if_pos h3]; rfl
          · rw [if_neg h3])
  clear h hN hgn hBR
  obtain ⟨s, pl, op, lv, opn⟩ := c
  obtain ⟨a, dep, tb, lp⟩ := st
  dsimp only at HS HA HB HR HCL HN HBR HGN ha hl hsum hlv hb36 hop ⊢
  obtain ⟨c0, c1, c2, c3, c4, c5, c6, c7, c8⟩ := HB.out.cells
  clear hb
  have w1 : IntKind.i64.wrap ((a : Int) + 1) = (a : Int) + 1 := IntWalk.i64_in _ (by omega)
  have a0 : (0 : Int) ≤ (a : Int) := by omega
  have a4 : (0 : Int) ≤ (a : Int) + 1 := by omega
  have a2 : ((a : Int) + 1).toNat = a + 1 := by omega
  have a3 : ((a : Int) + 1 ≤ (s.length : Int)) = True := eq_true (by omega)
  have HP40 := Lib.hid (fun V => lx_HasPrefix (s.drop (a + 1)) [40, 40] V)
  have HP4 := Lib.hid (fun V => lx_HasPrefix (s.drop (a + 1)) [40] V)
  have HP1 := Lib.hid (fun V => lx_HasPrefix (s.drop (a + 1)) [123] V)
  rw [show WP.dollar N _ _ = _ from HR.out]
  clear HR
  cases h40 : Lib.hasPrefix (s.drop (a + 1)) [40, 40] with
  | true =>
    rw [if_pos rfl]
    obtain ⟨r, hr⟩ := LX.has2 h40
    have d1 := LX.drop_head hr
    have d2 := LX.drop_head d1.2.2
    have hd3 : a + 3 ≤ s.length := by have := d2.1; omega
    rw [h40] at HP40
    clear hop hr d1 d2 h40 r
    by_cases hl32 : lv = 32
    · rw [if_pos hl32]
      subst hl32
      go_enter Tryz.func155, Tryz.ntmps155
      go_wp2_with fail
      go_quiet (fail)
      rw [cut_end]
      have HUU := Lib.hid (bdN HUE.out nq)
      generalize W.drewN nq = U at HUU ⊢
      clear c0 c1 c2 c3 c4 c5 c6 c7 c8
      obtain ⟨c0, c1, c2, c3, c4, c5, c6, c7, c8⟩ := (HB.out.kept (HUU.out.block g HLT.out)).cells
      go_wp2_with fail
      refine (HP40.out _).mono ?_
      rintro en w1 ⟨rfl, rfl⟩
      go_wp2_with fail
      refine (hF.out _ _ _).mono ?_
      rintro en Y ⟨rfl, rfl⟩
      exact ⟨rfl, rfl, HUU.out.mono (Nat.le_of_lt HLT.out)⟩
    · rw [if_neg hl32]
      have l32 : ((lv : Int) == 32) = false := by rw [beq_eq_false_iff_ne]; omega
      have w3 : IntKind.i64.wrap ((a : Int) + 3) = (a : Int) + 3 := IntWalk.i64_in _ (by omega)
      have HNC := Lib.hid (fun (V : World) (hV : Below W.heap.size W V) => show Calls Tryz.prog 165 #[.pointer (some ⟨g, 0, none⟩), .int .i64 ((a : Int) + 3), .int .i64 a, .int .i64 2, .bool false] V (NestOut V (N ⟨s, 2, false, lv + 1, a⟩ (a + 3))) from HN.out V g ⟨s, pl, op, lv, opn⟩ ⟨a, dep, tb, lp⟩ (a + 3) a 2 false rfl (by show lv ≤ 31; omega) (by omega) hd3 (by omega) (HS.out.below hV))
      have HGG := Lib.hid (fun ps e h => HGN.out ⟨s, 2, false, lv + 1, a⟩ (a + 3) ps e rfl (show (0 : Int) ≤ (a : Int) by omega) hd3 h)
      clear hl32
      cases hn : N ⟨s, 2, false, lv + 1, a⟩ (a + 3) with
      | error x =>
        rw [hn] at HNC
        clear hn
        go_enter Tryz.func155, Tryz.ntmps155
        go_wp2_with fail
        go_quiet (fail)
        rw [cut_end]
        have HUU := Lib.hid (bdN HUE.out nq)
        generalize W.drewN nq = U at HUU ⊢
        clear c0 c1 c2 c3 c4 c5 c6 c7 c8
        obtain ⟨c0, c1, c2, c3, c4, c5, c6, c7, c8⟩ := (HB.out.kept (HUU.out.block g HLT.out)).cells
        go_wp2_with fail
        refine (HP40.out _).mono ?_
        rintro en w1 ⟨rfl, rfl⟩
        go_wp2_with fail
        go_region_dies
        all_goals
          refine (HNC.out _ HUU.out.drew).mono ?_
          rintro en Y ⟨rfl, hb1⟩
          exact ⟨rfl, rfl, (btr HUU.out.drew hb1).mono (Nat.le_of_lt HLT.out)⟩
      | ok r =>
        obtain ⟨ps, e⟩ := r
        obtain ⟨hg1, hg2, hg3⟩ := HGG.out ps e hn
        have hg4 := hg3 rfl rfl
        rw [hn] at HNC
        clear hn hg3
        go_enter Tryz.func155, Tryz.ntmps155
        go_wp2_with fail
        go_quiet (fail)
        rw [cut_end]
        have HUU := Lib.hid (bdN HUE.out nq)
        generalize W.drewN nq = U at HUU ⊢
        clear c0 c1 c2 c3 c4 c5 c6 c7 c8
        obtain ⟨c0, c1, c2, c3, c4, c5, c6, c7, c8⟩ := (HB.out.kept (HUU.out.block g HLT.out)).cells
        go_wp2_with fail
        refine (HP40.out _).mono ?_
        rintro en w1 ⟨rfl, rfl⟩
        go_wp2_with fail
        go_region_held3 (fun w' => w'.cell? ⟨g, 1, none⟩ = some (.int .i64 a) ∧ Below W.heap.size W w')
          (first | exact ⟨by simpa using c1, HUU.out.drew⟩ | (go_split_ands; exact ⟨cell_below (btr ‹Below W.heap.size W _› ‹_›) HB.out.cells.2.1, btr ‹Below W.heap.size W _› ‹_›⟩) | go_keep)
          ((go_at_call 165; go_split_ands; have HVV := Lib.hid ‹Below W.heap.size W _›; refine (HNC.out _ HVV.out).mono ?_; rintro en Y ⟨A, cap, rfl, hb1, hrep⟩))
        have HUY := Lib.hid (btr HVV.out hb1)
        have HA2 := Lib.hid (show Calls Tryz.prog 163 #[.pointer (some ⟨g, 0, none⟩), .agg #[.int .i64 6, .string ⟨#[]⟩, .int .i64 0, .bool false, .slice A ps.length cap], .int .i64 ((e : Int) + 2)] Y (fun en Y2 => en = .returned (.tuple #[]) ∧ ScP Y2 g _ _ ∧ Fr g Y Y2) from
          add_any (W := Y) 6 [] 0 false ps A cap (e + 2) (HS.out.below HUY.out) (by show lp.length ≤ 90000; omega) (nest_rep (HS.out.below HVV.out) hb1 6 [] 0 false hrep))
        clear hrep hb1
        have pn0 : (0 : Int) ≤ (ps.length : Int) := by omega
        go_wp2_with fail
        refine HA2.out.mono ?_
        rintro en Y2 ⟨rfl, hs, hf⟩
        go_wp2
        first | go_end0 | refine bodyPost_ret (results_none rfl _ _ _) rfl ?_
        exact ⟨rfl, hs, (Fr.of_below HUY.out HLT.out).trans hf⟩
  | false =>
    rw [if_neg (by simp)]
    rw [h40] at HP40 hop
    have hn3 := LX.has_not3 h40
    clear h40
    cases h4 : Lib.hasPrefix (s.drop (a + 1)) [40] with
    | true =>
      rw [if_pos rfl]
      obtain ⟨r, hr⟩ := LX.has1 h4
      have d1 := LX.drop_head hr
      have hb40 := d1.2.1
      have hd2 : a + 2 ≤ s.length := by have := d1.1; omega
      rw [h4] at HP4
      clear hop hr d1 h4 r
      cases hcl : WP.cls s a with
      | error x =>
        rw [hcl] at HCL
        clear hcl
        go_enter Tryz.func155, Tryz.ntmps155
        go_wp2_with fail
        go_quiet (fail)
        rw [cut_end]
        have HUU := Lib.hid (bdN HUE.out nq)
        generalize W.drewN nq = U at HUU ⊢
        go_wp2_with fail
        refine (HP40.out _).mono ?_
        rintro en w1 ⟨rfl, rfl⟩
        go_wp2_with fail
        refine (HP4.out _).mono ?_
        rintro en w1 ⟨rfl, rfl⟩
        go_wp2_with fail
        refine (HCL.out _ HUU.out).mono ?_
        rintro en Y ⟨rfl, hbY⟩
        exact ⟨rfl, rfl, (btr HUU.out hbY).mono (Nat.le_of_lt HLT.out)⟩
      | ok e =>
        rw [hcl] at HCL
        obtain ⟨he1, he2⟩ := WP.cls_le hcl
        have he3 := LX.close_cmd hb36 hb40 hn3 he1
        clear hcl he1
        have w2 : IntKind.i64.wrap ((a : Int) + 2) = (a : Int) + 2 := IntWalk.i64_in _ (by omega)
        have a5 : ((a : Int) + 2).toNat = a + 2 := by omega
        have a6 : (0 : Int) ≤ (a : Int) + 2 := by omega
        have s1 : IntKind.i64.wrap ((e : Int) - 1) = (e : Int) - 1 := IntWalk.i64_in _ (by omega)
        have s2 : (0 : Int) ≤ (e : Int) - 1 := by omega
        have s3 : ((e : Int) - 1).toNat = e - 1 := by omega
        have s4 : ((a : Int) + 2 ≤ (e : Int) - 1) = True := eq_true (by omega)
        have s5 : ((e : Int) - 1 ≤ (s.length : Int)) = True := eq_true (by omega)
        go_enter Tryz.func155, Tryz.ntmps155
        go_wp2_with fail
        go_quiet (fail)
        rw [cut_end]
        have HUU := Lib.hid (bdN HUE.out nq)
        generalize W.drewN nq = U at HUU ⊢
        go_wp2_with fail
        refine (HP40.out _).mono ?_
        rintro en w1 ⟨rfl, rfl⟩
        go_wp2_with fail
        refine (HP4.out _).mono ?_
        rintro en w1 ⟨rfl, rfl⟩
        go_wp2_with fail
        refine (HCL.out _ HUU.out).mono ?_
        rintro en Y ⟨rfl, hbY⟩
        have HUY := Lib.hid (btr HUU.out hbY)
        clear c0 c1 c2 c3 c4 c5 c6 c7 c8 hbY
        obtain ⟨c0, c1, c2, c3, c4, c5, c6, c7, c8⟩ := (HB.out.kept (HUY.out.block g HLT.out)).cells
        have HA2 := Lib.hid (show Calls Tryz.prog 163 #[.pointer (some ⟨g, 0, none⟩), .agg #[.int .i64 5, .string ⟨(cut s (a + 2) (e - 1)).toArray⟩, .int .i64 0, .bool false, .slice none 0 0], .int .i64 e] Y.drew (Out Y.drew g _ _) from HA.out 5 (cut s (a + 2) (e - 1)) e _ HUY.out.drew)
        go_wp2_with fail
        refine wp_region_still_tail 15 (by kernel_rfl) (by kernel_rfl) ?_
        simp only [List.take_succ_cons, List.take_zero, List.drop_succ_cons, List.drop_zero]
        repeat still_step
        refine wpStill_nil ?_
        change wpList _ _ _ _ _ Y.drew
        go_wp2_with fail
        refine HA2.out.mono ?_
        rintro en Y2 ⟨rfl, hs, hf⟩
        go_wp2
        first | go_end0 | refine bodyPost_ret (results_none rfl _ _ _) rfl ?_
        exact ⟨rfl, hs, (Fr.of_below HUY.out.drew HLT.out).trans hf⟩
    | false =>
      rw [if_neg (by simp)]
      rw [h4] at HP4 hop
      clear h4
      have h123 : Lib.hasPrefix (s.drop (a + 1)) [123] = true := by rcases hop with h | h | h; cases h; cases h; exact h
      rw [if_pos h123]
      obtain ⟨r, hr⟩ := LX.has1 h123
      have hd2 : a + 2 ≤ s.length := by have := (LX.drop_head hr).1; omega
      rw [h123] at HP1
      clear hop hr h123 r
      have HBC := Lib.hid (fun (V : World) (hV : Below W.heap.size W V) => HBR.out V g ⟨s, pl, op, lv, opn⟩ ⟨a, dep, tb, lp⟩ rfl (Nat.le_refl _) hlv hd2 (HS.out.below hV))
      cases hbr : WP.braced N ⟨s, pl, op, lv, opn⟩ ⟨a, dep, tb, lp⟩ with
      | error x =>
        rw [hbr] at HBC
        clear hbr
        go_enter Tryz.func155, Tryz.ntmps155
        go_wp2_with fail
        go_quiet (fail)
        rw [cut_end]
        have HUU := Lib.hid (bdN HUE.out nq)
        generalize W.drewN nq = U at HUU ⊢
        go_wp2_with fail
        refine (HP40.out _).mono ?_
        rintro en w1 ⟨rfl, rfl⟩
        go_wp2_with fail
        refine (HP4.out _).mono ?_
        rintro en w1 ⟨rfl, rfl⟩
        go_wp2_with fail
        refine (HP1.out _).mono ?_
        rintro en w1 ⟨rfl, rfl⟩
        go_wp2_with fail
        refine (HBC.out _ HUU.out).mono ?_
        rintro en Y ⟨rfl, hbY⟩
        exact ⟨rfl, rfl, (btr HUU.out hbY).mono (Nat.le_of_lt HLT.out)⟩
      | ok r =>
        obtain ⟨p, e⟩ := r
        rw [hbr] at HBC
        clear hbr
        go_enter Tryz.func155, Tryz.ntmps155
        go_wp2_with fail
        go_quiet (fail)
        rw [cut_end]
        have HUU := Lib.hid (bdN HUE.out nq)
        generalize W.drewN nq = U at HUU ⊢
        go_wp2_with fail
        refine (HP40.out _).mono ?_
        rintro en w1 ⟨rfl, rfl⟩
        go_wp2_with fail
        refine (HP4.out _).mono ?_
        rintro en w1 ⟨rfl, rfl⟩
        go_wp2_with fail
        refine (HP1.out _).mono ?_
        rintro en w1 ⟨rfl, rfl⟩
        go_wp2_with fail
        refine (HBC.out _ HUU.out).mono ?_
        rintro en Y ⟨k, t, o, b, ps, A, cap, rfl, rfl, hbY, hrep⟩
        have HUY := Lib.hid (btr HUU.out hbY)
        obtain ⟨Z, hZ⟩ : ∃ Z, Z = Y.alloc (.cells #[.int .i64 k, .string ⟨t.toArray⟩, .int .i64 o, .bool b, .slice A ps.length cap] 126) := ⟨_, rfl⟩
        have HZB := Lib.hid (show Below Y.heap.size Y Z by rw [hZ]; exact balloc _ _)
        have HZ := Lib.hid hZ
        have HA2 := Lib.hid (add_any (W := Z) k t o b ps A cap e (HS.out.below (btr HUY.out HZB.out)) (by show lp.length ≤ 90000; omega) (nest_rep (HS.out.below HUU.out) (btr hbY HZB.out) k t o b (rep_more HZB.out hrep)))
        clear hrep hbY hZ
        go_wp2_with fail
        rw [← HZ.out]
        refine HA2.out.mono ?_
        rintro en Y2 ⟨rfl, hs, hf⟩
        go_wp2
        first | go_end0 | refine bodyPost_ret (results_none rfl _ _ _) rfl ?_
        exact ⟨rfl, hs, (Fr.of_below (btr HUY.out HZB.out) HLT.out).trans hf⟩
end
end W
end Go.Proofs.YtcbdhheelddgeaaGreatDoor
namespace Go.Proofs.YtcbdhheelddgeaaGreatDoor
open Go.RowKit K
namespace W
section
variable {W : World} {g : Nat} {c : WP.Ctx} {st : WP.St}
set_option maxRecDepth 100000 in
set_option maxHeartbeats 8000000 in
theorem dollar_rest {N : WP.Nest} (h : ScP W g c st) (hi : WP.Inv c st) (ha : st.a < c.s.length) (hl : c.s.length ≤ 20000)
    (p1 : Lib.hasPrefix (c.s.drop (st.a + 1)) [40, 40] = false) (p2 : Lib.hasPrefix (c.s.drop (st.a + 1)) [40] = false) (p3 : Lib.hasPrefix (c.s.drop (st.a + 1)) [123] = false) :
    Calls Tryz.prog 155 #[.pointer (some ⟨g, 0, none⟩)] W (Out W g c (WP.dollar N c st)) := by
  have HS := Lib.hid h
  have HLT := Lib.hid h.lt
  have hsum := hi.sum
  have HUE := Lib.hid (Below.refl W.heap.size W)
  have hF := Lib.hid (fun (x y : Int) (V : World) => fail_any x y V)
  have HL := Lib.hid (fun (b : UInt8) (m : Nat) (V : World) (hV : Below W.heap.size W V) (hm : m ≤ 10) => lit_any (W := V) b m (HS.out.below hV) (by omega) (by omega) hm)
  have HA := Lib.hid (fun (k : Nat) (t : List UInt8) (m : Nat) (V : World) (hV : Below W.heap.size W V) => add0 (W := V) k t 0 false m (HS.out.below hV) (by omega))
  have HPM := Lib.hid (fun V (hV : Below W.heap.size W V) => parameter_any (HS.out.below hV) (st.a + 1) (by omega) (by omega))
  have HNM := Lib.hid (fun V (hV : Below W.heap.size W V) (hlt : st.a + 1 < c.s.length) => name_any (HS.out.below hV) (st.a + 1) (WP.parameter c.s (st.a + 1)) st.a hlt (WP.parameter_ge _ _) (WP.parameter_le (by omega)) (by omega))
  obtain ⟨tx, ls, hb⟩ := h.box
  have HB := Lib.hid hb
  have HR := Lib.hid (show WP.dollar N c st = if st.a + 1 < c.s.length ∧ LX.digit (bt c.s (st.a + 1)) = true then .ok (WP.add (.mk 4 (cut c.s (st.a + 1) (st.a + 2)) 0 false []) (st.a + 2) st)
    else if st.a + 1 < WP.parameter c.s (st.a + 1) then
      if WP.tooLong c.s (st.a + 1) (WP.parameter c.s (st.a + 1)) = true then .error (st.a, 3)
      else .ok (WP.add (.mk 4 (cut c.s (st.a + 1) (WP.parameter c.s (st.a + 1))) 0 false []) (WP.parameter c.s (st.a + 1)) st)
    else if c.pl = 0 ∧ (Lib.hasPrefix (c.s.drop (st.a + 1)) [96] = true ∨ Lib.hasPrefix (c.s.drop (st.a + 1)) [92, 10] = true) then .error (st.a, 6)
    else .ok (WP.lit 36 1 st) by
      unfold WP.dollar
      rw [if_neg (by rw [p1]; simp), if_neg (by rw [p2]; simp), if_neg (by rw [p3]; simp)])
  clear h
  obtain ⟨s, pl, op, lv, opn⟩ := c
  obtain ⟨a, dep, tb, lp⟩ := st
  dsimp only at HS HL HA HB HR HPM HNM ha hl hsum p1 p2 p3 ⊢
  obtain ⟨c0, c1, c2, c3, c4, c5, c6, c7, c8⟩ := HB.out.cells
  clear hb
  have w1 : IntKind.i64.wrap ((a : Int) + 1) = (a : Int) + 1 := IntWalk.i64_in _ (by omega)
  have a0 : (0 : Int) ≤ (a : Int) := by omega
  have a4 : (0 : Int) ≤ (a : Int) + 1 := by omega
  have a2 : ((a : Int) + 1).toNat = a + 1 := by omega
  have a3 : ((a : Int) + 1 ≤ (s.length : Int)) = True := eq_true (by omega)
  have HP40 := Lib.hid (fun V => lx_HasPrefix (s.drop (a + 1)) [40, 40] V)
  have HP4 := Lib.hid (fun V => lx_HasPrefix (s.drop (a + 1)) [40] V)
  have HP1 := Lib.hid (fun V => lx_HasPrefix (s.drop (a + 1)) [123] V)
  have HPB := Lib.hid (fun V => lx_HasPrefix (s.drop (a + 1)) [96] V)
  have HPN := Lib.hid (fun V => lx_HasPrefix (s.drop (a + 1)) [92, 10] V)
  rw [p1] at HP40
  rw [p2] at HP4
  rw [p3] at HP1
  obtain ⟨r, hr⟩ : ∃ r, s.drop (a + 1) = r := ⟨_, rfl⟩
  have hrl : r.length = s.length - (a + 1) := by rw [← hr, List.length_drop]
  have HRL := Lib.hid hrl
  have HRR := Lib.hid hr
  rw [hr] at HR HP40 HP4 HP1 HPB HPN
  rw [show WP.dollar N _ _ = _ from HR.out]
  clear HR p1 p2 p3 hr hrl
  by_cases hlt : a + 1 < s.length
  case neg =>
    have hrn : r = [] := List.eq_nil_of_length_eq_zero (by have := HRL.out; omega)
    have hpar : WP.parameter s (a + 1) = a + 1 := by unfold WP.parameter; rw [if_pos (by omega)]
    rw [if_neg (fun e => hlt e.1), hpar, if_neg (Nat.lt_irrefl _)]
    rw [hpar] at HPM
    subst hrn
    rw [if_neg (by rintro ⟨_, h | h⟩ <;> simp [Lib.hasPrefix] at h)]
    have HPB2 := Lib.hid (fun V => show Calls Tryz.prog 62 #[.string ⟨#[]⟩, .string ⟨#[96]⟩] V fun e w' => e = .returned (.bool false) ∧ V = w' from HPB.out V)
    have HPN2 := Lib.hid (fun V => show Calls Tryz.prog 62 #[.string ⟨#[]⟩, .string ⟨#[92, 10]⟩] V fun e w' => e = .returned (.bool false) ∧ V = w' from HPN.out V)
    have HPM2 := Lib.hid (fun (V : World) (hV : Below W.heap.size W V) => show Calls Tryz.prog 169 #[.pointer (some ⟨g, 0, none⟩), .int .i64 ((a : Int) + 1)] V fun e w' => e = .returned (.int .i64 ((a : Int) + 1)) ∧ V = w' from HPM.out V hV)
    clear HPB HPN HPM hpar HNM
    have hp0 : (pl = 0 ∧ ((pl : Int) == 0) = true) ∨ ((pl : Int) == 0) = false := by
      by_cases h : pl = 0
      · exact .inl ⟨h, by rw [beq_iff_eq]; omega⟩
      · exact .inr (by rw [beq_eq_false_iff_ne]; omega)
    rcases hp0 with ⟨rfl, hp0⟩ | hp0
    all_goals
      go_enter Tryz.func155, Tryz.ntmps155
      go_wp2_with fail
      go_quiet (fail)
      rw [cut_end, HRR.out]
      have HUU := Lib.hid (bdN HUE.out nq)
      generalize W.drewN nq = U at HUU ⊢
      clear c0 c1 c2 c3 c4 c5 c6 c7 c8
      obtain ⟨c0, c1, c2, c3, c4, c5, c6, c7, c8⟩ := (HB.out.kept (HUU.out.block g HLT.out)).cells
      go_wp2_with fail
      refine (HP40.out _).mono ?_
      rintro en v1 ⟨rfl, rfl⟩
      go_wp2_with fail
      refine (HP4.out _).mono ?_
      rintro en v1 ⟨rfl, rfl⟩
      go_wp2_with fail
      refine (HP1.out _).mono ?_
      rintro en v1 ⟨rfl, rfl⟩
      go_wp2_with fail
      refine (HPM2.out _ HUU.out).mono ?_
      rintro en v1 ⟨rfl, rfl⟩
      go_wp2_with (first | (go_at_call 62; refine (HPB2.out _).mono ?_; rintro en v1 ⟨rfl, rfl⟩) | (go_at_call 62; refine (HPN2.out _).mono ?_; rintro en v1 ⟨rfl, rfl⟩))
      refine (HL.out 36 1 _ HUU.out (by decide)).mono ?_
      rintro en Y2 ⟨rfl, hs, hf⟩
      go_wp2
      first | go_end0 | refine bodyPost_ret (results_none rfl _ _ _) rfl ?_
      exact ⟨rfl, hs, (Fr.of_below HUU.out HLT.out).trans hf⟩
  have a9 : ((a : Int) + 1 < (s.length : Int)) = True := eq_true (by omega)
  obtain ⟨b, hbb⟩ : ∃ b, bt s (a + 1) = b := ⟨_, rfl⟩
  have hrb : bt r 0 = b := by rw [← HRR.out, bt_drop, Nat.add_zero, hbb]
  have HBB := Lib.hid hbb
  have hrp : (0 < r.length) = True := eq_true (by have := HRL.out; omega)
  have hrne : r.isEmpty = false := by cases r with | nil => simp at hrp | cons x y => rfl
  rw [hbb]
  have HD := Lib.hid (fun V => wd_digit b V)
  have w2 : IntKind.i64.wrap ((a : Int) + 2) = (a : Int) + 2 := IntWalk.i64_in _ (by omega)
  have hr1 : ((1 : Int) ≤ (r.length : Int)) = True := eq_true (by have := HRL.out; omega)
  clear hbb
  cases hd : LX.digit b with
  | true =>
    rw [if_pos ⟨hlt, rfl⟩]
    rw [hd] at HD
    have HC1 := Lib.hid (show cut r 0 1 = cut s (a + 1) (a + 2) by rw [← HRR.out]; unfold cut; rw [List.drop_zero, List.take_drop, show a + 1 + 1 = a + 2 by omega])
    clear hd HPM HNM
    go_enter Tryz.func155, Tryz.ntmps155
    go_wp2_with fail
    go_quiet (fail)
    rw [cut_end, HRR.out]
    have HUU := Lib.hid (bdN HUE.out nq)
    generalize W.drewN nq = U at HUU ⊢
    clear c0 c1 c2 c3 c4 c5 c6 c7 c8
    obtain ⟨c0, c1, c2, c3, c4, c5, c6, c7, c8⟩ := (HB.out.kept (HUU.out.block g HLT.out)).cells
    go_wp2_with fail
    refine (HP40.out _).mono ?_
    rintro en v1 ⟨rfl, rfl⟩
    go_wp2_with fail
    refine (HP4.out _).mono ?_
    rintro en v1 ⟨rfl, rfl⟩
    go_wp2_with fail
    refine (HP1.out _).mono ?_
    rintro en v1 ⟨rfl, rfl⟩
    go_wp2_with fail
    refine (HD.out _).mono ?_
    rintro en v1 ⟨rfl, rfl⟩
    have HA2 := Lib.hid (show Calls Tryz.prog 163 #[.pointer (some ⟨g, 0, none⟩), .agg #[.int .i64 4, .string ⟨(cut r 0 1).toArray⟩, .int .i64 0, .bool false, .slice none 0 0], .int .i64 ((a : Int) + 2)] U.drew (Out U.drew g ⟨s, pl, op, lv, opn⟩ (.ok (WP.add (.mk 4 (cut s (a + 1) (a + 2)) 0 false []) (a + 2) ⟨a, dep, tb, lp⟩))) from by rw [HC1.out]; exact HA.out 4 (cut s (a + 1) (a + 2)) (a + 2) _ HUU.out.drew)
    go_wp2_with fail
    refine wp_region_still_tail 9 (by kernel_rfl) (by kernel_rfl) ?_
    simp only [List.take_succ_cons, List.take_zero, List.drop_succ_cons, List.drop_zero]
    repeat still_step
    refine wpStill_nil ?_
    change wpList _ _ _ _ _ U.drew
    go_wp2_with fail
    refine HA2.out.mono ?_
    rintro en Y2 ⟨rfl, hs, hf⟩
    go_wp2
    first | go_end0 | refine bodyPost_ret (results_none rfl _ _ _) rfl ?_
    exact ⟨rfl, hs, (Fr.of_below HUU.out.drew HLT.out).trans hf⟩
  | false =>
    rw [if_neg (fun e => by cases e.2)]
    rw [hd] at HD
    clear hd
    have hp1 := WP.parameter_ge s (a + 1)
    have hp2 := WP.parameter_le (s := s) (i := a + 1) (by omega)
    obtain ⟨e, he⟩ : ∃ e, WP.parameter s (a + 1) = e := ⟨_, rfl⟩
    rw [he] at HPM HNM hp1 hp2 ⊢
    clear he
    have HPM2 := Lib.hid (fun (V : World) (hV : Below W.heap.size W V) => show Calls Tryz.prog 169 #[.pointer (some ⟨g, 0, none⟩), .int .i64 ((a : Int) + 1)] V fun en w' => en = .returned (.int .i64 e) ∧ V = w' from HPM.out V hV)
    have HNM2 := Lib.hid (fun (V : World) (hV : Below W.heap.size W V) => show Calls Tryz.prog 170 #[.pointer (some ⟨g, 0, none⟩), .int .i64 ((a : Int) + 1), .int .i64 e, .int .i64 a] V (NameOut V (WP.tooLong s (a + 1) e) a) from HNM.out V hV hlt)
    clear HPM HNM
    by_cases hae : a + 1 < e
    · rw [if_pos hae]
      have t1 : (((a : Int) + 1) < (e : Int)) = True := eq_true (by omega)
      have t2 : ((a : Int) + 1 ≤ (e : Int)) = True := eq_true (by omega)
      have t3 : ((e : Int) ≤ (s.length : Int)) = True := eq_true (by omega)
      have t4 : (0 : Int) ≤ (e : Int) := by omega
      cases htl : WP.tooLong s (a + 1) e with
      | true =>
        rw [if_pos rfl]
        rw [htl] at HNM2
        clear htl hae
        go_enter Tryz.func155, Tryz.ntmps155
        go_wp2_with fail
        go_quiet (fail)
        rw [cut_end, HRR.out]
        have HUU := Lib.hid (bdN HUE.out nq)
        generalize W.drewN nq = U at HUU ⊢
        clear c0 c1 c2 c3 c4 c5 c6 c7 c8
        obtain ⟨c0, c1, c2, c3, c4, c5, c6, c7, c8⟩ := (HB.out.kept (HUU.out.block g HLT.out)).cells
        go_wp2_with fail
        refine (HP40.out _).mono ?_
        rintro en v1 ⟨rfl, rfl⟩
        go_wp2_with fail
        refine (HP4.out _).mono ?_
        rintro en v1 ⟨rfl, rfl⟩
        go_wp2_with fail
        refine (HP1.out _).mono ?_
        rintro en v1 ⟨rfl, rfl⟩
        go_wp2_with fail
        refine (HD.out _).mono ?_
        rintro en v1 ⟨rfl, rfl⟩
        go_wp2_with fail
        refine (HPM2.out _ HUU.out).mono ?_
        rintro en v1 ⟨rfl, rfl⟩
        go_wp2_with fail
        go_region_dies
        all_goals
          refine (HNM2.out _ HUU.out.drew).mono ?_
          rintro en Y ⟨rfl, rfl⟩
          exact ⟨rfl, rfl, HUU.out.drew.mono (Nat.le_of_lt HLT.out)⟩
      | false =>
        rw [if_neg (by simp)]
        rw [htl] at HNM2
        clear htl hae
        have HNM3 := Lib.hid (fun (V : World) (hV : Below W.heap.size W V) => show Calls Tryz.prog 170 #[.pointer (some ⟨g, 0, none⟩), .int .i64 ((a : Int) + 1), .int .i64 e, .int .i64 a] V fun en w' => en = .returned (.tuple #[]) ∧ w' = V from (HNM2.out V hV).mono fun en w' ⟨x1, x2⟩ => ⟨x1, x2.symm⟩)
        go_enter Tryz.func155, Tryz.ntmps155
        go_wp2_with fail
        go_quiet (fail)
        rw [cut_end, HRR.out]
        have HUU := Lib.hid (bdN HUE.out nq)
        generalize W.drewN nq = U at HUU ⊢
        clear c0 c1 c2 c3 c4 c5 c6 c7 c8
        obtain ⟨c0, c1, c2, c3, c4, c5, c6, c7, c8⟩ := (HB.out.kept (HUU.out.block g HLT.out)).cells
        go_wp2_with fail
        refine (HP40.out _).mono ?_
        rintro en v1 ⟨rfl, rfl⟩
        go_wp2_with fail
        refine (HP4.out _).mono ?_
        rintro en v1 ⟨rfl, rfl⟩
        go_wp2_with fail
        refine (HP1.out _).mono ?_
        rintro en v1 ⟨rfl, rfl⟩
        go_wp2_with fail
        refine (HD.out _).mono ?_
        rintro en v1 ⟨rfl, rfl⟩
        go_wp2_with fail
        refine (HPM2.out _ HUU.out).mono ?_
        rintro en v1 ⟨rfl, rfl⟩
        go_wp2_with fail
        have HNQ := Lib.hid (fun q => HNM3.out (U.drewN q) (bdN HUU.out q))
        go_quiet ((go_at_call 170; exact Calls.quiet_of_same (HNQ.out _)))
        have HUX := Lib.hid (bdN HUU.out nq)
        generalize U.drewN nq = X at HUX ⊢
        clear c0 c1 c2 c3 c4 c5 c6 c7 c8
        obtain ⟨c0, c1, c2, c3, c4, c5, c6, c7, c8⟩ := (HB.out.kept (HUX.out.block g HLT.out)).cells
        have HA2 := Lib.hid (show Calls Tryz.prog 163 #[.pointer (some ⟨g, 0, none⟩), .agg #[.int .i64 4, .string ⟨(cut s (a + 1) e).toArray⟩, .int .i64 0, .bool false, .slice none 0 0], .int .i64 e] X.drew (Out X.drew g ⟨s, pl, op, lv, opn⟩ (.ok (WP.add (.mk 4 (cut s (a + 1) e) 0 false []) e ⟨a, dep, tb, lp⟩))) from HA.out 4 (cut s (a + 1) e) e _ HUX.out.drew)
        go_wp2_with fail
        refine wp_region_still_tail 14 (by kernel_rfl) (by kernel_rfl) ?_
        simp only [List.take_succ_cons, List.take_zero, List.drop_succ_cons, List.drop_zero]
        repeat still_step
        refine wpStill_nil ?_
        change wpList _ _ _ _ _ X.drew
        go_wp2_with fail
        refine HA2.out.mono ?_
        rintro en Y2 ⟨rfl, hs, hf⟩
        go_wp2
        first | go_end0 | refine bodyPost_ret (results_none rfl _ _ _) rfl ?_
        exact ⟨rfl, hs, (Fr.of_below HUX.out.drew HLT.out).trans hf⟩
    · rw [if_neg hae]
      have t1 : (((a : Int) + 1) < (e : Int)) = False := eq_false (by omega)
      clear HNM2 hae
      have hcase : (pl = 0 ∧ Lib.hasPrefix r [96] = true) ∨ (pl = 0 ∧ Lib.hasPrefix r [96] = false ∧ Lib.hasPrefix r [92, 10] = true) ∨ (pl = 0 ∧ Lib.hasPrefix r [96] = false ∧ Lib.hasPrefix r [92, 10] = false) ∨ ¬ pl = 0 := by
        by_cases h : pl = 0
        · cases h1 : Lib.hasPrefix r [96]
          · cases h2 : Lib.hasPrefix r [92, 10]
            · exact .inr (.inr (.inl ⟨h, rfl, rfl⟩))
            · exact .inr (.inl ⟨h, rfl, rfl⟩)
          · exact .inl ⟨h, rfl⟩
        · exact .inr (.inr (.inr h))
      rcases hcase with ⟨rfl, h1⟩ | ⟨rfl, h1, h2⟩ | ⟨rfl, h1, h2⟩ | hp0
      · rw [if_pos ⟨rfl, .inl h1⟩]
        rw [h1] at HPB
        clear h1
        go_enter Tryz.func155, Tryz.ntmps155
        go_wp2_with fail
        go_quiet (fail)
        rw [cut_end, HRR.out]
        have HUU := Lib.hid (bdN HUE.out nq)
        generalize W.drewN nq = U at HUU ⊢
        clear c0 c1 c2 c3 c4 c5 c6 c7 c8
        obtain ⟨c0, c1, c2, c3, c4, c5, c6, c7, c8⟩ := (HB.out.kept (HUU.out.block g HLT.out)).cells
        go_wp2_with fail
        refine (HP40.out _).mono ?_
        rintro en v1 ⟨rfl, rfl⟩
        go_wp2_with fail
        refine (HP4.out _).mono ?_
        rintro en v1 ⟨rfl, rfl⟩
        go_wp2_with fail
        refine (HP1.out _).mono ?_
        rintro en v1 ⟨rfl, rfl⟩
        go_wp2_with fail
        refine (HD.out _).mono ?_
        rintro en v1 ⟨rfl, rfl⟩
        go_wp2_with fail
        refine (HPM2.out _ HUU.out).mono ?_
        rintro en v1 ⟨rfl, rfl⟩
        go_wp2_with fail
        refine (HPB.out _).mono ?_
        rintro en v1 ⟨rfl, rfl⟩
        go_wp2_with fail
        refine (hF.out _ _ _).mono ?_
        rintro en Y ⟨rfl, rfl⟩
        exact ⟨rfl, rfl, HUU.out.mono (Nat.le_of_lt HLT.out)⟩
      · rw [if_pos ⟨rfl, .inr h2⟩]
        rw [h1] at HPB
        rw [h2] at HPN
        clear h1 h2
        go_enter Tryz.func155, Tryz.ntmps155
        go_wp2_with fail
        go_quiet (fail)
        rw [cut_end, HRR.out]
        have HUU := Lib.hid (bdN HUE.out nq)
        generalize W.drewN nq = U at HUU ⊢
        clear c0 c1 c2 c3 c4 c5 c6 c7 c8
        obtain ⟨c0, c1, c2, c3, c4, c5, c6, c7, c8⟩ := (HB.out.kept (HUU.out.block g HLT.out)).cells
        go_wp2_with fail
        refine (HP40.out _).mono ?_
        rintro en v1 ⟨rfl, rfl⟩
        go_wp2_with fail
        refine (HP4.out _).mono ?_
        rintro en v1 ⟨rfl, rfl⟩
        go_wp2_with fail
        refine (HP1.out _).mono ?_
        rintro en v1 ⟨rfl, rfl⟩
        go_wp2_with fail
        refine (HD.out _).mono ?_
        rintro en v1 ⟨rfl, rfl⟩
        go_wp2_with fail
        refine (HPM2.out _ HUU.out).mono ?_
        rintro en v1 ⟨rfl, rfl⟩
        go_wp2_with fail
        refine (HPB.out _).mono ?_
        rintro en v1 ⟨rfl, rfl⟩
        go_wp2_with fail
        refine (HPN.out _).mono ?_
        rintro en v1 ⟨rfl, rfl⟩
        go_wp2_with fail
        refine (hF.out _ _ _).mono ?_
        rintro en Y ⟨rfl, rfl⟩
        exact ⟨rfl, rfl, HUU.out.mono (Nat.le_of_lt HLT.out)⟩
      · rw [if_neg (by rintro ⟨_, h | h⟩; rw [h1] at h; cases h; rw [h2] at h; cases h)]
        rw [h1] at HPB
        rw [h2] at HPN
        clear h1 h2
        go_enter Tryz.func155, Tryz.ntmps155
        go_wp2_with fail
        go_quiet (fail)
        rw [cut_end, HRR.out]
        have HUU := Lib.hid (bdN HUE.out nq)
        generalize W.drewN nq = U at HUU ⊢
        clear c0 c1 c2 c3 c4 c5 c6 c7 c8
        obtain ⟨c0, c1, c2, c3, c4, c5, c6, c7, c8⟩ := (HB.out.kept (HUU.out.block g HLT.out)).cells
        go_wp2_with fail
        refine (HP40.out _).mono ?_
        rintro en v1 ⟨rfl, rfl⟩
        go_wp2_with fail
        refine (HP4.out _).mono ?_
        rintro en v1 ⟨rfl, rfl⟩
        go_wp2_with fail
        refine (HP1.out _).mono ?_
        rintro en v1 ⟨rfl, rfl⟩
        go_wp2_with fail
        refine (HD.out _).mono ?_
        rintro en v1 ⟨rfl, rfl⟩
        go_wp2_with fail
        refine (HPM2.out _ HUU.out).mono ?_
        rintro en v1 ⟨rfl, rfl⟩
        go_wp2_with fail
        refine (HPB.out _).mono ?_
        rintro en v1 ⟨rfl, rfl⟩
        go_wp2_with fail
        refine (HPN.out _).mono ?_
        rintro en v1 ⟨rfl, rfl⟩
        go_wp2_with fail
        refine (HL.out 36 1 _ HUU.out (by decide)).mono ?_
        rintro en Y2 ⟨rfl, hs, hf⟩
        go_wp2
        first | go_end0 | refine bodyPost_ret (results_none rfl _ _ _) rfl ?_
        exact ⟨rfl, hs, (Fr.of_below HUU.out HLT.out).trans hf⟩
      · rw [if_neg (fun e => hp0 e.1)]
        have p0 : ((pl : Int) == 0) = false := by rw [beq_eq_false_iff_ne]; omega
        go_enter Tryz.func155, Tryz.ntmps155
        go_wp2_with fail
        go_quiet (fail)
        rw [cut_end, HRR.out]
        have HUU := Lib.hid (bdN HUE.out nq)
        generalize W.drewN nq = U at HUU ⊢
        clear c0 c1 c2 c3 c4 c5 c6 c7 c8
        obtain ⟨c0, c1, c2, c3, c4, c5, c6, c7, c8⟩ := (HB.out.kept (HUU.out.block g HLT.out)).cells
        go_wp2_with fail
        refine (HP40.out _).mono ?_
        rintro en v1 ⟨rfl, rfl⟩
        go_wp2_with fail
        refine (HP4.out _).mono ?_
        rintro en v1 ⟨rfl, rfl⟩
        go_wp2_with fail
        refine (HP1.out _).mono ?_
        rintro en v1 ⟨rfl, rfl⟩
        go_wp2_with fail
        refine (HD.out _).mono ?_
        rintro en v1 ⟨rfl, rfl⟩
        go_wp2_with fail
        refine (HPM2.out _ HUU.out).mono ?_
        rintro en v1 ⟨rfl, rfl⟩
        go_wp2_with fail
        refine (HL.out 36 1 _ HUU.out (by decide)).mono ?_
        rintro en Y2 ⟨rfl, hs, hf⟩
        go_wp2
        first | go_end0 | refine bodyPost_ret (results_none rfl _ _ _) rfl ?_
        exact ⟨rfl, hs, (Fr.of_below HUU.out HLT.out).trans hf⟩
theorem dollar_any {N : WP.Nest} (hN : NestC c.s (st.a + 1) N) (hBR : BracedC c.s st.a N) (hgn : WP.GoodN c.s N) (h : ScP W g c st) (hi : WP.Inv c st) (ha : st.a < c.s.length) (hb36 : bt c.s st.a = 36) (hl : c.s.length ≤ 20000) (hlv : c.lv ≤ 32) :
    Calls Tryz.prog 155 #[.pointer (some ⟨g, 0, none⟩)] W (Out W g c (WP.dollar N c st)) := by
  by_cases h1 : Lib.hasPrefix (c.s.drop (st.a + 1)) [40, 40] = true
  · exact dollar_open hN hBR hgn h hi ha hb36 hl hlv (.inl h1)
  by_cases h2 : Lib.hasPrefix (c.s.drop (st.a + 1)) [40] = true
  · exact dollar_open hN hBR hgn h hi ha hb36 hl hlv (.inr (.inl h2))
  by_cases h3 : Lib.hasPrefix (c.s.drop (st.a + 1)) [123] = true
  · exact dollar_open hN hBR hgn h hi ha hb36 hl hlv (.inr (.inr h3))
  exact dollar_rest h hi ha hl (by simpa using h1) (by simpa using h2) (by simpa using h3)
end
end W
end Go.Proofs.YtcbdhheelddgeaaGreatDoor
