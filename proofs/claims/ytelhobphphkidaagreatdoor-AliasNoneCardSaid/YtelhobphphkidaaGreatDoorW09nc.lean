/- Chapter 9: pass, whatever token and state. -/
import Derived.Test.YtelhobphphkidaaGreatDoorW09nb
import Derived.Deep.DeepCutAuto
namespace Go.Proofs.YtelhobphphkidaaGreatDoor
open Go.RowKit K
namespace W
theorem infoDl : (Tryz.prog.info? 89).map (fun i => (i.zero, i.size, i.bytes)) = some (some (.agg #[.string ⟨#[]⟩, .bool false]), 2, 24) := by kernel_rfl
theorem dls_snoc (a : List (List UInt8 × Bool)) (t : List UInt8 × Bool) : dls a ++ [.string ⟨t.1.toArray⟩, .bool t.2] = dls (a ++ [t]) := by unfold dls; simp
/-- append of one delimiter. -/
theorem app_dl (Y : World) (base cap : Nat) (A : Option Addr) (M : List (List UInt8 × Bool)) (x : List UInt8) (b : Bool) (hown : Y.ownsRow base 89 2 (.slice A M.length cap) M.length (dls M)) (hn : M.length ≤ 200000) (hb : base ≤ Y.heap.size) :
    ∃ A' c' w', (Builtin.append_ #[58, 58] 58 #[.slice A M.length cap, .slice (some ⟨Y.heap.size, 0, none⟩) 1 1]).run Tryz.prog (Y.alloc (.cells #[.string ⟨x.toArray⟩, .bool b] 89)).drew = .ok (.slice A' (M ++ [(x, b)]).length c') w' ∧
      w'.ownsRow base 89 2 (.slice A' (M ++ [(x, b)]).length c') (M ++ [(x, b)]).length (dls (M ++ [(x, b)])) ∧ (Y.alloc (.cells #[.string ⟨x.toArray⟩, .bool b] 89)).drew.grownBy w' (Value.slice A M.length cap).ownBlock ∧ ((Value.slice A' (M ++ [(x, b)]).length c').ownBlock = (Value.slice A M.length cap).ownBlock ∨ (Value.slice A' (M ++ [(x, b)]).length c').ownBlock = some (Y.heap.size + 1)) := by
  obtain ⟨i0, hi, hz0, hz1, hz2⟩ := info_parts infoDl
  obtain ⟨v', w', r1, r2, r3, -, r4⟩ := run_append_own_at (P := Tryz.prog) (Y.alloc (.cells #[.string ⟨x.toArray⟩, .bool b] 89)).drew base 58 58 89 i0 _ 2 24 Tryz.underlying58 hi hz0 hz1 hz2 rfl (by decide) (.slice A M.length cap) M.length (dls M) ((hown.alloc _).drew) ⟨Y.heap.size, 0, none⟩ 1 1 [.string ⟨x.toArray⟩, .bool b] rfl
    (fun j u hj => by
      match j, hj with
      | 0, hj => simp at hj; subst hj; simp [Addr.add]
      | 1, hj => simp at hj; subst hj; simp [Addr.add])
    (by intro u hu; simp at hu; rcases hu with rfl | rfl <;> rfl) (by unfold maxLen; omega) (by omega) (by simp; omega)
  rw [dls_snoc M (x, b)] at r2
  have hle : (M ++ [(x, b)]).length = M.length + 1 := by simp
  rw [hle]
  obtain ⟨A', c', rfl⟩ : ∃ A' c', v' = .slice A' (M.length + 1) c' := by
    rcases r2.2 with ⟨rfl, h0⟩ | ⟨q, c, cur, rfl, _⟩
    · omega
    · exact ⟨_, _, rfl⟩
  refine ⟨A', c', w', r1, r2, r3, ?_⟩
  rcases r4 with h | h
  · exact .inl h
  · exact .inr (by rw [h]; simp)
/-- Of what was there, the examiner's box and the row of its delimiters alone are turned. -/
structure FP (base g : Nat) (v : Value) (a b : World) : Prop where
  size : a.heap.size ≤ b.heap.size
  far : ∀ q, q < a.heap.size → q ≠ g → v.ownBlock ≠ some q → b.heap[q]? = a.heap[q]?
  below : Below base a b
theorem FP.of_box {base g : Nat} {v : Value} {a b : World} (h : OneBox g a b) (hb : base ≤ g) : FP base g v a b := ⟨h.1, fun q h1 h2 _ => h.2.1 q h1 h2, h.2.2.mono hb⟩
theorem FP.of_below {base g : Nat} {v : Value} {a b : World} (h : Below a.heap.size a b) (hb : base ≤ a.heap.size) : FP base g v a b := ⟨h.size, fun q h1 _ _ => h.block q h1, h.mono hb⟩
/-- The second frame may be that of a later row: new, or the same. -/
theorem FP.trans {base g : Nat} {v u : Value} {a b c : World} (h : FP base g v a b) (k : FP base g u b c) (hv : ∀ q, q < a.heap.size → u.ownBlock = some q → v.ownBlock = some q) : FP base g v a c :=
  ⟨Nat.le_trans h.size k.size, fun q h1 h2 h3 => (k.far q (Nat.lt_of_lt_of_le h1 h.size) h2 (fun e => h3 (hv q h1 e))).trans (h.far q h1 h2 h3), h.below.trans k.below⟩
/-- What pass leaves. -/
def PassOut (base g : Nat) (s : List UInt8) (st n : Nat) (va vm vb vl : Value) (w : World) (w' : World) : Prop :=
  ∃ (a2 : Nat) (c' h' st' : Bool) (A' : Option Addr) (cap' : Nat) (ls' : List (List UInt8 × Bool)), st ≤ a2 ∧ a2 ≤ s.length ∧ EB w' g s a2 va vm vb c' h' st' (.slice A' ls'.length cap') ∧ w'.ownsRow base 89 2 (.slice A' ls'.length cap') ls'.length (dls ls') ∧ ls'.length ≤ n + 1 ∧ FP base g vl w w' ∧ ∀ q, q < w.heap.size → (Value.slice A' ls'.length cap').ownBlock = some q → vl.ownBlock = some q
/-- The state behind the delimiter's turn. -/
def Mid9 (base g : Nat) (s : List UInt8) (st n : Nat) (va vm vb vl : Value) (c str : Bool) (tok : Array Value) (w : World) (w' : World) : Prop :=
  ∃ (A' : Option Addr) (cap' : Nat) (ls' : List (List UInt8 × Bool)), EB w' g s st va vm vb c false str (.slice A' ls'.length cap') ∧ w'.ownsRow base 89 2 (.slice A' ls'.length cap') ls'.length (dls ls') ∧ ls'.length ≤ n + 1 ∧ FP base g vl w w' ∧ (∀ q, q < w.heap.size → (Value.slice A' ls'.length cap').ownBlock = some q → vl.ownBlock = some q) ∧ w'.heap[w.heap.size]? = some (.cells tok 62 (0, 0)) ∧ (Value.slice A' ls'.length cap').ownBlock ≠ some g
theorem row_g {base g : Nat} {W : World} {s : List UInt8} {a : Int} {va vm vb vl v : Value} {c h st : Bool} {n : Nat} {xs : List Value} (he : EB W g s a va vm vb c h st vl) (hown : W.ownsRow base 89 2 v n xs) : v.ownBlock ≠ some g := fun e => by
  obtain ⟨cs, fz, hk⟩ := Lib.ownsRow_kind hown g e
  rw [he] at hk
  simp at hk
theorem pass_end {base g : Nat} {s : List UInt8} {st n : Nat} {va vm vb vl : Value} {c' h' st' : Bool} {A' : Option Addr} {cap' : Nat} {ls' : List (List UInt8 × Bool)} {w wc w' : World} (hst : st ≤ s.length) (hbg : base ≤ g)
    (m2 : wc.ownsRow base 89 2 (.slice A' ls'.length cap') ls'.length (dls ls')) (m3 : ls'.length ≤ n + 1) (m4 : FP base g vl w wc) (m5 : ∀ q, q < w.heap.size → (Value.slice A' ls'.length cap').ownBlock = some q → vl.ownBlock = some q) (m7 : (Value.slice A' ls'.length cap').ownBlock ≠ some g)
    (he : EB w' g s st va vm vb c' h' st' (.slice A' ls'.length cap')) (ho : OneBox g wc w') : PassOut base g s st n va vm vb vl w w' :=
  ⟨st, c', h', st', A', cap', ls', Nat.le_refl _, hst, he, own_same m2 (fun q hq => ho.2.1 q (m2.lt q hq).2 (fun e => m7 (by rw [← e]; exact hq))), m3, m4.trans (FP.of_box (v := vl) ho hbg) (fun q _ e => e), m5⟩
set_option maxRecDepth 100000 in
set_option maxHeartbeats 8000000 in
theorem pass_any (hB : BrAll) (kd ps st : Nat) (tx : List UInt8) (base g : Nat) (s : List UInt8) (at_ : Int) (va vm vb : Value) (A : Option Addr) (cap : Nat) (ls : List (List UInt8 × Bool)) (c h str : Bool) (w : World) (he : EB w g s at_ va vm vb c h str (.slice A ls.length cap)) (hown : w.ownsRow base 89 2 (.slice A ls.length cap) ls.length (dls ls)) (hbg : base ≤ g) (hE : Env9 w) (hbs : 0 < base) (hl : tx.length ≤ 20000) (hs : s.length ≤ 100000) (hst : st ≤ s.length) (hn : ls.length ≤ 50000) :
    Calls Tryz.prog 36 #[.pointer (some ⟨g, 0, none⟩), .agg #[.int .i64 kd, .int .i64 ps, .int .i64 st, .string ⟨tx.toArray⟩]] w fun e w' => e = .returned (.tuple #[]) ∧ PassOut base g s st ls.length va vm vb (.slice A ls.length cap) w w' := by
  have hgs := he.lt
  have hAg := row_g he hown
  obtain ⟨V, hV⟩ : ∃ V, V = w.setCell ⟨g, 1, none⟩ (.int .i64 st) := ⟨_, rfl⟩
  have e1 : EB V g s st va vm vb c h str (.slice A ls.length cap) := by rw [hV]; exact he.set1 _
  have hVs : V.heap.size = w.heap.size := by rw [hV]; simp
  have hV1 : OneBox g w V := by rw [hV]; exact (OneBox.refl g w).set 1 _
  obtain ⟨X, hX⟩ : ∃ X, X = V.alloc (.cells #[.int .i64 kd, .int .i64 ps, .int .i64 st, .string ⟨tx.toArray⟩] 62) := ⟨_, rfl⟩
  have e2 : EB X g s st va vm vb c h str (.slice A ls.length cap) := by rw [hX]; exact e1.new (balloc V _)
  have hX1 : OneBox g w X := by rw [hX]; exact hV1.alloc hgs _
  have hnX : X.heap[w.heap.size]? = some (.cells #[.int .i64 kd, .int .i64 ps, .int .i64 st, .string ⟨tx.toArray⟩] 62 (0, 0)) := by rw [hX, ← hVs]; exact al_new V _
  have hown2 : X.ownsRow base 89 2 (.slice A ls.length cap) ls.length (dls ls) := own_same hown (fun q hq => hX1.2.1 q (hown.lt q hq).2 (fun e => hAg (by rw [← e]; exact hq)))
  obtain ⟨-, w1, -⟩ := he.cells
  have wf := he.thaw 1
  have HX := Lib.hid (show X = (w.setCell ⟨g, 1, none⟩ (.int .i64 st)).alloc (.cells #[.int .i64 kd, .int .i64 ps, .int .i64 st, .string ⟨tx.toArray⟩] 62) by rw [hX, hV])
  have HE2 := Lib.hid e2
  have HO2 := Lib.hid hown2
  have HX1 := Lib.hid hX1
  have HN := Lib.hid hnX
  have HENV := Lib.hid hE
  have HBG := Lib.hid (And.intro hbg hgs)
  have hg0 : 0 < g := Nat.lt_of_lt_of_le hbs hbg
  have HG0 := Lib.hid hg0
  have HBS := Lib.hid hbs
  have HL := Lib.hid (And.intro hl (And.intro hs (And.intro hst hn)))
  have HAG := Lib.hid hAg
  have HLT := Lib.hid (literal9_any hB kd ps st tx)
  have HOW := Lib.hid (fun q hq => (hown.lt q hq).2)
  obtain ⟨x0, x1, x2, x3, x4, x5, x6, x7, x8⟩ := e2.cells
  have f6 := e2.thaw 6
  clear he hown hE hg0 hbs hl hs hst hn hAg e1 hV1 hX hV e2 hX1 hnX hVs hown2 hbg hB
  go_enter Tryz.func36, Tryz.ntmps36
  go_upto_region 2 with (fail)
  rw [← HX.out]
  go_upto_if 14 with (fail)
  go_cut [] (fun wx => Hid (Mid9 base g s st ls.length va vm vb (.slice A ls.length cap) c str #[.int .i64 kd, .int .i64 ps, .int .i64 st, .string ⟨tx.toArray⟩] w wx))
  case first =>
    cases h with
    | false =>
      go_wp2_with fail
      go_meet
      exact Lib.hid ⟨A, cap, ls, HE2.out, HO2.out, by omega, FP.of_box HX1.out HBG.out.1, fun q _ e => e, HN.out, HAG.out⟩
    | true =>
      obtain ⟨Y, hY⟩ : ∃ Y, Y = X.setCell ⟨g, 6, none⟩ (.bool false) := ⟨_, rfl⟩
      have HEY := Lib.hid (show EB Y g s st va vm vb c false str (.slice A ls.length cap) by rw [hY]; exact HE2.out.set6 false)
      have HBY := Lib.hid (show OneBox g w Y by rw [hY]; exact HX1.out.set 6 _)
      have HNY := Lib.hid (show Y.heap[w.heap.size]? = some (.cells #[.int .i64 kd, .int .i64 ps, .int .i64 st, .string ⟨tx.toArray⟩] 62 (0, 0)) by rw [hY]; exact (Below.heap_setCell _ _ _ _ (by dsimp only; have := HBG.out.2; omega)).trans HN.out)
      have HOY := Lib.hid (show Y.ownsRow base 89 2 (.slice A ls.length cap) ls.length (dls ls) by rw [hY]; exact own_same HO2.out (fun q hq => Below.heap_setCell _ _ _ _ (by dsimp only; intro e; exact HAG.out (by rw [← e]; exact hq))))
      have HY := Lib.hid hY
      obtain ⟨t0, t1, t2, t3, -, -, -, -⟩ := blk4 HNY.out
      have HLY := Lib.hid (HLT.out Y HL.out.1)
      clear hY
      go_upto_region 4 with (fail)
      rw [← HY.out]
      go_wp2_with fail
      refine HLY.out.mono ?_
      rintro e Z ⟨x, b, rfl, hb⟩
      have HEZ := Lib.hid (HEY.out.new hb)
      have HBZ := Lib.hid (HBY.out.trans (OneBox.of HEY.out.lt hb))
      have HNZ := Lib.hid ((hb.block _ (Array.getElem?_eq_some_iff.1 HNY.out).1).trans HNY.out)
      have HOZ := Lib.hid (own_same HOY.out (fun q hq => hb.block q (HOY.out.lt q hq).2))
      clear hb t0 t1 t2 t3 x0 x1 x2 x3 x4 x5 x6 x7 x8 f6
      cases b with
      | false =>
        go_wp2_with fail
        go_meet
        exact Lib.hid ⟨A, cap, ls, HEZ.out, HOZ.out, by omega, FP.of_box HBZ.out HBG.out.1, fun q _ e => e, HNZ.out, HAG.out⟩
      | true =>
        obtain ⟨A', c', w3, hrun, hown3, hgrow3, hwhere⟩ := app_dl Z base cap A ls x str HOZ.out (by have := HL.out; omega) (by have := HEZ.out.lt; have := HBG.out; omega)
        have hkp : ∀ q, q < Z.heap.size → (Value.slice A ls.length cap).ownBlock ≠ some q → w3.heap[q]? = Z.heap[q]? := fun q h1 h2 => (hgrow3.block q (by simp; omega) (fun e => h2 e.symm)).trans (Below.heap_alloc _ _ _ h1)
        have r3 := HEZ.out.kept (hkp g HEZ.out.lt HAG.out)
        have HNW := Lib.hid ((hkp w.heap.size (Array.getElem?_eq_some_iff.1 HNZ.out).1 (fun e => by have := HOW.out _ e; omega)).trans HNZ.out)
        have HEW := Lib.hid r3
        have HFW := Lib.hid (show FP base g (.slice A ls.length cap) w w3 from
          (FP.of_box (v := .slice A ls.length cap) HBZ.out HBG.out.1).trans (u := .slice A ls.length cap) ⟨Nat.le_trans (by simp) hgrow3.size, fun q h1 _ h3 => hkp q h1 h3, (((Below.refl _ Z).alloc (by have := HBG.out; have := HBZ.out.1; omega) _).drew).grown hgrow3 (by have := HBG.out; have := HBZ.out.1; simp; omega) (fun k hk => (HOZ.out.lt k hk).1)⟩ (fun q _ e => e))
        have HGW := Lib.hid (show (Value.slice A' (ls ++ [(x, str)]).length c').ownBlock ≠ some g from fun e => by
          rcases hwhere with h | h
          · exact HAG.out (h ▸ e)
          · rw [h] at e
            injection e with e
            have := HEZ.out.lt
            omega)
        have HQW := Lib.hid (show ∀ q, q < w.heap.size → (Value.slice A' (ls ++ [(x, str)]).length c').ownBlock = some q → (Value.slice A ls.length cap).ownBlock = some q from fun q h1 e => by
          rcases hwhere with h | h
          · exact h ▸ e
          · rw [h] at e
            injection e with e
            have := HBZ.out.1
            omega)
        have y8 := r3.cells.2.2.2.2.2.2.2.2
        have y7 := r3.cells.2.2.2.2.2.2.2.1
        have yf := r3.thaw 8
        have z8 := HEZ.out.cells.2.2.2.2.2.2.2.2
        have z7 := HEZ.out.cells.2.2.2.2.2.2.2.1
        have hyg : g < Z.heap.size := HEZ.out.lt
        have HRUN := Lib.hid hrun
        have HO3 := Lib.hid hown3
        have HMID := Lib.hid (show Mid9 base g s st ls.length va vm vb (.slice A ls.length cap) c str #[.int .i64 kd, .int .i64 ps, .int .i64 st, .string ⟨tx.toArray⟩] w (w3.setCell ⟨g, 8, none⟩ (.slice A' (ls ++ [(x, str)]).length c')) from
          ⟨A', c', ls ++ [(x, str)], HEW.out.set8 _, own_same HO3.out (fun q hq => Below.heap_setCell _ _ _ _ (by dsimp only; intro e; exact HGW.out (by rw [← e]; exact hq))), by simp, HFW.out.trans (FP.of_box (v := .slice A ls.length cap) ((OneBox.refl g w3).set 8 _) HBG.out.1) (fun q _ e => e), HQW.out, (Below.heap_setCell _ _ _ _ (by dsimp only; have := HBG.out.2; omega)).trans HNW.out, HGW.out⟩)
        rw [show (ls ++ [(x, str)]).length = ls.length + 1 by simp] at HMID
        clear hkp r3 hrun hown3 hgrow3 hwhere
        go_wp2_with fail
        go_region_law (refine step_append_eq rfl _ _ 58 rfl 58 rfl _ _ rfl rfl HRUN.out ?_)
        all_goals (repeat go_step)
        all_goals go_meet
        all_goals exact HMID
  case rest =>
    obtain ⟨A', cap', ls', m1, m2, m3, m4, m5, m6, m7⟩ := hcut.out
    clear x0 x1 x2 x3 x4 x5 x6 x7 x8 f6 HX HE2 HO2 HX1 HN HLT
    have HM1 := Lib.hid m1
    have HM2 := Lib.hid m2
    have HM3 := Lib.hid m3
    have HM4 := Lib.hid m4
    have HM5 := Lib.hid m5
    have HM7 := Lib.hid m7
    have hgc : g < wc.heap.size := m1.lt
    obtain ⟨-, -, -, -, -, y5, y6, y7, -⟩ := m1.cells
    have f5 := m1.thaw 5
    have f6 := m1.thaw 6
    have f7 := m1.thaw 7
    obtain ⟨t0, -, -, t3, -⟩ := blk4 m6
    have hgw : ¬ g = w.heap.size := by omega
    have hwc : w.heap.size < wc.heap.size := (Array.getElem?_eq_some_iff.1 m6).1
    have HM6 := Lib.hid m6
    clear m1 m2 m3 m4 m5 m6 m7 hcut
    by_cases h3 : kd = 3
    · subst h3
      have HSK := Lib.hid (skip_any ls' base g s st va vm vb A' cap' c false str wc HM1.out HM2.out HM7.out (by obtain ⟨m, hm⟩ := HENV.out; exact ⟨m, (World.cell?_of_block (HM4.out.below.block _ (Nat.lt_of_lt_of_le HBS.out (Nat.le_refl _)))).trans hm⟩) HG0.out HL.out.2.1 HL.out.2.2.1 (by have := HL.out; have := HM3.out; omega))
      go_wp2_with fail
      refine HSK.out.mono ?_
      rintro e Z ⟨rfl, a2, ha1, ha2, hez, hoz⟩
      have z5 := hez.cells.2.2.2.2.2.1
      have zf := hez.thaw 5
      have HF := Lib.hid (show PassOut base g s st ls.length va vm vb (.slice A ls.length cap) w (Z.setCell ⟨g, 5, none⟩ (.bool true)) from
        ⟨a2, true, false, str, none, 0, [], ha1, ha2, hez.set5 true, World.ownsRow_nil _ _ _ _, by simp, HM4.out.trans (FP.of_box (v := .slice A ls.length cap) (hoz.set 5 _) HBG.out.1) (fun q _ e => e), fun q _ e => by cases e⟩)
      clear hez hoz ha1 ha2
      go_wp2
      first | go_end0 | refine bodyPost_ret (results_none rfl _ _ _) rfl ?_
      exact ⟨rfl, HF.out⟩
    by_cases h2 : kd = 2
    · subst h2
      obtain ⟨b1, hb1⟩ : ∃ b1, (tx == [60, 60]) = b1 := ⟨_, rfl⟩
      obtain ⟨b2, hb2⟩ : ∃ b2, (tx == [60, 60, 45]) = b2 := ⟨_, rfl⟩
      obtain ⟨Y, hY⟩ : ∃ Y, Y = (wc.setCell ⟨g, 6, none⟩ (.bool (b1 || b2))).setCell ⟨g, 7, none⟩ (.bool b2) := ⟨_, rfl⟩
      have e3 : EB Y g s st va vm vb c (b1 || b2) b2 (.slice A' ls'.length cap') := by rw [hY]; exact (HM1.out.set6 _).set7 _
      have hY1 : OneBox g wc Y := by rw [hY]; exact ((OneBox.refl g wc).set 6 _).set 7 _
      have hYs : Y.heap.size = wc.heap.size := by rw [hY]; simp
      obtain ⟨Z, hZ⟩ : ∃ Z, Z = Y.alloc (.cells #[.string ⟨#[59]⟩, .string ⟨#[38]⟩, .string ⟨#[38, 38]⟩, .string ⟨#[124, 124]⟩, .string ⟨#[124]⟩, .string ⟨#[40]⟩] 9) := ⟨_, rfl⟩
      have e4 : EB Z g s st va vm vb c (b1 || b2) b2 (.slice A' ls'.length cap') := by rw [hZ]; exact e3.new (balloc Y _)
      have hZ1 : OneBox g wc Z := by rw [hZ]; exact hY1.alloc hgc _
      have hnZ : Z.heap[wc.heap.size]? = some (.cells #[.string ⟨#[59]⟩, .string ⟨#[38]⟩, .string ⟨#[38, 38]⟩, .string ⟨#[124, 124]⟩, .string ⟨#[124]⟩, .string ⟨#[40]⟩] 9 (0, 0)) := by rw [hZ, ← hYs]; exact al_new Y _
      have HC := Lib.hid (Contains_str opsL tx wc.heap.size 6 Z (fun j x hx => by
        match j, hx with
        | 0, h => simp [opsL] at h; subst h; exact Lib.cell_of_heap hnZ 0
        | 1, h => simp [opsL] at h; subst h; exact Lib.cell_of_heap hnZ 1
        | 2, h => simp [opsL] at h; subst h; exact Lib.cell_of_heap hnZ 2
        | 3, h => simp [opsL] at h; subst h; exact Lib.cell_of_heap hnZ 3
        | 4, h => simp [opsL] at h; subst h; exact Lib.cell_of_heap hnZ 4
        | 5, h => simp [opsL] at h; subst h; exact Lib.cell_of_heap hnZ 5
        | n + 6, h => simp [opsL] at h) (by decide))
      have HF := Lib.hid (fun b => show PassOut base g s st ls.length va vm vb (.slice A ls.length cap) w (Z.setCell ⟨g, 5, none⟩ (.bool b)) from
        pass_end HL.out.2.2.1 HBG.out.1 HM2.out HM3.out HM4.out HM5.out HM7.out (e4.set5 b) (hZ1.set _ _))
      obtain ⟨-, -, -, -, -, z5, -⟩ := e4.cells
      have zf := e4.thaw 5
      have HZ := Lib.hid (show Z = ((wc.setCell ⟨g, 6, none⟩ (.bool (b1 || b2))).setCell ⟨g, 7, none⟩ (.bool b2)).alloc (.cells #[.string ⟨#[59]⟩, .string ⟨#[38]⟩, .string ⟨#[38, 38]⟩, .string ⟨#[124, 124]⟩, .string ⟨#[124]⟩, .string ⟨#[40]⟩] 9) by rw [hZ, hY])
      obtain ⟨bo, hbo⟩ : ∃ bo, opsL.contains tx = bo := ⟨_, rfl⟩
      rw [hbo] at HC
      clear hbo e3 hY1 hYs hY hZ hnZ e4 hZ1
      cases b1
      case false =>
        have HZ2 := HZ.out
        simp only [Bool.false_or] at HZ2
        have HZ3 := Lib.hid HZ2
        clear HZ2 HZ
        go_upto_region 15 with (fail)
        go_wp2_with fail
        rw [← HZ3.out]
        refine HC.out.mono ?_
        rintro e Z1 ⟨rfl, rfl⟩
        go_wp2
        first | go_end0 | refine bodyPost_ret (results_none rfl _ _ _) rfl ?_
        exact ⟨rfl, HF.out _⟩
      case true =>
        have HZ2 := HZ.out
        simp only [Bool.true_or] at HZ2
        have HZ3 := Lib.hid HZ2
        clear HZ2 HZ
        go_upto_region 15 with (fail)
        go_wp2_with fail
        rw [← HZ3.out]
        refine HC.out.mono ?_
        rintro e Z1 ⟨rfl, rfl⟩
        go_wp2
        first | go_end0 | refine bodyPost_ret (results_none rfl _ _ _) rfl ?_
        exact ⟨rfl, HF.out _⟩
    · have HI := Lib.hid (introduces_any tx wc)
      have HF := Lib.hid (fun b => show PassOut base g s st ls.length va vm vb (.slice A ls.length cap) w (wc.setCell ⟨g, 5, none⟩ (.bool b)) from
        pass_end HL.out.2.2.1 HBG.out.1 HM2.out HM3.out HM4.out HM5.out HM7.out (HM1.out.set5 b) ((OneBox.refl g wc).set _ _))
      have k2 : ((kd : Int) == 2) = false := by rw [beq_eq_false_iff_ne]; omega
      have k3 : ((kd : Int) == 3) = false := by rw [beq_eq_false_iff_ne]; omega
      obtain ⟨k1, hk1⟩ : ∃ k1, (kd == 1) = k1 := ⟨_, rfl⟩
      have k4 : ((kd : Int) == 1) = k1 := by rw [← hk1]; cases h : (kd == 1) <;> simp_all <;> omega
      clear h2 h3 hk1 y6 y7 f6 f7
      cases c
      case false =>
        go_wp2
        first | go_end0 | refine bodyPost_ret (results_none rfl _ _ _) rfl ?_
        exact ⟨rfl, HF.out _⟩
      case true =>
        cases k1
        case false =>
          go_wp2
          first | go_end0 | refine bodyPost_ret (results_none rfl _ _ _) rfl ?_
          exact ⟨rfl, HF.out _⟩
        case true =>
          go_wp2_with fail
          refine HI.out.mono ?_
          rintro e X1 ⟨rfl, rfl⟩
          go_wp2
          first | go_end0 | refine bodyPost_ret (results_none rfl _ _ _) rfl ?_
          exact ⟨rfl, HF.out _⟩
end W
end Go.Proofs.YtelhobphphkidaaGreatDoor
