/- Several texts in one: G08m G08n G08o. -/
import Derived.Test.YtmgomklpjjkehaaGreatYI
import Derived.Laws.EntriesVeiled
namespace Go.Proofs.YtmgomklpjjkehaaGreat
open Go.RowKit K
open WP (GP gp gpL)
namespace W
theorem infoStr : (Tryz.prog.info? 9).map (fun i => (i.zero, i.size, i.bytes)) = some (some (.string ⟨#[]⟩), 1, 16) := by kernel_rfl
def strCellsL (l : List (List UInt8)) : List Value := l.map fun s => .string ⟨s.toArray⟩
/-- What stays where the strings of block b grow. -/
structure Tkept (b : Nat) (w w' : World) : Prop where
  below : Below b w w'
  others : Lib.OthersKept 9 (some b) w w'
theorem Tkept.refl (b : Nat) (w : World) : Tkept b w w := ⟨Below.refl _ _, Lib.OthersKept.refl _ _ _⟩
theorem Tkept.trans {b : Nat} {u v w : World} (h : Tkept b u v) (k : Tkept b v w) : Tkept b u w := ⟨h.below.trans k.below, h.others.trans k.others⟩
theorem Tkept.of_below {b : Nat} {w w' : World} (h : Below w.heap.size w w') (hb : b ≤ w.heap.size) : Tkept b w w' := ⟨h.mono hb, fun k _ hk _ _ => (h.block k (Array.getElem?_eq_some_iff.1 hk).1).trans hk⟩
theorem Tkept.cells {b q : Nat} {w w' : World} {cs : Array Value} {T : TypeId} (h : Tkept b w w') (hq : w.heap[q]? = some (.cells cs T (0, 0))) (hne : q ≠ b) (hT : T ≠ 9) : w'.heap[q]? = some (.cells cs T (0, 0)) :=
  h.others q _ hq (fun e => hne (Option.some.inj e)) (fun c fz e => by injection e with _ e2 _; exact hT e2)
/-- The closure's three variables, and what was found so far. -/
structure TX (b : Nat) (K : Int) (acc : List (List UInt8)) (w : World) : Prop where
  kind : w.heap[b]? = some (.cells #[.int .i64 K] 3 (0, 0))
  found : ∃ v, w.heap[b + 1]? = some (.cells #[v] 41 (0, 0)) ∧ w.ownsRow (b + 3) 9 1 v acc.length (strCellsL acc)
  visit : w.heap[b + 2]? = some (.cells #[.func (Fn.func 36) #[] #[.pointer (some ⟨b, 0, none⟩), .pointer (some ⟨b + 1, 0, none⟩), .pointer (some ⟨b + 2, 0, none⟩)]] 76 (0, 0))
theorem TX.lt {b : Nat} {K : Int} {acc : List (List UInt8)} {w : World} (h : TX b K acc w) : b + 2 < w.heap.size := (Array.getElem?_eq_some_iff.1 h.visit).1
theorem TX.below {b : Nat} {K : Int} {acc : List (List UInt8)} {w w' : World} (h : TX b K acc w) (hb : Below w.heap.size w w') : TX b K acc w' := by
  have hl := h.lt
  obtain ⟨v, h1, h2⟩ := h.found
  exact ⟨(hb.block b (by omega)).trans h.kind, ⟨v, (hb.block (b + 1) (by omega)).trans h1, row_below h2 hb⟩, (hb.block (b + 2) hl).trans h.visit⟩
def VisitN (n : Nat) : Prop := ∀ (b : Nat) (K : Int) (acc : List (List UInt8)) (v : Value) (l : List GP) (w : World), WP.cntL l < n → acc.length + WP.cntL l ≤ 1000000 → GS w (fun q => q < b) v l → TX b K acc w →
  Calls Tryz.prog 36 #[v, .pointer (some ⟨b, 0, none⟩), .pointer (some ⟨b + 1, 0, none⟩), .pointer (some ⟨b + 2, 0, none⟩)] w fun e w' => e = .returned (.tuple #[]) ∧ TX b K (acc ++ WP.txtL K l) w' ∧ Tkept (b + 1) w w'
theorem txt_drop {l : List GP} {k : Nat} {p : GP} (K : Int) (h : l.drop k = p :: l.drop (k + 1)) : WP.txtL K (l.drop k) = WP.txtP K p ++ WP.txtL K (l.drop (k + 1)) := by rw [h, WP.txtL]
theorem txtP_eq (K k : Int) (t : List UInt8) (o : Int) (c : Bool) (ps : List GP) : WP.txtP K (.mk k t o c ps) = (if k = K then [t] else []) ++ WP.txtL K ps := by rw [WP.txtP]
mutual
theorem txtP_len (K : Int) : ∀ p : GP, (WP.txtP K p).length ≤ WP.cntP p
  | .mk k t o c ps => by
    have := txtL_len K ps
    rw [WP.txtP, WP.cntP, List.length_append]
    split <;> simp <;> omega
theorem txtL_len (K : Int) : ∀ l : List GP, (WP.txtL K l).length ≤ WP.cntL l
  | [] => Nat.le_refl _
  | p :: r => by
    have h1 := txtP_len K p
    have h2 := txtL_len K r
    rw [WP.txtL, WP.cntL, List.length_append]
    omega
end
theorem one_cells_at (w : World) (x : Value) (t : TypeId) (k : Nat) (hk : k = w.heap.size) : ∀ (j : Nat) (u : Value), [x][j]? = some u → (w.alloc (.cells #[x] t)).cell? ((⟨k, 0, none⟩ : Addr).add j) = some u := by
  subst hk
  exact one_cells w x t
set_option maxRecDepth 100000 in
set_option maxHeartbeats 8000000 in
theorem visit_step {n : Nat} (IH : VisitN n) : VisitN (n + 1) := by
  intro b K acc v l w hn hm hG hT
  obtain ⟨A, cap, rfl⟩ := hG.slice
  obtain ⟨i0, hi, hz0, hz1, hz2⟩ := info_parts infoStr
  obtain ⟨OUT, hOUT⟩ : ∃ OUT, acc ++ WP.txtL K l = OUT := ⟨_, rfl⟩
  rw [hOUT]
  have HST := Lib.hid (show ∃ a, TX b K a w ∧ a ++ WP.txtL K (l.drop 0) = OUT ∧ a.length + WP.cntL (l.drop 0) ≤ 1000000 ∧ Tkept (b + 1) w w from ⟨acc, hT, hOUT, hm, Tkept.refl _ _⟩)
  have HG := Lib.hid hG
  have HIH := Lib.hid IH
  have hll := len_cnt l
  have hpl : l.length ≤ 1000000 := by omega
  have HCN := Lib.hid hn
  clear hOUT hT hG IH hm hn hll
  go_enter Tryz.func36, Tryz.ntmps36
  go_wp2
  go_loopw [9] (fun i wr => ∃ k : Nat, k ≤ l.length ∧ i = .int .i64 k ∧ Hid (∃ a, TX b K a wr ∧ a ++ WP.txtL K (l.drop k) = OUT ∧ a.length + WP.cntL (l.drop k) ≤ 1000000 ∧ Tkept (b + 1) w wr)) (fun i _ => l.length - (intOf i).toNat)
  case atStart => exact ⟨0, Nat.zero_le _, rfl, HST⟩
  case round =>
    obtain ⟨k, hk, rfl, HR⟩ := hrel
    obtain ⟨a, hT, ho, hc, hkw⟩ := HR.out
    have HT := Lib.hid hT
    have HO := Lib.hid ho
    have HKW := Lib.hid hkw
    have hbl := hT.lt
    clear hT ho hkw HR HST
    by_cases hlt : k < l.length
    · obtain ⟨p, hp, hd⟩ := get_of_lt hlt
      have HTD := Lib.hid (txt_drop K hd)
      have hcd := cnt_drop hd
      have HGW := Lib.hid (HG.out.kept (HKW.out.below.mono (by omega)))
      obtain ⟨q, off, A2, cap2, rfl, hbg, g0, g1, g2, g3, g4, hg⟩ := HGW.out.get hp
      have hbr : q < wr.heap.size := by omega
      have hb0 : b < wr.heap.size := by omega
      have hb1 : b + 1 < wr.heap.size := by omega
      have hcp := cnt_get hp
      clear hp hd
      obtain ⟨kd, t, o, c, qs⟩ := p
      dsimp only [WP.GP.kind, WP.GP.text, WP.GP.op, WP.GP.colon, WP.GP.parts] at g0 g1 g2 g3 g4 hg hcp
      rw [cntP_eq] at hcd
      rw [txtP_eq] at HTD
      have hqs : (0 : Int) ≤ (qs.length : Int) := by omega
      have hqn : WP.cntL qs < n := by have := HCN.out; omega
      have hal : a.length + (1 + WP.cntL qs) ≤ 1000000 := by omega
      have HCD := Lib.hid (show ∀ m, m ≤ 1 + WP.cntL qs → a.length + m + WP.cntL (l.drop (k + 1)) ≤ 1000000 from fun m hm => by omega)
      obtain ⟨X, hX⟩ : ∃ X, X = wr.alloc (.cells #[.int .i64 kd, .string ⟨t.toArray⟩, .int .i64 o, .bool c, .slice A2 qs.length cap2] 38) := ⟨_, rfl⟩
      have HWX := Lib.hid (show Below wr.heap.size wr X by rw [hX]; exact balloc _ _)
      have hxp : X.heap[wr.heap.size]? = some (.cells #[.int .i64 kd, .string ⟨t.toArray⟩, .int .i64 o, .bool c, .slice A2 qs.length cap2] 38 (0, 0)) := by rw [hX]; exact al_new wr _
      have HXP := Lib.hid hxp
      have HTX := Lib.hid (HT.out.below HWX.out)
      have HKX := Lib.hid (HKW.out.trans (Tkept.of_below HWX.out (by omega)))
      have HGX := Lib.hid (show GS X (fun q => q < b) (.slice A2 qs.length cap2) qs from hg.below HWX.out)
      have HX := Lib.hid hX
      have t0 : X.cell? ⟨b, 0, none⟩ = some (.int .i64 K) := Lib.cell_of_heap HTX.out.kind 0
      have t2 : X.cell? ⟨b + 2, 0, none⟩ = some (.func (Fn.func 36) #[] #[.pointer (some ⟨b, 0, none⟩), .pointer (some ⟨b + 1, 0, none⟩), .pointer (some ⟨b + 2, 0, none⟩)]) := Lib.cell_of_heap HTX.out.visit 0
      have x0 : X.cell? ⟨wr.heap.size, 0, none⟩ = some (.int .i64 kd) := Lib.cell_of_heap hxp 0
      have x1 : X.cell? ⟨wr.heap.size, 1, none⟩ = some (.string ⟨t.toArray⟩) := Lib.cell_of_heap hxp 1
      have x4 : X.cell? ⟨wr.heap.size, 4, none⟩ = some (.slice A2 qs.length cap2) := Lib.cell_of_heap hxp 4
      have hxs : wr.heap.size < X.heap.size := by rw [hX]; simp
      have s0 : wr.cell? ⟨b, 0, none⟩ = some (.int .i64 K) := Lib.cell_of_heap HT.out.kind 0
      have s2 : wr.cell? ⟨b + 2, 0, none⟩ = some (.func (Fn.func 36) #[] #[.pointer (some ⟨b, 0, none⟩), .pointer (some ⟨b + 1, 0, none⟩), .pointer (some ⟨b + 2, 0, none⟩)]) := Lib.cell_of_heap HT.out.visit 0
      clear hX hxp hbg hcp hcd hc
      by_cases hkK : kd = K
      · have e1 : (kd == K) = true := by rw [beq_iff_eq]; exact hkK
        rw [if_pos hkK] at HTD
        obtain ⟨v, hv1, hv2⟩ := HT.out.found
        have HV1 := Lib.hid hv1
        have HV2 := Lib.hid hv2
        obtain ⟨Av, cv, rfl⟩ := row_val hv2
        have s1 : wr.cell? ⟨b + 1, 0, none⟩ = some (.slice Av a.length cv) := Lib.cell_of_heap hv1 0
        have hn1 : a.length + 1 ≤ 1000000 := by omega
        have HXV := Lib.hid (row_below hv2 (balloc wr (.cells #[.int .i64 kd, .string ⟨t.toArray⟩, .int .i64 o, .bool c, .slice A2 qs.length cap2] 38)))
        have HFX := Lib.hid ((HWX.out.block (b + 1) hb1).trans hv1)
        have HLA := Lib.hid (show (strCellsL a).length = a.length by simp [strCellsL])
        clear hv1 hv2 hkK
        go_wp2_with (at_builtin; refine wpList_append_own _ rfl _ _ 41 rfl (b + 3) 9 i0 (.string ⟨#[]⟩) 1 16 Tryz.underlying41 hi hz0 hz1 hz2 rfl (by decide) _ _ _ rfl (HXV.out.alloc _) ⟨wr.heap.size + 1, 0, none⟩ 1 1 [.string ⟨t.toArray⟩] rfl rfl (one_cells_at _ _ _ _ (by simp)) (by intro u hu; simp at hu; subst hu; rfl) (by unfold maxLen; omega) (by omega) (by simp; omega) ?_)
        intro v' w2 hown' hgrow _
        have HO2 := Lib.hid hown'
        have HGR := Lib.hid hgrow
        have HOB := Lib.hid (show ∀ r, (Value.slice Av a.length cv).ownBlock = some r → b + 3 ≤ r ∧ r < wr.heap.size from fun r hr => ⟨(HV2.out.lt r hr).1, own_lt HV2.out r hr⟩)
        have HW2 := Lib.hid (show Below (b + 1) wr w2 from ((((Below.refl _ _).alloc (by omega) _).alloc (by simp; omega) _).grown hgrow (by simp; omega) (fun r hr => by have := (HV2.out.lt r hr).1; omega)))
        have HKB := Lib.hid (show ∀ r, r < wr.heap.size → r < b + 3 → w2.heap[r]? = wr.heap[r]? from fun r h1 h2 => by
          rw [hgrow.block r (by simp; omega) (fun e => by have := HOB.out r e.symm; omega)]
          exact (btr (balloc wr _) (balloc _ _)).block r h1)
        have HOT := Lib.hid (show Lib.OthersKept 9 (some (b + 1)) wr w2 from (((Lib.OthersKept.refl _ _ wr).alloc _).alloc _).grown hgrow (row_kind (HXV.out.alloc _)))
        have HPX := Lib.hid (show w2.heap[wr.heap.size]? = some (.cells #[.int .i64 kd, .string ⟨t.toArray⟩, .int .i64 o, .bool c, .slice A2 qs.length cap2] 38 (0, 0)) from by
          rw [hgrow.block wr.heap.size (by simp; omega) (fun e => by have := HOB.out _ e.symm; omega)]
          exact ((balloc _ _).block _ (by simp)).trans (al_new wr _))
        obtain ⟨Ao, co, rfl⟩ := row_val hown'
        clear hown' hgrow
        have HF2 := Lib.hid ((HKB.out (b + 1) hb1 (by omega)).trans HV1.out)
        have z1 : w2.cell? ⟨b + 1, 0, none⟩ = some (.slice Av a.length cv) := Lib.cell_of_heap HF2.out 0
        have zf : w2.frozen? ⟨b + 1, 0, none⟩ = false := Lib.frozen_of_heap HF2.out 0
        have HV3 := Lib.hid ((HKB.out (b + 2) hbl (by omega)).trans HT.out.visit)
        have z2 : w2.cell? ⟨b + 2, 0, none⟩ = some (.func (Fn.func 36) #[] #[.pointer (some ⟨b, 0, none⟩), .pointer (some ⟨b + 1, 0, none⟩), .pointer (some ⟨b + 2, 0, none⟩)]) := Lib.cell_of_heap HV3.out 0
        have z4 : w2.cell? ⟨wr.heap.size, 4, none⟩ = some (.slice A2 qs.length cap2) := Lib.cell_of_heap HPX.out 4
        have n1 : ¬ b + 1 = wr.heap.size := by omega
        obtain ⟨Y, hY⟩ : ∃ Y, Y = w2.setCell ⟨b + 1, 0, none⟩ (.slice Ao (a.length + 1) co) := ⟨_, rfl⟩
        have HTY := Lib.hid (show TX b K (a ++ [t]) Y from by
          rw [hY]
          refine ⟨(Below.heap_setCell _ _ _ b (by dsimp only; omega)).trans ((HKB.out b hb0 (by omega)).trans HT.out.kind), ⟨.slice Ao (a.length + 1) co, ?_, row_set ?_ (by simp) _⟩, (Below.heap_setCell _ _ _ (b + 2) (by dsimp only; omega)).trans HV3.out⟩
          · rw [heap_setCell_same w2 (b + 1) 0 _ _ _ HF2.out]; simp
          · have := HO2.out
            rw [List.length_append, List.length_singleton, show strCellsL (a ++ [t]) = strCellsL a ++ [.string ⟨t.toArray⟩] by simp [strCellsL]]
            exact this)
        have HKY := Lib.hid (show Tkept (b + 1) w Y from by
          rw [hY]
          exact ⟨HKW.out.below.trans (HW2.out.setCell (p := ⟨b + 1, 0, none⟩) (Nat.le_refl _) _), HKW.out.others.trans (HOT.out.setCell ⟨b + 1, 0, none⟩ rfl _)⟩)
        have HGY := Lib.hid (show GS Y (fun q => q < b) (.slice A2 qs.length cap2) qs from by
          rw [hY]
          exact hg.kept ((HW2.out.setCell (p := ⟨b + 1, 0, none⟩) (Nat.le_refl _) _).mono (by omega)))
        have HV := Lib.hid (HIH.out b K (a ++ [t]) (.slice A2 qs.length cap2) qs Y hqn (by rw [List.length_append, List.length_singleton]; omega) HGY.out HTY.out)
        have HL := Lib.hid (txtL_len K qs)
        have HYY := Lib.hid hY
        clear hY
        go_wp2_with fail
        rw [← HYY.out]
        refine HV.out.mono ?_
        rintro e Z ⟨rfl, htz, hkz⟩
        have HTZ := Lib.hid htz
        have HKZ := Lib.hid (HKY.out.trans hkz)
        clear htz hkz
        go_wp2
        go_roundw
        case rel => exact ⟨k + 1, hlt, by go_num, Lib.hid ⟨a ++ [t] ++ WP.txtL K qs, HTZ.out, by rw [← HO.out, HTD.out]; simp, by rw [List.append_assoc, List.length_append]; exact HCD.out _ (by have := HL.out; rw [List.length_append, List.length_singleton]; omega), HKZ.out⟩⟩
        case measure => simp [intOf]; omega
      · have e1 := beq_f hkK
        rw [if_neg hkK, List.nil_append] at HTD
        have HV := Lib.hid (HIH.out b K a (.slice A2 qs.length cap2) qs X hqn (by omega) HGX.out HTX.out)
        have HL := Lib.hid (txtL_len K qs)
        clear hkK
        go_wp2_with fail
        rw [← HX.out]
        refine HV.out.mono ?_
        rintro e Y ⟨rfl, hty, hky⟩
        have HTY := Lib.hid hty
        have HKY := Lib.hid (HKX.out.trans hky)
        clear hty hky
        go_wp2
        go_roundw
        case rel => exact ⟨k + 1, hlt, by go_num, Lib.hid ⟨a ++ WP.txtL K qs, HTY.out, by rw [List.append_assoc, ← HTD.out]; exact HO.out, by rw [List.length_append]; exact HCD.out _ (by have := HL.out; omega), HKY.out⟩⟩
        case measure => simp [intOf]; omega
    · have HF := Lib.hid (show a = OUT from by
        have h1 := HO.out
        rw [show l.drop k = [] from List.drop_eq_nil_of_le (by omega), WP.txtL, List.append_nil] at h1
        exact h1)
      go_wp2
      go_end0
      exact ⟨rfl, by rw [← HF.out]; exact HT.out, HKW.out⟩
end W
end Go.Proofs.YtmgomklpjjkehaaGreat
namespace Go.Proofs.YtmgomklpjjkehaaGreat
open Go.RowKit K
open WP (GP gp gpL)
namespace W
theorem visit_all : ∀ n, VisitN n := by
  intro n
  induction n with
  | zero => intro b K acc v l w h; exact absurd h (Nat.not_lt_zero _)
  | succ n ih => exact visit_step ih
/-- What Params gives: a row of strings of its own. -/
def StrOut (B : Nat) (w : World) (ss : List (List UInt8)) (e : Ending) (w' : World) : Prop := ∃ A cap, e = .returned (.slice A ss.length cap) ∧ Below w.heap.size w w' ∧ w'.ownsRow B 9 1 (.slice A ss.length cap) ss.length (strCellsL ss)
set_option maxRecDepth 100000 in
set_option maxHeartbeats 4000000 in
theorem texts_any (K : Int) (v : Value) (l : List GP) (w : World) (h : GS w (fun q => q < w.heap.size) v l) (hn : WP.cntL l ≤ 1000000) : Calls Tryz.prog 25 #[v, .int .i64 K] w (StrOut w.heap.size w (WP.txtL K l)) := by
  obtain ⟨A, cap, rfl⟩ := h.slice
  have hmf : ∀ (fn : Fn) (first cap : Array Value) (w : World), (Instr.makeFunc fn first cap).run Tryz.prog w = .ok (.func fn first cap) w := fun _ _ _ _ => rfl
  obtain ⟨F, hF⟩ : ∃ F, F = Value.func (Fn.func 36) #[] #[.pointer (some ⟨w.heap.size, 0, none⟩), .pointer (some ⟨w.heap.size + 1, 0, none⟩), .pointer (some ⟨w.heap.size + 1 + 1, 0, none⟩)] := ⟨_, rfl⟩
  obtain ⟨X, hX⟩ : ∃ X, X = ((w.alloc (.cells #[.int .i64 K] 3)).alloc (.cells #[.slice none 0 0] 41)).alloc (.cells #[F] 76) := ⟨_, rfl⟩
  have HWX := Lib.hid (show Below w.heap.size w X by rw [hX]; exact btr (btr (balloc _ _) (balloc _ _)) (balloc _ _))
  have HTX := Lib.hid (show TX w.heap.size K [] X from by
    refine ⟨?_, ⟨.slice none 0 0, ?_, ⟨rfl, .inl ⟨rfl, rfl⟩⟩⟩, ?_⟩
    · rw [hX]
      exact ((balloc _ _).block _ (by simp; omega)).trans (((balloc _ _).block _ (by simp)).trans (al_new w _))
    · rw [hX]
      exact ((balloc _ _).block _ (by simp)).trans (al_new' _ _ _ (by simp))
    · rw [hX, hF]
      exact al_new' _ _ _ (by simp))
  have HV := Lib.hid (show Calls Tryz.prog 36 #[.slice A l.length cap, .pointer (some ⟨w.heap.size, 0, none⟩), .pointer (some ⟨w.heap.size + 1, 0, none⟩), .pointer (some ⟨w.heap.size + 1 + 1, 0, none⟩)] X fun e w' => e = .returned (.tuple #[]) ∧ TX w.heap.size K (WP.txtL K l) w' ∧ Tkept (w.heap.size + 1) X w' from
    visit_all (WP.cntL l + 1) w.heap.size K [] _ l X (Nat.lt_succ_self _) (by simpa using hn) (h.below HWX.out) HTX.out)
  have HX := Lib.hid hX
  have HF := Lib.hid hF
  clear h hX hF
  go_enter Tryz.func25, Tryz.ntmps25
  go_wp2_with fail
  rw [← HF.out, ← HX.out]
  refine HV.out.mono ?_
  rintro e Y ⟨rfl, hty, hky⟩
  have HY := Lib.hid (HWX.out.trans (hky.below.mono (by omega)))
  obtain ⟨v, hv1, hv2⟩ := hty.found
  obtain ⟨Av, cv, rfl⟩ := row_val hv2
  have y1 : Y.cell? ⟨w.heap.size + 1, 0, none⟩ = some (.slice Av (WP.txtL K l).length cv) := Lib.cell_of_heap hv1 0
  have HR := Lib.hid (show Y.ownsRow w.heap.size 9 1 (.slice Av (WP.txtL K l).length cv) (WP.txtL K l).length (strCellsL (WP.txtL K l)) from ⟨hv2.1, hv2.2.imp id (fun ⟨g, c, cur, h1, h2, h3⟩ => ⟨g, c, cur, h1, by omega, h3⟩)⟩)
  clear hv1 hv2 hty hky
  go_wp2
  go_ret
  exact ⟨Av, cv, rfl, HY.out, HR.out⟩
theorem Params_any (v : Value) (l : List GP) (w : World) (h : GS w (fun q => q < w.heap.size) v l) (hn : WP.cntL l ≤ 1000000) : Calls Tryz.prog 16 #[v] w (StrOut w.heap.size w (WP.txtL 4 l)) := by
  obtain ⟨A, cap, rfl⟩ := h.slice
  have HT := Lib.hid (texts_any 4 _ l w h hn)
  clear h hn
  go_enter Tryz.func16, Tryz.ntmps16
  go_wp2_with fail
  refine HT.out.mono ?_
  rintro e Y ⟨Av, cv, rfl, hb, hr⟩
  have HB := Lib.hid hb
  have HR := Lib.hid hr
  clear hb hr
  go_wp2
  go_ret
  exact ⟨Av, cv, rfl, HB.out, HR.out⟩
end W
end Go.Proofs.YtmgomklpjjkehaaGreat
namespace Go.Proofs.YtmgomklpjjkehaaGreat
open Go.RowKit K
namespace W
/-- A slice of strings. -/
def SSl (w : World) (F : Nat → Prop) (v : Value) (ss : List (List UInt8)) : Prop :=
  ∃ (A : Option Addr) (cap : Nat), v = .slice A ss.length cap ∧ (ss = [] ∨ ∃ b off, A = some ⟨b, off, none⟩ ∧ F b ∧ ∀ j s, ss[j]? = some s → w.cell? ⟨b, off + j, none⟩ = some (.string ⟨s.toArray⟩))
theorem SSl.slice {w : World} {F : Nat → Prop} {v : Value} {ss : List (List UInt8)} (h : SSl w F v ss) : ∃ A cap, v = .slice A ss.length cap := by
  obtain ⟨A, cap, h1, _⟩ := h
  exact ⟨A, cap, h1⟩
theorem SSl.below {w w' : World} {v : Value} {ss : List (List UInt8)} (h : SSl w (fun b => b < w.heap.size) v ss) (hb : Below w.heap.size w w') : SSl w' (fun b => b < w.heap.size) v ss := by
  obtain ⟨A, cap, h1, h2⟩ := h
  refine ⟨A, cap, h1, h2.imp id (fun ⟨b, off, h3, h4, h5⟩ => ⟨b, off, h3, h4, fun j s hj => ?_⟩)⟩
  rw [hb.cell (p := ⟨b, off + j, none⟩) h4]
  exact h5 j s hj
theorem SSl.get {w : World} {F : Nat → Prop} {A : Option Addr} {n cap : Nat} {ss : List (List UInt8)} (h : SSl w F (.slice A n cap) ss) {j : Nat} {s : List UInt8} (hj : ss[j]? = some s) : ∃ b off, A = some ⟨b, off, none⟩ ∧ F b ∧ w.cell? ⟨b, off + j, none⟩ = some (.string ⟨s.toArray⟩) := by
  obtain ⟨A', cap', h1, h2⟩ := h
  injection h1 with h1 _ _
  subst h1
  rcases h2 with h2 | ⟨b, off, h3, h4, h5⟩
  · rw [h2] at hj; simp at hj
  · exact ⟨b, off, h3, h4, h5 j s hj⟩
theorem SSl.of_row {w : World} {B : Nat} {v : Value} {ss : List (List UInt8)} (h : w.ownsRow B 9 1 v ss.length (strCellsL ss)) : SSl w (fun b => b < w.heap.size) v ss := by
  obtain ⟨A, cap, hv⟩ := row_val h
  refine ⟨A, cap, hv, ?_⟩
  rcases h.2 with ⟨_, hn⟩ | ⟨g, cap', cur, hv', hB, hg, _⟩
  · exact .inl (List.length_eq_zero_iff.1 hn)
  · rw [hv] at hv'
    injection hv' with hA _ _
    refine .inr ⟨g, 0, hA, (Array.getElem?_eq_some_iff.1 hg).1, fun j s hj => ?_⟩
    have := h.cells (g := g) (by rw [hv, hA]; rfl) j (.string ⟨s.toArray⟩) (by simp [strCellsL, hj])
    rw [Nat.zero_add]
    rcases Nat.eq_zero_or_pos j with rfl | hp
    · exact this
    · simpa [Addr.add, show ¬ j = 0 by omega] using this
theorem get_of_lt' {α : Type} {l : List α} {k : Nat} (h : k < l.length) : ∃ p, l[k]? = some p ∧ l.drop k = p :: l.drop (k + 1) := ⟨l[k], List.getElem?_eq_getElem h, List.drop_eq_getElem_cons h⟩
set_option maxRecDepth 100000 in
set_option maxHeartbeats 2000000 in
theorem Equal_any (l m : List (List UInt8)) (v u : Value) (w : World) (h : SSl w (fun b => b < w.heap.size) v l) (h' : SSl w (fun b => b < w.heap.size) u m) (hn : l.length ≤ 1000000) :
    Calls Tryz.prog 15 #[v, u] w fun e w' => e = .returned (.bool (decide (l = m))) ∧ Below w.heap.size w w' := by
  obtain ⟨A, cap, rfl⟩ := h.slice
  obtain ⟨B, cap', rfl⟩ := h'.slice
  by_cases hne : l.length = m.length
  case neg =>
    rw [decide_eq_false (fun e => hne (by rw [e]))]
    have e1 : ((l.length : Int) != (m.length : Int)) = true := by simp; omega
    go_enter Tryz.func15, Tryz.ntmps15
    go_wp2
    go_ret
    exact ⟨rfl, Below.refl _ _⟩
  have HG := Lib.hid h
  have HG' := Lib.hid h'
  obtain ⟨R, hR⟩ : ∃ R, decide (l = m) = R := ⟨_, rfl⟩
  rw [hR]
  have HR := Lib.hid (show decide (l.drop 0 = m.drop 0) = R from hR)
  have HNE := Lib.hid hne
  have e1 : ((l.length : Int) != (m.length : Int)) = false := by simp; omega
  clear hR h h' hne
  go_enter Tryz.func15, Tryz.ntmps15
  go_wp2
  go_loopw [5] (fun i wr => ∃ k : Nat, k ≤ l.length ∧ i = .int .i64 k ∧ Hid (decide (l.drop k = m.drop k) = R) ∧ Hid (Below w.heap.size w wr)) (fun i _ => l.length - (intOf i).toNat)
  case atStart => exact ⟨0, Nat.zero_le _, rfl, HR, Lib.hid (Below.refl _ _)⟩
  case round =>
    obtain ⟨k, hk, rfl, HN, HB⟩ := hrel
    by_cases hlt : k < l.length
    · have hlt' : k < m.length := by have := HNE.out; omega
      obtain ⟨p, hp, hd⟩ := get_of_lt' hlt
      obtain ⟨q, hq, hd'⟩ := get_of_lt' hlt'
      obtain ⟨b, off, rfl, -, g0⟩ := (HG.out.below HB.out).get hp
      obtain ⟨b', off', rfl, -, g0'⟩ := (HG'.out.below HB.out).get hq
      have HQ := Lib.hid (show (l.drop k = m.drop k) ↔ (p = q ∧ l.drop (k + 1) = m.drop (k + 1)) by rw [hd, hd']; exact List.cons.injEq .. ▸ Iff.rfl)
      clear hp hq hd hd'
      by_cases hpq : p = q
      · subst hpq
        have HF := Lib.hid (show decide (l.drop (k + 1) = m.drop (k + 1)) = R by rw [← HN.out]; exact decide_eq_decide.2 (by rw [HQ.out]; simp))
        go_wp2_with fail
        go_quiet (fail)
        go_wp2
        go_roundw
        case rel => exact ⟨k + 1, hlt, by go_num, HF, Lib.hid (bdN HB.out nq)⟩
        case measure => simp [intOf]; omega
      · have HF := Lib.hid (show R = false by rw [← HN.out]; exact decide_eq_false (fun e => hpq (HQ.out.1 e).1))
        have e3 : (p == q) = false := by rw [beq_eq_false_iff_ne]; exact hpq
        have e4 : (p != q) = true := by rw [bne_iff_ne]; exact hpq
        go_wp2_with fail
        go_quiet (fail)
        go_wp2
        go_ret
        exact ⟨ret_bool HF.out.symm, bdN HB.out nq⟩
    · have HF := Lib.hid (show R = true by rw [← HN.out, List.drop_eq_nil_of_le (by omega), List.drop_eq_nil_of_le (by have := HNE.out; omega)]; simp)
      go_wp2
      go_ret
      exact ⟨ret_bool HF.out.symm, HB.out⟩
end W
end Go.Proofs.YtmgomklpjjkehaaGreat
