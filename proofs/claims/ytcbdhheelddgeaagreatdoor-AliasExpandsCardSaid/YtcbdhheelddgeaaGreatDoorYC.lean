/- Several texts in one: R08c R08d R08e R08f R08g R08h. -/
import Derived.Test.YtcbdhheelddgeaaGreatDoorYB
import Derived.Test.YtcbdhheelddgeaaGreatDoorW07e
namespace Go.Proofs.YtcbdhheelddgeaaGreatDoor
open Go.RowKit K
namespace W
set_option maxRecDepth 100000
theorem infoRes : (Tryz.prog.info? 143).map (fun i => (i.zero, i.size)) = some (some (.agg #[.slice none 0 0, .int .i64 0, .int .i64 0]), 3) := by kernel_rfl
/-- Parts in memory, in blocks from B on. -/
def RVal (w : World) (B : Nat) (ps : List WP.Part) (A : Option Addr) : Prop := ps = [] ∨ ∃ b cells, A = some ⟨b, 0, none⟩ ∧ B ≤ b ∧ LRep w (fun k => B ≤ k) ps cells ∧ ∀ j u, cells[j]? = some u → w.cell? ⟨b, j, none⟩ = some u
/-- What a result says. -/
def RG (B : Nat) (w : World) (R : RP.Res) (A : Option Addr) (n : Nat) (x y : Int) : Prop :=
  match R with
  | none => y ≠ 0
  | some (ps, j) => y = 0 ∧ x = (j : Int) ∧ n = ps.length ∧ RVal w B ps A
def ROut (B : Nat) (W : World) (R : RP.Res) (e : Ending) (W' : World) : Prop :=
  ∃ (A : Option Addr) (n cap : Nat) (x y : Int), e = .returned (.agg #[.slice A n cap, .int .i64 x, .int .i64 y]) ∧ Below W.heap.size W W' ∧ RG B W' R A n x y
theorem RVal.mono {w w' : World} {B B' : Nat} {ps : List WP.Part} {A : Option Addr} (h : RVal w B ps A) (hB : B' ≤ B) (hw : ∀ b, B ≤ b → b < w.heap.size → w'.heap[b]? = w.heap[b]?) : RVal w' B' ps A := by
  rcases h with h | ⟨b, cells, hA, hb, hl, hc⟩
  · exact .inl h
  · by_cases hps : ps = []
    · exact .inl hps
    have hlen := hl.len
    have hpos : 0 < cells.length := by rw [hlen]; have := List.length_pos_iff.2 hps; omega
    obtain ⟨u, hu⟩ : ∃ u, cells[0]? = some u := ⟨cells[0], by simp [hpos]⟩
    have hlt := lt_of_cell (hc 0 u hu)
    refine .inr ⟨b, cells, hA, by omega, LRep.mono (fun k hk hk2 => ⟨by omega, hw k hk hk2⟩) ps cells hl, fun j u hj => ?_⟩
    have := hc j u hj
    unfold World.cell? at this ⊢
    rw [hw b hb hlt]
    exact this
theorem RG.mono {w w' : World} {B B' : Nat} {R : RP.Res} {A : Option Addr} {n : Nat} {x y : Int} (h : RG B w R A n x y) (hB : B' ≤ B) (hw : ∀ b, B ≤ b → b < w.heap.size → w'.heap[b]? = w.heap[b]?) : RG B' w' R A n x y := by
  cases R with
  | none => exact h
  | some r => obtain ⟨ps, j⟩ := r; exact ⟨h.1, h.2.1, h.2.2.1, h.2.2.2.mono hB hw⟩
theorem ROut.mono {B B' : Nat} {W W' : World} {R : RP.Res} {e : Ending} (h : ROut B W R e W') (hB : B' ≤ B) : ROut B' W R e W' := by
  obtain ⟨A, n, cap, x, y, he, hb, hg⟩ := h
  exact ⟨A, n, cap, x, y, he, hb, hg.mono hB (fun _ _ _ => rfl)⟩
/-- The result's block of a function at its start. -/
structure Fm (w wb : World) : Prop where
  eq : wb = w.alloc (.cells #[.slice none 0 0, .int .i64 0, .int .i64 0] 143)
  bw : Below w.heap.size w wb
  sz : w.heap.size + 1 ≤ wb.heap.size
  blk : ∀ v, Below wb.heap.size wb v → v.cell? ⟨w.heap.size, 0, none⟩ = some (.slice none 0 0) ∧ v.cell? ⟨w.heap.size, 1, none⟩ = some (.int .i64 0) ∧ v.cell? ⟨w.heap.size, 2, none⟩ = some (.int .i64 0) ∧ v.frozen? ⟨w.heap.size, 0, none⟩ = false ∧ v.frozen? ⟨w.heap.size, 1, none⟩ = false ∧ v.frozen? ⟨w.heap.size, 2, none⟩ = false
theorem Fm.lt {w wb : World} (F : Fm w wb) : w.heap.size < wb.heap.size := F.sz
theorem blk3 {v : World} {b : Nat} {a0 a1 a2 : Value} {t : TypeId} (h : v.heap[b]? = some (.cells #[a0, a1, a2] t (0, 0))) :
    v.cell? ⟨b, 0, none⟩ = some a0 ∧ v.cell? ⟨b, 1, none⟩ = some a1 ∧ v.cell? ⟨b, 2, none⟩ = some a2 ∧ v.frozen? ⟨b, 0, none⟩ = false ∧ v.frozen? ⟨b, 1, none⟩ = false ∧ v.frozen? ⟨b, 2, none⟩ = false :=
  ⟨Lib.cell_of_heap h 0, Lib.cell_of_heap h 1, Lib.cell_of_heap h 2, Lib.frozen_of_heap h 0, Lib.frozen_of_heap h 1, Lib.frozen_of_heap h 2⟩
theorem fm_of (w : World) : ∃ wb, Fm w wb := by
  refine ⟨_, rfl, balloc _ _, by simp, fun v hv => ?_⟩
  exact blk3 ((hv.block w.heap.size (by simp)).trans (al_new w _))
theorem set3_far (v : World) (b : Nat) (v0 v1 v2 : Value) (k : Nat) (hk : k ≠ b) : (((v.setCell ⟨b, 0, none⟩ v0).setCell ⟨b, 1, none⟩ v1).setCell ⟨b, 2, none⟩ v2).heap[k]? = v.heap[k]? :=
  (Below.heap_setCell _ _ _ k hk).trans ((Below.heap_setCell _ _ _ k hk).trans (Below.heap_setCell _ _ _ k hk))
theorem below3 {B : Nat} {w v : World} (h : Below B w v) (b : Nat) (hb : B ≤ b) (v0 v1 v2 : Value) : Below B w (((v.setCell ⟨b, 0, none⟩ v0).setCell ⟨b, 1, none⟩ v1).setCell ⟨b, 2, none⟩ v2) :=
  ((h.setCell hb _).setCell hb _).setCell hb _
theorem Fm.fin {w wb w2 : World} {R : RP.Res} {A : Option Addr} {n cap : Nat} {x y : Int} (F : Fm w wb) (h : Below wb.heap.size wb w2) (hg : RG wb.heap.size w2 R A n x y) :
    ROut w.heap.size w R (.returned (.agg #[.slice A n cap, .int .i64 x, .int .i64 y])) (((w2.setCell ⟨w.heap.size, 0, none⟩ (.slice A n cap)).setCell ⟨w.heap.size, 1, none⟩ (.int .i64 x)).setCell ⟨w.heap.size, 2, none⟩ (.int .i64 y)) :=
  ⟨A, n, cap, x, y, rfl, below3 (btr F.bw h) _ (Nat.le_refl _) _ _ _, hg.mono (Nat.le_of_lt F.lt) (fun b hb _ => set3_far _ _ _ _ _ b (by have := F.lt; omega))⟩
theorem rw_fail (x y : Int) (hy : y ≠ 0) (w : World) (B : Nat) : Calls Tryz.prog 129 #[.int .i64 x, .int .i64 y] w (ROut B w none) := by
  go_enter Tryz.func129, Tryz.ntmps129
  go_wp2
  exact bodyPost_ret (v := .agg #[.slice none 0 0, .int .i64 x, .int .i64 y]) (by simp [results, Tryz.results129, go_sem]) rfl ⟨none, 0, 0, x, y, rfl, balloc _ _, hy⟩
end W
end Go.Proofs.YtcbdhheelddgeaaGreatDoor
namespace Go.Proofs.YtcbdhheelddgeaaGreatDoor
open Go.RowKit K
namespace W
set_option maxRecDepth 100000
theorem LRep.one {w : World} {F : Nat → Prop} {p : WP.Part} {vs : List Value} (h : PRep w F p vs) : LRep w F [p] vs := by
  rw [LRep]
  exact ⟨vs, [], (List.append_nil vs).symm, h, by rw [LRep]⟩
theorem PRep.leaf {w : World} {F : Nat → Prop} (k : Nat) (t : List UInt8) (o : Nat) (b : Bool) (A : Option Addr) (cap : Nat) : PRep w F (.mk k t o b []) (pc k t o b (.slice A 0 cap)) := by
  rw [PRep]
  exact ⟨A, cap, rfl, .inl rfl⟩
theorem PRep.of_val {w : World} {B : Nat} {k : Nat} {t : List UInt8} {o : Nat} {b : Bool} {ps : List WP.Part} {A : Option Addr} {cap n : Nat} (hn : n = ps.length) (h : RVal w B ps A) : PRep w (fun q => B ≤ q) (.mk k t o b ps) (pc k t o b (.slice A n cap)) := by
  rw [PRep]
  subst hn
  exact ⟨A, cap, rfl, h⟩
theorem pc_cells (w : World) (b : Nat) (k : Int) (t : List UInt8) (o : Int) (c : Bool) (v : Value) (ty : TypeId) (h : w.heap[b]? = some (.cells #[.int .i64 k, .string ⟨t.toArray⟩, .int .i64 o, .bool c, v] ty (0, 0))) :
    ∀ (j : Nat) (u : Value), (pc k t o c v)[j]? = some u → w.cell? ⟨b, j, none⟩ = some u := by
  intro j u hj
  match j, hj with
  | 0, hj => exact (Lib.cell_of_heap h 0).trans hj
  | 1, hj => exact (Lib.cell_of_heap h 1).trans hj
  | 2, hj => exact (Lib.cell_of_heap h 2).trans hj
  | 3, hj => exact (Lib.cell_of_heap h 3).trans hj
  | 4, hj => exact (Lib.cell_of_heap h 4).trans hj
  | n + 5, hj => simp [pc] at hj
set_option maxHeartbeats 1000000 in
theorem rw_one (k o : Nat) (t : List UInt8) (b : Bool) (ps : List WP.Part) (A : Option Addr) (n cap j : Nat) (x : Int) (hn : n = ps.length) (hx : x = (j : Int)) (w : World) (B : Nat) (hB : B ≤ w.heap.size) (hp : RVal w B ps A) :
    Calls Tryz.prog 153 #[.agg #[.int .i64 k, .string ⟨t.toArray⟩, .int .i64 o, .bool b, .slice A n cap], .int .i64 x] w (ROut B w (some ([.mk k t o b ps], j))) := by
  have HN := Lib.hid hn
  have HX := Lib.hid hx
  have HP := Lib.hid hp
  have HBB := Lib.hid hB
  clear hn hx hp hB
  go_enter Tryz.func153, Tryz.ntmps153
  go_wp2
  refine bodyPost_ret (v := .agg #[.slice (some ⟨w.heap.size + 1 + 1, 0, none⟩) 1 1, .int .i64 x, .int .i64 0]) (by simp [results, Tryz.results153, go_sem]) rfl ?_
  obtain ⟨w3, hw3⟩ : ∃ w3, w3 = ((w.alloc (.cells #[.int .i64 k, .string ⟨t.toArray⟩, .int .i64 o, .bool b, .slice A n cap] 126)).alloc (.cells #[.slice (some ⟨w.heap.size + 1 + 1, 0, none⟩) 1 1, .int .i64 x, .int .i64 0] 143)).alloc (.cells #[.int .i64 k, .string ⟨t.toArray⟩, .int .i64 o, .bool b, .slice A n cap] 126) := ⟨_, rfl⟩
  have h3 : w3.heap[w.heap.size + 1 + 1]? = some (.cells #[.int .i64 k, .string ⟨t.toArray⟩, .int .i64 o, .bool b, .slice A n cap] 126 (0, 0)) := by
    rw [hw3]
    have := al_new ((w.alloc (.cells #[.int .i64 k, .string ⟨t.toArray⟩, .int .i64 o, .bool b, .slice A n cap] 126)).alloc (.cells #[.slice (some ⟨w.heap.size + 1 + 1, 0, none⟩) 1 1, .int .i64 x, .int .i64 0] 143)) (.cells #[.int .i64 k, .string ⟨t.toArray⟩, .int .i64 o, .bool b, .slice A n cap] 126)
    simpa using this
  have hb : Below w.heap.size w w3 := by rw [hw3]; exact (((Below.refl _ w).alloc (Nat.le_refl _) _).alloc (by simp) _).alloc (by simp; omega) _
  rw [← hw3]
  refine ⟨_, 1, 1, x, 0, rfl, hb, rfl, HX.out, rfl, .inr ⟨w.heap.size + 1 + 1, pc k t o b (.slice A n cap), rfl, by have := HBB.out; omega, LRep.one (PRep.of_val HN.out ?_), pc_cells w3 _ k t o b _ _ h3⟩⟩
  exact HP.out.mono (Nat.le_refl _) (fun q hq hq2 => hb.block q hq2)
end W
end Go.Proofs.YtcbdhheelddgeaaGreatDoor
namespace Go.Proofs.YtcbdhheelddgeaaGreatDoor
open Go.RowKit K
namespace W
set_option maxRecDepth 100000
theorem rw_leaf (k : Nat) (K x : Int) (t : List UInt8) (j : Nat) (hK : K = (k : Int)) (hx : x = (j : Int)) (w : World) (B : Nat) (hB : B ≤ w.heap.size) :
    Calls Tryz.prog 153 #[.agg #[.int .i64 K, .string ⟨t.toArray⟩, .int .i64 0, .bool false, .slice none 0 0], .int .i64 x] w (ROut B w (RP.leaf k t j)) := by
  subst hK
  exact rw_one k 0 t false [] none 0 0 j x rfl hx w B hB (.inl rfl)
theorem ROut.nil {w w' : World} {B j : Nat} {x : Int} (hx : x = (j : Int)) (hb : Below w.heap.size w w') : ROut B w (some ([], j)) (.returned (.agg #[.slice none 0 0, .int .i64 x, .int .i64 0])) w' :=
  ⟨none, 0, 0, x, 0, rfl, hb, rfl, hx, rfl, .inl rfl⟩
set_option maxHeartbeats 1000000 in
theorem rw_backslash (c : WP.Ctx) (a : Nat) (p : Int) (hp : RP.PlC p c.pl c.op) (w : World) (hl : c.s.length ≤ 100000) (ha : a < c.s.length) :
    Calls Tryz.prog 149 #[.string ⟨c.s.toArray⟩, .int .i64 a, .int .i64 p] w (ROut w.heap.size w (RP.backslash c a)) := by
  obtain ⟨s, pl, op, lv, opn⟩ := c
  dsimp only at *
  obtain ⟨wb, FM⟩ := fm_of w
  have HF := Lib.hid (fun (x y : Int) (hy : y ≠ 0) v => rw_fail x y hy v wb.heap.size)
  have HO := Lib.hid (fun v => rw_outside p pl op hp v)
  have HU := Lib.hid (show RP.backslash ⟨s, pl, op, lv, opn⟩ a = if a + 1 = s.length then none
    else if bt s (a + 1) = 10 then some ([], a + 2)
    else if pl = 0 then RP.leaf 2 (cut s (a + 1) (a + 2)) (a + 2)
    else if WP.escapes pl (bt s (a + 1)) op = true then RP.leaf 1 (cut s (a + 1) (a + 2)) (a + 2)
    else if pl = 2 ∧ op = false ∧ (bt s (a + 1) = 40 ∨ bt s (a + 1) = 41) then none
    else RP.leaf 1 (cut s a (a + 2)) (a + 2) from rfl)
  have hp5 : (p == 5) = false := by rcases hp with ⟨rfl, _, _⟩ | ⟨rfl, _, _⟩ | ⟨rfl, _, _⟩ | ⟨rfl, _, _⟩ | ⟨rfl, _, _⟩ | ⟨rfl, _, _⟩ <;> rfl
  have HP4 := Lib.hid (show (p == 4) = decide (pl = 2 ∧ op = false) by rcases hp with ⟨rfl, rfl, rfl⟩ | ⟨rfl, rfl, rfl⟩ | ⟨rfl, rfl, rfl⟩ | ⟨rfl, rfl, rfl⟩ | ⟨rfl, rfl, rfl⟩ | ⟨rfl, rfl, rfl⟩ <;> rfl)
  have HE := Lib.hid (fun (h : pl ≠ 0) v => rw_escapes (bt s (a + 1)) p pl op hp h v)
  clear hp
  by_cases h1 : a + 1 = s.length
  · rw [HU.out, if_pos h1]
    have e1 : ((a : Int) + 1 == (s.length : Int)) = true := by rw [beq_iff_eq]; omega
    have HC := Lib.hid (HF.out a 7 (by decide))
    clear h1 HU HF
    go_enter Tryz.func149, Tryz.ntmps149
    go_wp2_with fail
    (try rw [← FM.eq])
    refine (HC.out _).mono ?_
    rintro e w2 ⟨A, n, cap, x, y, rfl, hb, hg⟩
    have HB2 := Lib.hid (btr (Below.refl _ _) hb)
    have HG2 := Lib.hid hg
    obtain ⟨c0, c1, c2, f0, f1, f2⟩ := FM.blk w2 HB2.out
    have hz := HB2.out.size
    have hz2 := FM.lt
    clear hb hg
    go_wp2
    exact bodyPost_ret (v := .agg #[.slice A n cap, .int .i64 x, .int .i64 y]) (by simp [results, Tryz.results149, go_sem, c0, c1, c2]) rfl (FM.fin HB2.out HG2.out)
  have e1 : ((a : Int) + 1 == (s.length : Int)) = false := by rw [beq_eq_false_iff_ne]; omega
  replace HU := Lib.hid (HU.out.trans (if_neg h1))
  have q1 : ((a : Int) + 1 < (s.length : Int)) = True := eq_true (by omega)
  have q2 : ((a : Int) + 2 ≤ (s.length : Int)) = True := eq_true (by omega)
  have q3 : ((a : Int) + 1 ≤ (a : Int) + 2) = True := eq_true (by omega)
  have q4 : ((a : Int) ≤ (a : Int) + 2) = True := eq_true (by omega)
  by_cases h2 : bt s (a + 1) = 10
  · rw [HU.out, if_pos h2]
    clear h1 HU HF
    go_enter Tryz.func149, Tryz.ntmps149
    go_wp2
    exact bodyPost_ret (v := .agg #[.slice none 0 0, .int .i64 ((a : Int) + 2), .int .i64 0]) (by simp [results, Tryz.results149, go_sem]) rfl (ROut.nil (by omega) (balloc _ _))
  have e2 := beq_f h2
  replace HU := Lib.hid (HU.out.trans (if_neg h2))
  by_cases h3 : pl = 0
  · rw [HU.out, if_pos h3]
    rw [decide_eq_true h3] at HO
    have HC := Lib.hid (fun v h => rw_leaf 2 2 ((a : Int) + 2) (cut s (a + 1) (a + 2)) (a + 2) rfl (by omega) v wb.heap.size h)
    clear h1 HU HF
    go_enter Tryz.func149, Tryz.ntmps149
    go_wp2_with (go_at_call 147; refine (HO.out _).mono ?_; rintro e w' ⟨rfl, rfl⟩)
    (try rw [← FM.eq])
    refine (HC.out _ (Nat.le_refl _)).mono ?_
    rintro e w2 ⟨A, n, cap, x, y, rfl, hb, hg⟩
    have HB2 := Lib.hid (btr (Below.refl _ _) hb)
    have HG2 := Lib.hid hg
    obtain ⟨c0, c1, c2, f0, f1, f2⟩ := FM.blk w2 HB2.out
    have hz := HB2.out.size
    have hz2 := FM.lt
    clear hb hg
    go_wp2
    exact bodyPost_ret (v := .agg #[.slice A n cap, .int .i64 x, .int .i64 y]) (by simp [results, Tryz.results149, go_sem, c0, c1, c2]) rfl (FM.fin HB2.out HG2.out)
  replace HU := Lib.hid (HU.out.trans (if_neg h3))
  rw [decide_eq_false h3] at HO
  replace HE := Lib.hid (HE.out h3)
  cases h4 : WP.escapes pl (bt s (a + 1)) op with
  | true =>
    rw [HU.out, if_pos h4]
    rw [h4] at HE
    have HC := Lib.hid (fun v h => rw_leaf 1 1 ((a : Int) + 2) (cut s (a + 1) (a + 2)) (a + 2) rfl (by omega) v wb.heap.size h)
    clear h1 HU HF h4
    go_enter Tryz.func149, Tryz.ntmps149
    go_wp2_with (first | (go_at_call 147; refine (HO.out _).mono ?_; rintro e w' ⟨rfl, rfl⟩) | (go_at_call 160; refine (HE.out _).mono ?_; rintro e w' ⟨rfl, rfl⟩))
    (try rw [← FM.eq])
    refine (HC.out _ (Nat.le_refl _)).mono ?_
    rintro e w2 ⟨A, n, cap, x, y, rfl, hb, hg⟩
    have HB2 := Lib.hid (btr (Below.refl _ _) hb)
    have HG2 := Lib.hid hg
    obtain ⟨c0, c1, c2, f0, f1, f2⟩ := FM.blk w2 HB2.out
    have hz := HB2.out.size
    have hz2 := FM.lt
    clear hb hg
    go_wp2
    exact bodyPost_ret (v := .agg #[.slice A n cap, .int .i64 x, .int .i64 y]) (by simp [results, Tryz.results149, go_sem, c0, c1, c2]) rfl (FM.fin HB2.out HG2.out)
  | false =>
    replace HU := Lib.hid (HU.out.trans (if_neg (by rw [h4]; simp)))
    rw [h4] at HE
    clear h4
    by_cases h5 : pl = 2 ∧ op = false
    · have h4 := HP4.out
      rw [decide_eq_true h5] at h4
      by_cases h6 : bt s (a + 1) = 40
      · rw [HU.out, if_pos ⟨h5.1, h5.2, .inl h6⟩]
        have HC := Lib.hid (HF.out a 6 (by decide))
        have e6 : (bt s (a + 1) == 40) = true := by rw [beq_iff_eq]; exact h6
        clear h1 HU HF h6 h5 h2 h3
        go_enter Tryz.func149, Tryz.ntmps149
        go_wp2_with (first | (go_at_call 147; refine (HO.out _).mono ?_; rintro e w' ⟨rfl, rfl⟩) | (go_at_call 160; refine (HE.out _).mono ?_; rintro e w' ⟨rfl, rfl⟩))
        (try rw [← FM.eq])
        refine (HC.out _).mono ?_
        rintro e w2 ⟨A, n, cap, x, y, rfl, hb, hg⟩
        have HB2 := Lib.hid (btr (Below.refl _ _) hb)
        have HG2 := Lib.hid hg
        obtain ⟨c0, c1, c2, f0, f1, f2⟩ := FM.blk w2 HB2.out
        have hz := HB2.out.size
        have hz2 := FM.lt
        clear hb hg
        go_wp2
        exact bodyPost_ret (v := .agg #[.slice A n cap, .int .i64 x, .int .i64 y]) (by simp [results, Tryz.results149, go_sem, c0, c1, c2]) rfl (FM.fin HB2.out HG2.out)
      have e6 := beq_f h6
      by_cases h7 : bt s (a + 1) = 41
      · rw [HU.out, if_pos ⟨h5.1, h5.2, .inr h7⟩]
        have HC := Lib.hid (HF.out a 6 (by decide))
        have e7 : (bt s (a + 1) == 41) = true := by rw [beq_iff_eq]; exact h7
        clear h1 HU HF h7 h5 h2 h3
        go_enter Tryz.func149, Tryz.ntmps149
        go_wp2_with (first | (go_at_call 147; refine (HO.out _).mono ?_; rintro e w' ⟨rfl, rfl⟩) | (go_at_call 160; refine (HE.out _).mono ?_; rintro e w' ⟨rfl, rfl⟩))
        (try rw [← FM.eq])
        refine (HC.out _).mono ?_
        rintro e w2 ⟨A, n, cap, x, y, rfl, hb, hg⟩
        have HB2 := Lib.hid (btr (Below.refl _ _) hb)
        have HG2 := Lib.hid hg
        obtain ⟨c0, c1, c2, f0, f1, f2⟩ := FM.blk w2 HB2.out
        have hz := HB2.out.size
        have hz2 := FM.lt
        clear hb hg
        go_wp2
        exact bodyPost_ret (v := .agg #[.slice A n cap, .int .i64 x, .int .i64 y]) (by simp [results, Tryz.results149, go_sem, c0, c1, c2]) rfl (FM.fin HB2.out HG2.out)
      have e7 := beq_f h7
      rw [HU.out, if_neg (fun e => e.2.2.elim h6 h7)]
      have HC := Lib.hid (fun v h => rw_leaf 1 1 ((a : Int) + 2) (cut s a (a + 2)) (a + 2) rfl (by omega) v wb.heap.size h)
      clear h1 HU HF h7 h6 h5 h2 h3
      go_enter Tryz.func149, Tryz.ntmps149
      go_wp2_with (first | (go_at_call 147; refine (HO.out _).mono ?_; rintro e w' ⟨rfl, rfl⟩) | (go_at_call 160; refine (HE.out _).mono ?_; rintro e w' ⟨rfl, rfl⟩))
      (try rw [← FM.eq])
      refine (HC.out _ (Nat.le_refl _)).mono ?_
      rintro e w2 ⟨A, n, cap, x, y, rfl, hb, hg⟩
      have HB2 := Lib.hid (btr (Below.refl _ _) hb)
      have HG2 := Lib.hid hg
      obtain ⟨c0, c1, c2, f0, f1, f2⟩ := FM.blk w2 HB2.out
      have hz := HB2.out.size
      have hz2 := FM.lt
      clear hb hg
      go_wp2
      exact bodyPost_ret (v := .agg #[.slice A n cap, .int .i64 x, .int .i64 y]) (by simp [results, Tryz.results149, go_sem, c0, c1, c2]) rfl (FM.fin HB2.out HG2.out)
    · have h4 := HP4.out
      rw [decide_eq_false h5] at h4
      rw [HU.out, if_neg (fun e => h5 ⟨e.1, e.2.1⟩)]
      have HC := Lib.hid (fun v h => rw_leaf 1 1 ((a : Int) + 2) (cut s a (a + 2)) (a + 2) rfl (by omega) v wb.heap.size h)
      clear h1 HU HF h5 h2 h3
      go_enter Tryz.func149, Tryz.ntmps149
      go_wp2_with (first | (go_at_call 147; refine (HO.out _).mono ?_; rintro e w' ⟨rfl, rfl⟩) | (go_at_call 160; refine (HE.out _).mono ?_; rintro e w' ⟨rfl, rfl⟩))
      (try rw [← FM.eq])
      refine (HC.out _ (Nat.le_refl _)).mono ?_
      rintro e w2 ⟨A, n, cap, x, y, rfl, hb, hg⟩
      have HB2 := Lib.hid (btr (Below.refl _ _) hb)
      have HG2 := Lib.hid hg
      obtain ⟨c0, c1, c2, f0, f1, f2⟩ := FM.blk w2 HB2.out
      have hz := HB2.out.size
      have hz2 := FM.lt
      clear hb hg
      go_wp2
      exact bodyPost_ret (v := .agg #[.slice A n cap, .int .i64 x, .int .i64 y]) (by simp [results, Tryz.results149, go_sem, c0, c1, c2]) rfl (FM.fin HB2.out HG2.out)
end W
end Go.Proofs.YtcbdhheelddgeaaGreatDoor
namespace Go.Proofs.YtcbdhheelddgeaaGreatDoor
open Go.RowKit K
namespace RP
theorem unq_len : ∀ (f : Nat) (s : List UInt8) (i e : Nat), (unq f s i e).length ≤ e - i
  | 0, _, _, _ => Nat.zero_le _
  | f + 1, s, i, e => by
    rw [unq]
    by_cases h : i < e
    · rw [if_pos h]
      by_cases h2 : bt s i = 92 ∧ (bt s (i + 1) = 96 ∨ bt s (i + 1) = 92 ∨ bt s (i + 1) = 36)
      · rw [if_pos h2, List.length_append, cut_length]
        have := unq_len f s (i + 2) e
        omega
      · rw [if_neg h2, List.length_append, cut_length]
        have := unq_len f s (i + 1) e
        omega
    · rw [if_neg h]; exact Nat.zero_le _
theorem unq_yes {f i e : Nat} {s : List UInt8} (h : i < e) (h2 : bt s i = 92) (h3 : bt s (i + 1) = 96 ∨ bt s (i + 1) = 92 ∨ bt s (i + 1) = 36) : unq (f + 1) s i e = cut s (i + 1) (i + 2) ++ unq f s (i + 2) e := by rw [unq, if_pos h, if_pos ⟨h2, h3⟩]
theorem unq_no {f i e : Nat} {s : List UInt8} (h : i < e) (h2 : ¬ (bt s i = 92 ∧ (bt s (i + 1) = 96 ∨ bt s (i + 1) = 92 ∨ bt s (i + 1) = 36))) : unq (f + 1) s i e = cut s i (i + 1) ++ unq f s (i + 1) e := by rw [unq, if_pos h, if_neg h2]
theorem unq_end {f i e : Nat} {s : List UInt8} (h : ¬ i < e) : unq f s i e = [] := by
  cases f with
  | zero => rfl
  | succ f => rw [unq, if_neg h]
theorem sp_len (t : List UInt8) : (sp t).length ≤ t.length + 1 := by unfold sp; split <;> simp
end RP
namespace W
set_option maxRecDepth 100000
set_option maxHeartbeats 16000000 in
theorem rw_backquoted (s : List UInt8) (a : Nat) (w : World) (hl : s.length ≤ 40000) (ha : a < s.length) :
    Calls Tryz.prog 150 #[.string ⟨s.toArray⟩, .int .i64 a] w (ROut w.heap.size w (RP.backquoted s a)) := by
  obtain ⟨wb, FM⟩ := fm_of w
  have HF := Lib.hid (fun (x y : Int) (hy : y ≠ 0) v => rw_fail x y hy v wb.heap.size)
  obtain ⟨k, x, hkx⟩ : ∃ k x, RP.big s a false false = (k, x) := ⟨_, _, rfl⟩
  have HC := Lib.hid (fun v => Pass_any s a 0 false false v k x (.inl ⟨rfl, rfl, rfl⟩) (by omega) ha hkx)
  have hg := RP.big_good s a false false ha
  have HU := Lib.hid (show RP.backquoted s a = if x = 0 then RP.command (RP.sp (RP.unq (s.length + 1) s (a + 1) (k - 1))) k else none by unfold RP.backquoted; rw [hkx])
  rw [hkx] at hg
  obtain ⟨hg1, hg2, -⟩ := hg
  dsimp only at hg1 hg2
  clear hkx
  by_cases h0 : x = 0
  case neg =>
    rw [HU.out, if_neg h0]
    have e0 : (x != 0) = true := by simp [bne, h0]
    have HFF := Lib.hid (HF.out k x h0)
    clear HU HF hg2
    go_enter Tryz.func150, Tryz.ntmps150
    go_wp2_with (go_at_call 108; refine (HC.out _).mono ?_; rintro e w' ⟨rfl, rfl⟩)
    (try rw [← FM.eq])
    refine (HFF.out _).mono ?_
    rintro e w2 ⟨A, n, cap, x, y, rfl, hb, hg⟩
    have HB2 := Lib.hid (btr (Below.refl _ _) hb)
    have HG2 := Lib.hid hg
    obtain ⟨c0, c1, c2, f0, f1, f2⟩ := FM.blk w2 HB2.out
    have hz := HB2.out.size
    have hz2 := FM.lt
    clear hb hg
    go_wp2
    exact bodyPost_ret (v := .agg #[.slice A n cap, .int .i64 x, .int .i64 y]) (by simp [results, Tryz.results150, go_sem, c0, c1, c2]) rfl (FM.fin HB2.out HG2.out)
  have hg3 := hg2 h0
  rw [HU.out, if_pos h0]
  subst h0
  obtain ⟨T, hT⟩ : ∃ T, RP.unq (s.length + 1) s (a + 1) (k - 1) = T := ⟨_, rfl⟩
  rw [hT]
  have hTl : T.length ≤ 40000 := by have := RP.unq_len (s.length + 1) s (a + 1) (k - 1); rw [hT] at this; omega
  have HT := Lib.hid hT
  obtain ⟨R, hR⟩ : ∃ R, RP.command (RP.sp T) k = R := ⟨_, rfl⟩
  rw [hR]
  have HR := Lib.hid hR
  clear hT HU hg2 hR
  go_enter Tryz.func150, Tryz.ntmps150
  go_wp2_with (go_at_call 108; refine (HC.out _).mono ?_; rintro e w' ⟨rfl, rfl⟩)
  (try rw [← FM.eq])
  go_loop [7, 8] (fun t v => ∃ (i g : Nat) (acc : List UInt8), t = .string ⟨acc.toArray⟩ ∧ v = .int .i64 i ∧ a < i ∧ i ≤ k ∧ acc.length ≤ i ∧ Hid (k - i + 1 ≤ g ∧ acc ++ RP.unq g s i (k - 1) = T)) (fun _ v => k - (intOf v).toNat)
  case atStart => exact ⟨a + 1, s.length + 1, [], rfl, by go_num, by omega, by omega, by simp, by omega, by rw [List.nil_append]; exact HT.out⟩
  case round =>
    obtain ⟨i, g, acc, rfl, rfl, hi1, hi2, hacc, HG⟩ := hrel
    obtain ⟨g, rfl⟩ : ∃ g', g = g' + 1 := ⟨g - 1, by have := HG.out; omega⟩
    by_cases hlt : i < k - 1
    · have hlt' : ((i : Int) < (k : Int) - 1) = True := eq_true (by omega)
      have q1 : ((i : Int) < (s.length : Int)) = True := eq_true (by omega)
      have q2 : ((i : Int) + 1 < (s.length : Int)) = True := eq_true (by omega)
      have HY := Lib.hid (fun (h2 : bt s i = 92) (h3 : bt s (i + 1) = 96 ∨ bt s (i + 1) = 92 ∨ bt s (i + 1) = 36) => (show (acc ++ cut s (i + 1) (i + 2)) ++ RP.unq g s (i + 2) (k - 1) = T from by rw [List.append_assoc, ← RP.unq_yes hlt h2 h3]; exact HG.out.2))
      have HN := Lib.hid (fun (h2 : ¬ (bt s i = 92 ∧ (bt s (i + 1) = 96 ∨ bt s (i + 1) = 92 ∨ bt s (i + 1) = 36))) => (show (acc ++ cut s i (i + 1)) ++ RP.unq g s (i + 1) (k - 1) = T from by rw [List.append_assoc, ← RP.unq_no hlt h2]; exact HG.out.2))
      have q3 : ((i : Int) + 1 ≤ (i : Int) + 1 + 1) = True := eq_true (by omega)
      have q4 : ((i : Int) + 1 + 1 ≤ (s.length : Int)) = True := eq_true (by omega)
      have q5 : ((i : Int) ≤ (i : Int) + 1) = True := eq_true (by omega)
      have q6 : ((i : Int) + 1 ≤ (s.length : Int)) = True := eq_true (by omega)
      by_cases h92 : bt s i = 92
      · have e92 : (bt s i == 92) = true := by rw [beq_iff_eq]; exact h92
        by_cases ha : bt s (i + 1) = 96
        · have HZ := Lib.hid (HY.out h92 (.inl ha))
          have ea : (bt s (i + 1) == 96) = true := by rw [beq_iff_eq]; exact ha
          clear h92 ha HY HN
          go_wp2
          go_round
          case rel => exact ⟨i + 2, g, _, rfl, by go_num, by omega, by omega, by simp; omega, by have := HG.out.1; omega, HZ.out⟩
          case measure => simp [intOf]; omega
        have ea := beq_f ha
        by_cases hb : bt s (i + 1) = 92
        · have HZ := Lib.hid (HY.out h92 (.inr (.inl hb)))
          have eb : (bt s (i + 1) == 92) = true := by rw [beq_iff_eq]; exact hb
          clear h92 hb HY HN
          go_wp2
          go_round
          case rel => exact ⟨i + 2, g, _, rfl, by go_num, by omega, by omega, by simp; omega, by have := HG.out.1; omega, HZ.out⟩
          case measure => simp [intOf]; omega
        have eb := beq_f hb
        by_cases hc : bt s (i + 1) = 36
        · have HZ := Lib.hid (HY.out h92 (.inr (.inr hc)))
          have ec : (bt s (i + 1) == 36) = true := by rw [beq_iff_eq]; exact hc
          clear h92 hc HY HN
          go_wp2
          go_round
          case rel => exact ⟨i + 2, g, _, rfl, by go_num, by omega, by omega, by simp; omega, by have := HG.out.1; omega, HZ.out⟩
          case measure => simp [intOf]; omega
        have ec := beq_f hc
        have HZ := Lib.hid (HN.out (fun e => e.2.elim ha (fun e => e.elim hb hc)))
        clear h92 ha hb hc HY HN
        go_wp2
        go_round
        case rel => exact ⟨i + 1, g, _, rfl, by go_num, by omega, by omega, by simp; omega, by have := HG.out.1; omega, HZ.out⟩
        case measure => simp [intOf]; omega
      · have e92 := beq_f h92
        have HZ := Lib.hid (HN.out (fun e => h92 e.1))
        clear h92 HY HN
        go_wp2
        go_round
        case rel => exact ⟨i + 1, g, _, rfl, by go_num, by omega, by omega, by simp; omega, by have := HG.out.1; omega, HZ.out⟩
        case measure => simp [intOf]; omega
    · have hlt' : ((i : Int) < (k : Int) - 1) = False := eq_false (by omega)
      obtain rfl : acc = T := by have := HG.out.2; rw [RP.unq_end hlt, List.append_nil] at this; exact this
      have HCL := Lib.hid (fun t (ht : t.length ≤ 50000) v => rw_closed t v ht)
      have HLF := Lib.hid (fun t v h => rw_leaf 5 5 k t k rfl rfl v wb.heap.size h)
      by_cases ht : acc = []
      · have ht1 : (acc == []) = true := by rw [beq_iff_eq]; exact ht
        have ht2 : (acc != []) = false := by rw [bne, ht1]; rfl
        replace HR := Lib.hid (show RP.command (acc) k = R from by rw [← HR.out, show RP.sp acc = acc from by unfold RP.sp; rw [if_neg (fun e => e.1 ht)]])
        have HK := Lib.hid (fun v => HCL.out (acc) (by omega) v)
        cases hk : RP.closed (acc) with
        | true =>
          rw [hk] at HK
          have HL := Lib.hid (fun v h => HLF.out (acc) v h)
          rw [show RP.leaf 5 (acc) k = R from by rw [← HR.out]; unfold RP.command; rw [if_pos hk]] at HL
          clear hk HLF HCL HF ht
          go_wp2_with (go_at_call 161; refine (HK.out _).mono ?_; rintro e w' ⟨rfl, rfl⟩)
          (try rw [← FM.eq])
          refine (HL.out _ (Nat.le_refl _)).mono ?_
          rintro e w2 ⟨A, n, cap, x, y, rfl, hb, hg⟩
          have HB2 := Lib.hid (btr (Below.refl _ _) hb)
          have HG2 := Lib.hid hg
          obtain ⟨c0, c1, c2, f0, f1, f2⟩ := FM.blk w2 HB2.out
          have hz := HB2.out.size
          have hz2 := FM.lt
          clear hb hg
          go_wp2
          exact bodyPost_ret (v := .agg #[.slice A n cap, .int .i64 x, .int .i64 y]) (by simp [results, Tryz.results150, go_sem, c0, c1, c2]) rfl (FM.fin HB2.out HG2.out)
        | false =>
          have HK2 := Lib.hid (fun v => HCL.out (acc ++ [10]) (by simp; omega) v)
          rw [hk] at HK
          cases hk2 : RP.closed (acc ++ [10]) with
          | true =>
            rw [hk2] at HK2
            have HL := Lib.hid (fun v h => HLF.out (acc ++ [10]) v h)
            rw [show RP.leaf 5 (acc ++ [10]) k = R from by rw [← HR.out]; unfold RP.command; rw [if_neg (by rw [hk]; simp), if_pos hk2]] at HL
            clear hk hk2 HLF HCL HF ht
            go_wp2_with fail
            refine (HK.out _).mono ?_
            rintro e w1 ⟨rfl, rfl⟩
            go_wp2_with (go_at_call 161; refine (HK2.out _).mono ?_; rintro e w' ⟨rfl, rfl⟩)
            (try rw [← FM.eq])
            refine (HL.out _ (Nat.le_refl _)).mono ?_
            rintro e w2 ⟨A, n, cap, x, y, rfl, hb, hg⟩
            have HB2 := Lib.hid (btr (Below.refl _ _) hb)
            have HG2 := Lib.hid hg
            obtain ⟨c0, c1, c2, f0, f1, f2⟩ := FM.blk w2 HB2.out
            have hz := HB2.out.size
            have hz2 := FM.lt
            clear hb hg
            go_wp2
            exact bodyPost_ret (v := .agg #[.slice A n cap, .int .i64 x, .int .i64 y]) (by simp [results, Tryz.results150, go_sem, c0, c1, c2]) rfl (FM.fin HB2.out HG2.out)
          | false =>
            rw [hk2] at HK2
            have HL := Lib.hid (HF.out a 6 (by decide))
            rw [show (none : RP.Res) = R from by rw [← HR.out]; unfold RP.command; rw [if_neg (by rw [hk]; simp), if_neg (by rw [hk2]; simp)]] at HL
            clear hk hk2 HLF HCL HF ht
            go_wp2_with fail
            refine (HK.out _).mono ?_
            rintro e w1 ⟨rfl, rfl⟩
            go_wp2_with (go_at_call 161; refine (HK2.out _).mono ?_; rintro e w' ⟨rfl, rfl⟩)
            (try rw [← FM.eq])
            refine (HL.out _).mono ?_
            rintro e w2 ⟨A, n, cap, x, y, rfl, hb, hg⟩
            have HB2 := Lib.hid (btr (Below.refl _ _) hb)
            have HG2 := Lib.hid hg
            obtain ⟨c0, c1, c2, f0, f1, f2⟩ := FM.blk w2 HB2.out
            have hz := HB2.out.size
            have hz2 := FM.lt
            clear hb hg
            go_wp2
            exact bodyPost_ret (v := .agg #[.slice A n cap, .int .i64 x, .int .i64 y]) (by simp [results, Tryz.results150, go_sem, c0, c1, c2]) rfl (FM.fin HB2.out HG2.out)
      have ht1 : (acc == []) = false := by rw [beq_eq_false_iff_ne]; exact ht
      have ht2 : (acc != []) = true := by rw [bne, ht1]; rfl
      have hpos := List.length_pos_iff.2 ht
      by_cases h40 : bt acc 0 = 40
      · have e40 : (bt acc 0 == 40) = true := by rw [beq_iff_eq]; exact h40
        replace HR := Lib.hid (show RP.command (32 :: acc) k = R from by rw [← HR.out, show RP.sp acc = 32 :: acc from by unfold RP.sp; rw [if_pos ⟨ht, h40⟩]])
        have HK := Lib.hid (fun v => HCL.out (32 :: acc) (by simp; omega) v)
        cases hk : RP.closed (32 :: acc) with
        | true =>
          rw [hk] at HK
          have HL := Lib.hid (fun v h => HLF.out (32 :: acc) v h)
          rw [show RP.leaf 5 (32 :: acc) k = R from by rw [← HR.out]; unfold RP.command; rw [if_pos hk]] at HL
          clear hk HLF HCL HF ht
          go_wp2_with (go_at_call 161; refine (HK.out _).mono ?_; rintro e w' ⟨rfl, rfl⟩)
          (try rw [← FM.eq])
          refine (HL.out _ (Nat.le_refl _)).mono ?_
          rintro e w2 ⟨A, n, cap, x, y, rfl, hb, hg⟩
          have HB2 := Lib.hid (btr (Below.refl _ _) hb)
          have HG2 := Lib.hid hg
          obtain ⟨c0, c1, c2, f0, f1, f2⟩ := FM.blk w2 HB2.out
          have hz := HB2.out.size
          have hz2 := FM.lt
          clear hb hg
          go_wp2
          exact bodyPost_ret (v := .agg #[.slice A n cap, .int .i64 x, .int .i64 y]) (by simp [results, Tryz.results150, go_sem, c0, c1, c2]) rfl (FM.fin HB2.out HG2.out)
        | false =>
          have HK2 := Lib.hid (fun v => HCL.out (32 :: acc ++ [10]) (by simp; omega) v)
          rw [hk] at HK
          cases hk2 : RP.closed (32 :: acc ++ [10]) with
          | true =>
            rw [hk2] at HK2
            have HL := Lib.hid (fun v h => HLF.out (32 :: acc ++ [10]) v h)
            rw [show RP.leaf 5 (32 :: acc ++ [10]) k = R from by rw [← HR.out]; unfold RP.command; rw [if_neg (by rw [hk]; simp), if_pos hk2]] at HL
            clear hk hk2 HLF HCL HF ht
            go_wp2_with fail
            refine (HK.out _).mono ?_
            rintro e w1 ⟨rfl, rfl⟩
            go_wp2_with (go_at_call 161; refine (HK2.out _).mono ?_; rintro e w' ⟨rfl, rfl⟩)
            (try rw [← FM.eq])
            refine (HL.out _ (Nat.le_refl _)).mono ?_
            rintro e w2 ⟨A, n, cap, x, y, rfl, hb, hg⟩
            have HB2 := Lib.hid (btr (Below.refl _ _) hb)
            have HG2 := Lib.hid hg
            obtain ⟨c0, c1, c2, f0, f1, f2⟩ := FM.blk w2 HB2.out
            have hz := HB2.out.size
            have hz2 := FM.lt
            clear hb hg
            go_wp2
            exact bodyPost_ret (v := .agg #[.slice A n cap, .int .i64 x, .int .i64 y]) (by simp [results, Tryz.results150, go_sem, c0, c1, c2]) rfl (FM.fin HB2.out HG2.out)
          | false =>
            rw [hk2] at HK2
            have HL := Lib.hid (HF.out a 6 (by decide))
            rw [show (none : RP.Res) = R from by rw [← HR.out]; unfold RP.command; rw [if_neg (by rw [hk]; simp), if_neg (by rw [hk2]; simp)]] at HL
            clear hk hk2 HLF HCL HF ht
            go_wp2_with fail
            refine (HK.out _).mono ?_
            rintro e w1 ⟨rfl, rfl⟩
            go_wp2_with (go_at_call 161; refine (HK2.out _).mono ?_; rintro e w' ⟨rfl, rfl⟩)
            (try rw [← FM.eq])
            refine (HL.out _).mono ?_
            rintro e w2 ⟨A, n, cap, x, y, rfl, hb, hg⟩
            have HB2 := Lib.hid (btr (Below.refl _ _) hb)
            have HG2 := Lib.hid hg
            obtain ⟨c0, c1, c2, f0, f1, f2⟩ := FM.blk w2 HB2.out
            have hz := HB2.out.size
            have hz2 := FM.lt
            clear hb hg
            go_wp2
            exact bodyPost_ret (v := .agg #[.slice A n cap, .int .i64 x, .int .i64 y]) (by simp [results, Tryz.results150, go_sem, c0, c1, c2]) rfl (FM.fin HB2.out HG2.out)
      · have e40 := beq_f h40
        replace HR := Lib.hid (show RP.command (acc) k = R from by rw [← HR.out, show RP.sp acc = acc from by unfold RP.sp; rw [if_neg (fun e => h40 e.2)]])
        have HK := Lib.hid (fun v => HCL.out (acc) (by omega) v)
        cases hk : RP.closed (acc) with
        | true =>
          rw [hk] at HK
          have HL := Lib.hid (fun v h => HLF.out (acc) v h)
          rw [show RP.leaf 5 (acc) k = R from by rw [← HR.out]; unfold RP.command; rw [if_pos hk]] at HL
          clear hk HLF HCL HF ht
          go_wp2_with (go_at_call 161; refine (HK.out _).mono ?_; rintro e w' ⟨rfl, rfl⟩)
          (try rw [← FM.eq])
          refine (HL.out _ (Nat.le_refl _)).mono ?_
          rintro e w2 ⟨A, n, cap, x, y, rfl, hb, hg⟩
          have HB2 := Lib.hid (btr (Below.refl _ _) hb)
          have HG2 := Lib.hid hg
          obtain ⟨c0, c1, c2, f0, f1, f2⟩ := FM.blk w2 HB2.out
          have hz := HB2.out.size
          have hz2 := FM.lt
          clear hb hg
          go_wp2
          exact bodyPost_ret (v := .agg #[.slice A n cap, .int .i64 x, .int .i64 y]) (by simp [results, Tryz.results150, go_sem, c0, c1, c2]) rfl (FM.fin HB2.out HG2.out)
        | false =>
          have HK2 := Lib.hid (fun v => HCL.out (acc ++ [10]) (by simp; omega) v)
          rw [hk] at HK
          cases hk2 : RP.closed (acc ++ [10]) with
          | true =>
            rw [hk2] at HK2
            have HL := Lib.hid (fun v h => HLF.out (acc ++ [10]) v h)
            rw [show RP.leaf 5 (acc ++ [10]) k = R from by rw [← HR.out]; unfold RP.command; rw [if_neg (by rw [hk]; simp), if_pos hk2]] at HL
            clear hk hk2 HLF HCL HF ht
            go_wp2_with fail
            refine (HK.out _).mono ?_
            rintro e w1 ⟨rfl, rfl⟩
            go_wp2_with (go_at_call 161; refine (HK2.out _).mono ?_; rintro e w' ⟨rfl, rfl⟩)
            (try rw [← FM.eq])
            refine (HL.out _ (Nat.le_refl _)).mono ?_
            rintro e w2 ⟨A, n, cap, x, y, rfl, hb, hg⟩
            have HB2 := Lib.hid (btr (Below.refl _ _) hb)
            have HG2 := Lib.hid hg
            obtain ⟨c0, c1, c2, f0, f1, f2⟩ := FM.blk w2 HB2.out
            have hz := HB2.out.size
            have hz2 := FM.lt
            clear hb hg
            go_wp2
            exact bodyPost_ret (v := .agg #[.slice A n cap, .int .i64 x, .int .i64 y]) (by simp [results, Tryz.results150, go_sem, c0, c1, c2]) rfl (FM.fin HB2.out HG2.out)
          | false =>
            rw [hk2] at HK2
            have HL := Lib.hid (HF.out a 6 (by decide))
            rw [show (none : RP.Res) = R from by rw [← HR.out]; unfold RP.command; rw [if_neg (by rw [hk]; simp), if_neg (by rw [hk2]; simp)]] at HL
            clear hk hk2 HLF HCL HF ht
            go_wp2_with fail
            refine (HK.out _).mono ?_
            rintro e w1 ⟨rfl, rfl⟩
            go_wp2_with (go_at_call 161; refine (HK2.out _).mono ?_; rintro e w' ⟨rfl, rfl⟩)
            (try rw [← FM.eq])
            refine (HL.out _).mono ?_
            rintro e w2 ⟨A, n, cap, x, y, rfl, hb, hg⟩
            have HB2 := Lib.hid (btr (Below.refl _ _) hb)
            have HG2 := Lib.hid hg
            obtain ⟨c0, c1, c2, f0, f1, f2⟩ := FM.blk w2 HB2.out
            have hz := HB2.out.size
            have hz2 := FM.lt
            clear hb hg
            go_wp2
            exact bodyPost_ret (v := .agg #[.slice A n cap, .int .i64 x, .int .i64 y]) (by simp [results, Tryz.results150, go_sem, c0, c1, c2]) rfl (FM.fin HB2.out HG2.out)
end W
end Go.Proofs.YtcbdhheelddgeaaGreatDoor
namespace Go.Proofs.YtcbdhheelddgeaaGreatDoor
open Go.RowKit K
namespace LX
theorem con_single {s : List UInt8} {a e : Nat} {q d : Bool} (hb : bt s a = 39) (h3 : construct s a q d = (e, 0)) : a + 2 ≤ e := by
  rw [construct_eq, con, if_neg (by rw [hb]; decide), if_pos hb] at h3
  split at h3
  · simp at h3
  · have := congrArg Prod.fst h3; dsimp only at this; omega
theorem con_cmd {s : List UInt8} {a e : Nat} {q d : Bool} (hb : bt s a = 36) (h40 : bt s (a + 1) = 40) (hp : Lib.hasPrefix (s.drop a) [36, 40, 40] = false) (h3 : construct s a q d = (e, 0)) : a + 3 ≤ e := by
  rw [construct_eq, con, if_neg (by rw [hb]; decide), if_neg (by rw [hb]; decide), if_neg (by rw [hb]; decide), if_neg (by rw [hb]; decide), if_neg (by rw [hp]; simp), if_pos h40] at h3
  have := cmd_far _ s a _ _ _ e h3
  omega
end LX
namespace RP
theorem big_construct {s : List UInt8} {a : Nat} {q d : Bool} (hb : LX.begins s a = true) (h : q = false ∨ bt s a = 36) : big s a q d = LX.construct s a q d := by
  unfold big
  rw [LX.pas_big, if_neg]
  rintro (⟨h1, h2⟩ | h1)
  · rcases h with h | h
    · rw [h] at h1; cases h1
    · rw [h] at h2; rcases h2 with h2 | h2 <;> exact absurd h2 (by decide)
  · rw [hb] at h1; cases h1
theorem big_single {s : List UInt8} {a e : Nat} (hb : bt s a = 39) (h : big s a false false = (e, 0)) : a + 2 ≤ e := by
  rw [big_construct (by unfold LX.begins; rw [if_neg (by rw [hb]; decide)]; simp [hb]) (.inl rfl)] at h
  exact LX.con_single hb h
theorem big_cmd {s : List UInt8} {a e : Nat} {q d : Bool} (hb : bt s a = 36) (hd : LX.dollar s (a + 1) = true) (h40 : bt s (a + 1) = 40) (h2 : ¬ (a + 2 < s.length ∧ bt s (a + 2) = 40)) (h : big s a q d = (e, 0)) : a + 3 ≤ e := by
  rw [big_construct (by unfold LX.begins; rw [if_pos hb]; exact hd) (.inr hb)] at h
  refine LX.con_cmd hb h40 ?_ h
  cases hp : Lib.hasPrefix (s.drop a) [36, 40, 40] with
  | false => rfl
  | true =>
    obtain ⟨g1, _, _, g4⟩ := LX.has3 hp
    exact absurd ⟨by omega, g4⟩ h2
end RP
namespace W
set_option maxRecDepth 100000
/-- The nested readings that stand behind an offset. -/
def NC (s : List UInt8) (a : Nat) (N : RP.NestR) : Prop := ∀ (c : WP.Ctx) (k : Nat) (p l o : Int) (v : World), c.s = s → RP.PlC p c.pl c.op → a < k → k ≤ s.length → c.lv ≤ 33 → ¬ (c.pl = 0 ∧ c.op = false) → l = (c.lv : Int) → o = c.opn →
  Calls Tryz.prog 110 #[.string ⟨s.toArray⟩, .int .i64 k, .int .i64 p, .int .i64 l, .int .i64 o] v (ROut v.heap.size v (N c k))
set_option maxHeartbeats 1000000 in
theorem rw_quoted (N : RP.NestR) (c : WP.Ctx) (a : Nat) (w : World) (hl : c.s.length ≤ 40000) (ha : a < c.s.length) (hlv : c.lv ≤ 33) (hN : NC c.s a N) (hG : RP.GoodN c.s N) (_hq : bt c.s a = 39 ∨ bt c.s a = 34) :
    Calls Tryz.prog 152 #[.string ⟨c.s.toArray⟩, .int .i64 a, .int .i64 c.lv] w (ROut w.heap.size w (RP.quoted N c a)) := by
  obtain ⟨s, pl, op, lv, opn⟩ := c
  dsimp only at *
  obtain ⟨wb, FM⟩ := fm_of w
  have HF := Lib.hid (fun (x y : Int) (hy : y ≠ 0) v => rw_fail x y hy v wb.heap.size)
  have h0 : ((a : Int) < (s.length : Int)) = True := eq_true (by omega)
  by_cases h39 : bt s a = 39
  · obtain ⟨k, x, hkx⟩ : ∃ k x, RP.big s a false false = (k, x) := ⟨_, _, rfl⟩
    have HC := Lib.hid (fun v => Pass_any s a 0 false false v k x (.inl ⟨rfl, rfl, rfl⟩) (by omega) ha hkx)
    have hg := RP.big_good s a false false ha
    have HU := Lib.hid (show RP.quoted N ⟨s, pl, op, lv, opn⟩ a = if x = 0 then RP.leaf 2 (cut s (a + 1) (k - 1)) k else none by unfold RP.quoted; dsimp only; rw [if_pos h39, hkx])
    rw [hkx] at hg
    have hg1 := hg.1
    dsimp only at hg1
    have e39 : (bt s a == 39) = true := by rw [beq_iff_eq]; exact h39
    by_cases hx : x = 0
    · subst hx
      have hk2 := RP.big_single h39 hkx
      rw [HU.out, if_pos rfl]
      have q1 : ((a : Int) + 1 ≤ (k : Int) - 1) = True := eq_true (by omega)
      have q2 : ((k : Int) - 1 ≤ (s.length : Int)) = True := eq_true (by omega)
      have q3 : ((k : Int) - 1).toNat = k - 1 := by omega
      have HL := Lib.hid (fun v h => rw_leaf 2 2 k (cut s (a + 1) (k - 1)) k rfl rfl v wb.heap.size h)
      clear hkx hg HU HF h39 hN hG
      go_enter Tryz.func152, Tryz.ntmps152
      go_wp2_with (go_at_call 108; refine (HC.out _).mono ?_; rintro e w' ⟨rfl, rfl⟩)
      (try rw [← FM.eq])
      refine (HL.out _ (Nat.le_refl _)).mono ?_
      rintro e w2 ⟨A, n, cap, x, y, rfl, hb, hg⟩
      have HB2 := Lib.hid (btr (Below.refl _ _) hb)
      have HG2 := Lib.hid hg
      obtain ⟨c0, c1, c2, f0, f1, f2⟩ := FM.blk w2 HB2.out
      have hz := HB2.out.size
      have hz2 := FM.lt
      clear hb hg
      go_wp2
      exact bodyPost_ret (v := .agg #[.slice A n cap, .int .i64 x, .int .i64 y]) (by simp [results, Tryz.results152, go_sem, c0, c1, c2]) rfl (FM.fin HB2.out HG2.out)
    · rw [HU.out, if_neg hx]
      have e0 : (x != 0) = true := by simp [bne, hx]
      have HFF := Lib.hid (HF.out k x hx)
      clear hkx hg HU HF h39 hN hG hx
      go_enter Tryz.func152, Tryz.ntmps152
      go_wp2_with (go_at_call 108; refine (HC.out _).mono ?_; rintro e w' ⟨rfl, rfl⟩)
      (try rw [← FM.eq])
      refine (HFF.out _).mono ?_
      rintro e w2 ⟨A, n, cap, x, y, rfl, hb, hg⟩
      have HB2 := Lib.hid (btr (Below.refl _ _) hb)
      have HG2 := Lib.hid hg
      obtain ⟨c0, c1, c2, f0, f1, f2⟩ := FM.blk w2 HB2.out
      have hz := HB2.out.size
      have hz2 := FM.lt
      clear hb hg
      go_wp2
      exact bodyPost_ret (v := .agg #[.slice A n cap, .int .i64 x, .int .i64 y]) (by simp [results, Tryz.results152, go_sem, c0, c1, c2]) rfl (FM.fin HB2.out HG2.out)
  have e39 := beq_f h39
  by_cases h32 : 32 ≤ lv
  · rw [show RP.quoted N ⟨s, pl, op, lv, opn⟩ a = none by unfold RP.quoted; dsimp only; rw [if_neg h39, if_pos h32]]
    have e32 : ((32 : Int) ≤ (lv : Int)) = True := eq_true (by omega)
    have HFF := Lib.hid (HF.out a 5 (by decide))
    clear HF h39 hN hG
    go_enter Tryz.func152, Tryz.ntmps152
    go_wp2_with fail
    (try rw [← FM.eq])
    refine (HFF.out _).mono ?_
    rintro e w2 ⟨A, n, cap, x, y, rfl, hb, hg⟩
    have HB2 := Lib.hid (btr (Below.refl _ _) hb)
    have HG2 := Lib.hid hg
    obtain ⟨c0, c1, c2, f0, f1, f2⟩ := FM.blk w2 HB2.out
    have hz := HB2.out.size
    have hz2 := FM.lt
    clear hb hg
    go_wp2
    exact bodyPost_ret (v := .agg #[.slice A n cap, .int .i64 x, .int .i64 y]) (by simp [results, Tryz.results152, go_sem, c0, c1, c2]) rfl (FM.fin HB2.out HG2.out)
  have e32 : ((32 : Int) ≤ (lv : Int)) = False := eq_false (by omega)
  have HNC := Lib.hid (fun v => hN ⟨s, 1, false, lv + 1, a⟩ (a + 1) 2 ((lv : Int) + 1) a v rfl (.inr (.inr (.inl ⟨rfl, rfl, rfl⟩))) (by omega) (by omega) (by show lv + 1 ≤ 33; omega) (fun e => Nat.noConfusion e.1) (by show _ = ((lv + 1 : Nat) : Int); omega) rfl)
  have HU := Lib.hid (show RP.quoted N ⟨s, pl, op, lv, opn⟩ a = (match N ⟨s, 1, false, lv + 1, a⟩ (a + 1) with | none => none | some (ps, e) => some ([.mk 3 [] 0 false ps], e + 1)) by unfold RP.quoted; dsimp only; rw [if_neg h39, if_neg h32]; rfl)
  cases hn : N ⟨s, 1, false, lv + 1, a⟩ (a + 1) with
  | none =>
    have hU := HU.out
    rw [hn] at hU
    rw [hU]
    rw [hn] at HNC
    clear hU HU hn HF h39 hN hG h32
    go_enter Tryz.func152, Tryz.ntmps152
    go_wp2_with fail
    (try rw [← FM.eq])
    refine (HNC.out _).mono ?_
    rintro e w1 ⟨A, n, cap, x, y, rfl, hb, hg⟩
    have HB1 := Lib.hid (btr (Below.refl _ _) hb)
    have HG1 := Lib.hid (show y ≠ 0 from hg)
    have hy : (y != 0) = true := by simp [bne, HG1.out]
    obtain ⟨c0, c1, c2, f0, f1, f2⟩ := FM.blk w1 HB1.out
    obtain ⟨d0, d1, d2, g0, g1, g2⟩ := FM.blk (w1.alloc (.cells #[.slice A n cap, .int .i64 x, .int .i64 y] 143)) (btr HB1.out (balloc _ _))
    have hz := HB1.out.size
    have hz2 := FM.lt
    clear hb hg
    go_wp2
    exact bodyPost_ret (v := .agg #[.slice A n cap, .int .i64 x, .int .i64 y]) (by simp [results, Tryz.results152, go_sem, d0, d1, d2]) rfl (FM.fin (btr HB1.out (balloc _ _)) HG1.out)
  | some r =>
    obtain ⟨ps, j⟩ := r
    have hj := (hG ⟨s, 1, false, lv + 1, a⟩ (a + 1) ps j rfl (fun e => Nat.noConfusion e.1) (by omega) hn).2.1
    have hU := HU.out
    rw [hn] at hU
    rw [hU]
    rw [hn] at HNC
    clear hU HU hn HF h39 hN hG h32
    go_enter Tryz.func152, Tryz.ntmps152
    go_wp2_with fail
    (try rw [← FM.eq])
    refine (HNC.out _).mono ?_
    rintro e w1 ⟨A, n, cap, x, y, rfl, hb, rfl, rfl, hn, hv⟩
    have HB1 := Lib.hid (btr (Below.refl _ _) hb)
    obtain ⟨c0, c1, c2, f0, f1, f2⟩ := FM.blk w1 HB1.out
    have hz := HB1.out.size
    have hz2 := FM.lt
    have HO1 := Lib.hid (fun v (h : Below w1.heap.size w1 v) => rw_one 3 0 [] false ps A n cap (j + 1) ((j : Int) + 1) hn (by omega) v wb.heap.size (Nat.le_trans HB1.out.size h.size) (hv.mono (Nat.le_refl _) (fun b _ hb2 => h.block b hb2)))
    clear hb hn hv
    go_wp2_with fail
    (try rw [← FM.eq])
    refine (HO1.out _ (balloc _ _)).mono ?_
    rintro e w2 ⟨A, n, cap, x, y, rfl, hb, hg⟩
    have HB2 := Lib.hid (btr (btr HB1.out (balloc _ _)) hb)
    have HG2 := Lib.hid hg
    obtain ⟨c0, c1, c2, f0, f1, f2⟩ := FM.blk w2 HB2.out
    have hz := HB2.out.size
    have hz2 := FM.lt
    clear hb hg
    go_wp2
    exact bodyPost_ret (v := .agg #[.slice A n cap, .int .i64 x, .int .i64 y]) (by simp [results, Tryz.results152, go_sem, c0, c1, c2]) rfl (FM.fin HB2.out HG2.out)
end W
end Go.Proofs.YtcbdhheelddgeaaGreatDoor
namespace Go.Proofs.YtcbdhheelddgeaaGreatDoor
open Go.RowKit K
namespace W
set_option maxRecDepth 100000
set_option maxHeartbeats 2000000 in
theorem rw_expansion (N : RP.NestR) (c : WP.Ctx) (a : Nat) (p : Int) (hp : RP.PlC p c.pl c.op) (w : World) (hl : c.s.length ≤ 40000) (h36 : bt c.s a = 36) (hd : LX.dollar c.s (a + 1) = true) (hlv : c.lv ≤ 33) (hN : NC c.s a N) (hG : RP.GoodN c.s N)
    (hB : ∀ v, bt c.s (a + 1) = 123 → Calls Tryz.prog 173 #[.string ⟨c.s.toArray⟩, .int .i64 a, .int .i64 p, .int .i64 c.lv] v (ROut v.heap.size v (RP.braced N c a))) :
    Calls Tryz.prog 162 #[.string ⟨c.s.toArray⟩, .int .i64 a, .int .i64 p, .int .i64 c.lv] w (ROut w.heap.size w (RP.expansion N c a)) := by
  obtain ⟨s, pl, op, lv, opn⟩ := c
  dsimp only at *
  obtain ⟨wb, FM⟩ := fm_of w
  have HF := Lib.hid (fun (x y : Int) (hy : y ≠ 0) v => rw_fail x y hy v wb.heap.size)
  have ha : a + 1 < s.length := by
    unfold LX.dollar at hd
    rw [Bool.and_eq_true, decide_eq_true_eq] at hd
    exact hd.1
  have h0 : ((a : Int) + 1 < (s.length : Int)) = True := eq_true (by omega)
  by_cases h123 : bt s (a + 1) = 123
  · rw [show RP.expansion N ⟨s, pl, op, lv, opn⟩ a = RP.braced N ⟨s, pl, op, lv, opn⟩ a by unfold RP.expansion; rw [if_pos h123]]
    have e123 : (bt s (a + 1) == 123) = true := by rw [beq_iff_eq]; exact h123
    have HBB := Lib.hid (fun v (h : wb.heap.size ≤ v.heap.size) => (hB v h123).mono (fun e w' (hh : ROut v.heap.size v (RP.braced N ⟨s, pl, op, lv, opn⟩ a) e w') => hh.mono h))
    clear hB hp h36 hd hN hG HF h123
    go_enter Tryz.func162, Tryz.ntmps162
    go_wp2_with fail
    (try rw [← FM.eq])
    refine (HBB.out _ (Nat.le_refl _)).mono ?_
    rintro e w2 ⟨A, n, cap, x, y, rfl, hb, hg⟩
    have HB2 := Lib.hid (btr (Below.refl _ _) hb)
    have HG2 := Lib.hid hg
    obtain ⟨c0, c1, c2, f0, f1, f2⟩ := FM.blk w2 HB2.out
    have hz := HB2.out.size
    have hz2 := FM.lt
    clear hb hg
    go_wp2
    exact bodyPost_ret (v := .agg #[.slice A n cap, .int .i64 x, .int .i64 y]) (by simp [results, Tryz.results162, go_sem, c0, c1, c2]) rfl (FM.fin HB2.out HG2.out)
  have e123 := beq_f h123
  clear hB
  have HU := Lib.hid (show RP.expansion N ⟨s, pl, op, lv, opn⟩ a = if bt s (a + 1) = 40 ∧ a + 2 < s.length ∧ bt s (a + 2) = 40 then
    if 32 ≤ lv then none
    else match N ⟨s, 2, false, lv + 1, a⟩ (a + 3) with
      | none => none
      | some (ps, e) => some ([.mk 6 [] 0 false ps], e + 2)
    else if bt s (a + 1) = 40 then
      if (RP.big s a (RP.marks pl).1 (RP.marks pl).2).2 = 0 then RP.leaf 5 (cut s (a + 2) ((RP.big s a (RP.marks pl).1 (RP.marks pl).2).1 - 1)) (RP.big s a (RP.marks pl).1 (RP.marks pl).2).1 else none
    else if LX.spec (bt s (a + 1)) = true then RP.leaf 4 (cut s (a + 1) (a + 2)) (a + 2)
    else if 32 < LX.nameEnd s (a + 1) - a - 1 then none
    else RP.leaf 4 (cut s (a + 1) (LX.nameEnd s (a + 1))) (LX.nameEnd s (a + 1)) by unfold RP.expansion; rw [if_neg h123]; rfl)
  clear h123
  by_cases h40 : bt s (a + 1) = 40
  · have e40 : (bt s (a + 1) == 40) = true := by rw [beq_iff_eq]; exact h40
    by_cases h2 : a + 2 < s.length ∧ bt s (a + 2) = 40
    · have HV := Lib.hid (HU.out.trans (if_pos ⟨h40, h2.1, h2.2⟩))
      have q2 : ((a : Int) + 2 < (s.length : Int)) = True := eq_true (by omega)
      have e2 : (bt s (a + 2) == 40) = true := by rw [beq_iff_eq]; exact h2.2
      by_cases h32 : 32 ≤ lv
      · rw [HV.out, if_pos h32]
        have e32 : ((32 : Int) ≤ (lv : Int)) = True := eq_true (by omega)
        have HFF := Lib.hid (HF.out a 5 (by decide))
        clear HF hN hG HU HV h2 h40 hd h36 hp
        go_enter Tryz.func162, Tryz.ntmps162
        go_wp2_with fail
        (try rw [← FM.eq])
        refine (HFF.out _).mono ?_
        rintro e w2 ⟨A, n, cap, x, y, rfl, hb, hg⟩
        have HB2 := Lib.hid (btr (Below.refl _ _) hb)
        have HG2 := Lib.hid hg
        obtain ⟨c0, c1, c2, f0, f1, f2⟩ := FM.blk w2 HB2.out
        have hz := HB2.out.size
        have hz2 := FM.lt
        clear hb hg
        go_wp2
        exact bodyPost_ret (v := .agg #[.slice A n cap, .int .i64 x, .int .i64 y]) (by simp [results, Tryz.results162, go_sem, c0, c1, c2]) rfl (FM.fin HB2.out HG2.out)
      have e32 : ((32 : Int) ≤ (lv : Int)) = False := eq_false (by omega)
      have HNC := Lib.hid (fun v => hN ⟨s, 2, false, lv + 1, a⟩ (a + 3) 4 ((lv : Int) + 1) a v rfl (.inr (.inr (.inr (.inr (.inl ⟨rfl, rfl, rfl⟩))))) (by omega) (by omega) (by show lv + 1 ≤ 33; omega) (fun e => Nat.noConfusion e.1) (by show _ = ((lv + 1 : Nat) : Int); omega) rfl)
      replace HV := Lib.hid (HV.out.trans (if_neg h32))
      cases hn : N ⟨s, 2, false, lv + 1, a⟩ (a + 3) with
      | none =>
        have hU := HV.out
        rw [hn] at hU
        rw [hU]
        rw [hn] at HNC
        clear hU HU HV hn HF h40 hN hG h32 h2 hd h36 hp
        go_enter Tryz.func162, Tryz.ntmps162
        go_wp2_with fail
        (try rw [← FM.eq])
        refine (HNC.out _).mono ?_
        rintro e w1 ⟨A, n, cap, x, y, rfl, hb, hg⟩
        have HB1 := Lib.hid (btr (Below.refl _ _) hb)
        have HG1 := Lib.hid (show y ≠ 0 from hg)
        have hy : (y != 0) = true := by simp [bne, HG1.out]
        obtain ⟨c0, c1, c2, f0, f1, f2⟩ := FM.blk w1 HB1.out
        obtain ⟨d0, d1, d2, g0, g1, g2⟩ := FM.blk (w1.alloc (.cells #[.slice A n cap, .int .i64 x, .int .i64 y] 143)) (btr HB1.out (balloc _ _))
        have hz := HB1.out.size
        have hz2 := FM.lt
        clear hb hg
        go_wp2
        exact bodyPost_ret (v := .agg #[.slice A n cap, .int .i64 x, .int .i64 y]) (by simp [results, Tryz.results162, go_sem, d0, d1, d2]) rfl (FM.fin (btr HB1.out (balloc _ _)) HG1.out)
      | some r =>
        obtain ⟨ps, j⟩ := r
        have hj := (hG ⟨s, 2, false, lv + 1, a⟩ (a + 3) ps j rfl (fun e => Nat.noConfusion e.1) (by omega) hn).2.1
        have hU := HV.out
        rw [hn] at hU
        rw [hU]
        rw [hn] at HNC
        clear hU HU HV hn HF h40 hN hG h32 h2 hd h36 hp
        go_enter Tryz.func162, Tryz.ntmps162
        go_wp2_with fail
        (try rw [← FM.eq])
        refine (HNC.out _).mono ?_
        rintro e w1 ⟨A, n, cap, x, y, rfl, hb, rfl, rfl, hn, hv⟩
        have HB1 := Lib.hid (btr (Below.refl _ _) hb)
        obtain ⟨c0, c1, c2, f0, f1, f2⟩ := FM.blk w1 HB1.out
        have hz := HB1.out.size
        have hz2 := FM.lt
        have HO1 := Lib.hid (fun v (h : Below w1.heap.size w1 v) => rw_one 6 0 [] false ps A n cap (j + 2) ((j : Int) + 2) hn (by omega) v wb.heap.size (Nat.le_trans HB1.out.size h.size) (hv.mono (Nat.le_refl _) (fun b _ hb2 => h.block b hb2)))
        clear hb hn hv
        go_wp2_with fail
        (try rw [← FM.eq])
        refine (HO1.out _ (balloc _ _)).mono ?_
        rintro e w2 ⟨A, n, cap, x, y, rfl, hb, hg⟩
        have HB2 := Lib.hid (btr (btr HB1.out (balloc _ _)) hb)
        have HG2 := Lib.hid hg
        obtain ⟨c0, c1, c2, f0, f1, f2⟩ := FM.blk w2 HB2.out
        have hz := HB2.out.size
        have hz2 := FM.lt
        clear hb hg
        go_wp2
        exact bodyPost_ret (v := .agg #[.slice A n cap, .int .i64 x, .int .i64 y]) (by simp [results, Tryz.results162, go_sem, c0, c1, c2]) rfl (FM.fin HB2.out HG2.out)
    · have HV := Lib.hid ((HU.out.trans (if_neg (fun e => h2 e.2))).trans (if_pos h40))
      have HQ := Lib.hid (fun v => rw_quotes p pl op hp v)
      obtain ⟨k, x, hkx⟩ : ∃ k x, RP.big s a (RP.marks pl).1 (RP.marks pl).2 = (k, x) := ⟨_, _, rfl⟩
      have HC := Lib.hid (fun v => Pass_any s a (RP.quot pl) (RP.marks pl).1 (RP.marks pl).2 v k x (RP.quot_pl hp) (by omega) (by omega) hkx)
      have hg := RP.big_good s a (RP.marks pl).1 (RP.marks pl).2 (by omega)
      rw [hkx] at HV hg
      have hg1 := hg.1
      dsimp only at hg1
      by_cases hx : x = 0
      · subst hx
        have hk3 := RP.big_cmd h36 hd h40 h2 hkx
        rw [HV.out, if_pos rfl]
        have q1 : ((a : Int) + 2 ≤ (k : Int) - 1) = True := eq_true (by omega)
        have q2 : ((k : Int) - 1 ≤ (s.length : Int)) = True := eq_true (by omega)
        have q3 : ((k : Int) - 1).toNat = k - 1 := by omega
        have HL := Lib.hid (fun v h => rw_leaf 5 5 k (cut s (a + 2) (k - 1)) k rfl rfl v wb.heap.size h)
        by_cases h2a : a + 2 < s.length
        · have q5 : ((a : Int) + 2 < (s.length : Int)) = True := eq_true (by omega)
          have e2 := beq_f (fun e => h2 ⟨h2a, e⟩)
          clear hkx hg HU HV HF h36 hN hG h2 h40 hd hp
          go_enter Tryz.func162, Tryz.ntmps162
          go_wp2_with (first | (go_at_call 174; refine (HQ.out _).mono ?_; rintro e w' ⟨rfl, rfl⟩) | (go_at_call 108; refine (HC.out _).mono ?_; rintro e w' ⟨rfl, rfl⟩))
          (try rw [← FM.eq])
          refine (HL.out _ (Nat.le_refl _)).mono ?_
          rintro e w2 ⟨A, n, cap, x, y, rfl, hb, hg⟩
          have HB2 := Lib.hid (btr (Below.refl _ _) hb)
          have HG2 := Lib.hid hg
          obtain ⟨c0, c1, c2, f0, f1, f2⟩ := FM.blk w2 HB2.out
          have hz := HB2.out.size
          have hz2 := FM.lt
          clear hb hg
          go_wp2
          exact bodyPost_ret (v := .agg #[.slice A n cap, .int .i64 x, .int .i64 y]) (by simp [results, Tryz.results162, go_sem, c0, c1, c2]) rfl (FM.fin HB2.out HG2.out)
        · exact absurd hk3 (by omega)
      · rw [HV.out, if_neg hx]
        have e0 : (x != 0) = true := by simp [bne, hx]
        have HFF := Lib.hid (HF.out k x hx)
        by_cases h2a : a + 2 < s.length
        · have q5 : ((a : Int) + 2 < (s.length : Int)) = True := eq_true (by omega)
          have e2 := beq_f (fun e => h2 ⟨h2a, e⟩)
          clear hkx hg HU HV HF h36 hN hG h2 h40 hd hp hx
          go_enter Tryz.func162, Tryz.ntmps162
          go_wp2_with (first | (go_at_call 174; refine (HQ.out _).mono ?_; rintro e w' ⟨rfl, rfl⟩) | (go_at_call 108; refine (HC.out _).mono ?_; rintro e w' ⟨rfl, rfl⟩))
          (try rw [← FM.eq])
          refine (HFF.out _).mono ?_
          rintro e w2 ⟨A, n, cap, x, y, rfl, hb, hg⟩
          have HB2 := Lib.hid (btr (Below.refl _ _) hb)
          have HG2 := Lib.hid hg
          obtain ⟨c0, c1, c2, f0, f1, f2⟩ := FM.blk w2 HB2.out
          have hz := HB2.out.size
          have hz2 := FM.lt
          clear hb hg
          go_wp2
          exact bodyPost_ret (v := .agg #[.slice A n cap, .int .i64 x, .int .i64 y]) (by simp [results, Tryz.results162, go_sem, c0, c1, c2]) rfl (FM.fin HB2.out HG2.out)
        · have q5 : ((a : Int) + 2 < (s.length : Int)) = False := eq_false (by omega)
          clear hkx hg HU HV HF h36 hN hG h2 h40 hd hp hx
          go_enter Tryz.func162, Tryz.ntmps162
          go_wp2_with (first | (go_at_call 174; refine (HQ.out _).mono ?_; rintro e w' ⟨rfl, rfl⟩) | (go_at_call 108; refine (HC.out _).mono ?_; rintro e w' ⟨rfl, rfl⟩))
          (try rw [← FM.eq])
          refine (HFF.out _).mono ?_
          rintro e w2 ⟨A, n, cap, x, y, rfl, hb, hg⟩
          have HB2 := Lib.hid (btr (Below.refl _ _) hb)
          have HG2 := Lib.hid hg
          obtain ⟨c0, c1, c2, f0, f1, f2⟩ := FM.blk w2 HB2.out
          have hz := HB2.out.size
          have hz2 := FM.lt
          clear hb hg
          go_wp2
          exact bodyPost_ret (v := .agg #[.slice A n cap, .int .i64 x, .int .i64 y]) (by simp [results, Tryz.results162, go_sem, c0, c1, c2]) rfl (FM.fin HB2.out HG2.out)
  have e40 := beq_f h40
  have HV := Lib.hid ((HU.out.trans (if_neg (fun e => h40 e.1))).trans (if_neg h40))
  have HS := Lib.hid (fun v => show Calls Tryz.prog 142 #[.int .u8 (bt s (a + 1))] v (fun e w' => e = .returned (.bool (LX.spec (bt s (a + 1)))) ∧ v = w') from rx_special (bt s (a + 1)) v)
  cases hsp : LX.spec (bt s (a + 1)) with
  | true =>
    rw [HV.out, if_pos hsp]
    rw [hsp] at HS
    have q1 : ((a : Int) + 1 ≤ (a : Int) + 2) = True := eq_true (by omega)
    have q2 : ((a : Int) + 2 ≤ (s.length : Int)) = True := eq_true (by omega)
    have HL := Lib.hid (fun v h => rw_leaf 4 4 ((a : Int) + 2) (cut s (a + 1) (a + 2)) (a + 2) rfl (by omega) v wb.heap.size h)
    clear HU HV HF h36 hN hG h40 hd hp hsp
    go_enter Tryz.func162, Tryz.ntmps162
    go_wp2_with (go_at_call 142; refine (HS.out _).mono ?_; rintro e w' ⟨rfl, rfl⟩)
    (try rw [← FM.eq])
    refine (HL.out _ (Nat.le_refl _)).mono ?_
    rintro e w2 ⟨A, n, cap, x, y, rfl, hb, hg⟩
    have HB2 := Lib.hid (btr (Below.refl _ _) hb)
    have HG2 := Lib.hid hg
    obtain ⟨c0, c1, c2, f0, f1, f2⟩ := FM.blk w2 HB2.out
    have hz := HB2.out.size
    have hz2 := FM.lt
    clear hb hg
    go_wp2
    exact bodyPost_ret (v := .agg #[.slice A n cap, .int .i64 x, .int .i64 y]) (by simp [results, Tryz.results162, go_sem, c0, c1, c2]) rfl (FM.fin HB2.out HG2.out)
  | false =>
    have HNM := Lib.hid (fun v => rx_name s (a + 1) v (by omega) (by omega))
    have n1 := LX.nameEnd_ge s (a + 1)
    have n2 := LX.nameEnd_le s (i := a + 1) (by omega)
    have hU := HV.out.trans (if_neg (by rw [hsp]; simp))
    rw [hsp] at HS
    generalize LX.nameEnd s (a + 1) = e0 at HNM n1 n2 hU
    by_cases h32 : 32 < e0 - a - 1
    · rw [hU, if_pos h32]
      have q1 : ((32 : Int) < (e0 : Int) - (a : Int) - 1) = True := eq_true (by omega)
      have HFF := Lib.hid (HF.out a 3 (by decide))
      clear HU HV HF h36 hN hG h40 hd hp hsp hU h32
      go_enter Tryz.func162, Tryz.ntmps162
      go_wp2_with (first | (go_at_call 142; refine (HS.out _).mono ?_; rintro e w' ⟨rfl, rfl⟩) | (go_at_call 146; refine (HNM.out _).mono ?_; rintro e w' ⟨rfl, rfl⟩))
      (try rw [← FM.eq])
      refine (HFF.out _).mono ?_
      rintro e w2 ⟨A, n, cap, x, y, rfl, hb, hg⟩
      have HB2 := Lib.hid (btr (Below.refl _ _) hb)
      have HG2 := Lib.hid hg
      obtain ⟨c0, c1, c2, f0, f1, f2⟩ := FM.blk w2 HB2.out
      have hz := HB2.out.size
      have hz2 := FM.lt
      clear hb hg
      go_wp2
      exact bodyPost_ret (v := .agg #[.slice A n cap, .int .i64 x, .int .i64 y]) (by simp [results, Tryz.results162, go_sem, c0, c1, c2]) rfl (FM.fin HB2.out HG2.out)
    · rw [hU, if_neg h32]
      have q1 : ((32 : Int) < (e0 : Int) - (a : Int) - 1) = False := eq_false (by omega)
      have q2 : ((a : Int) + 1 ≤ (e0 : Int)) = True := eq_true (by omega)
      have q3 : ((e0 : Int) ≤ (s.length : Int)) = True := eq_true (by omega)
      have HL := Lib.hid (fun v h => rw_leaf 4 4 e0 (cut s (a + 1) e0) e0 rfl rfl v wb.heap.size h)
      clear HU HV HF h36 hN hG h40 hd hp hsp hU h32
      go_enter Tryz.func162, Tryz.ntmps162
      go_wp2_with (first | (go_at_call 142; refine (HS.out _).mono ?_; rintro e w' ⟨rfl, rfl⟩) | (go_at_call 146; refine (HNM.out _).mono ?_; rintro e w' ⟨rfl, rfl⟩))
      (try rw [← FM.eq])
      refine (HL.out _ (Nat.le_refl _)).mono ?_
      rintro e w2 ⟨A, n, cap, x, y, rfl, hb, hg⟩
      have HB2 := Lib.hid (btr (Below.refl _ _) hb)
      have HG2 := Lib.hid hg
      obtain ⟨c0, c1, c2, f0, f1, f2⟩ := FM.blk w2 HB2.out
      have hz := HB2.out.size
      have hz2 := FM.lt
      clear hb hg
      go_wp2
      exact bodyPost_ret (v := .agg #[.slice A n cap, .int .i64 x, .int .i64 y]) (by simp [results, Tryz.results162, go_sem, c0, c1, c2]) rfl (FM.fin HB2.out HG2.out)
set_option maxHeartbeats 2000000 in
theorem rw_dollar (N : RP.NestR) (c : WP.Ctx) (a : Nat) (p : Int) (hp : RP.PlC p c.pl c.op) (w : World) (hl : c.s.length ≤ 40000) (ha : a < c.s.length) (h36 : bt c.s a = 36)
    (hE : ∀ v, LX.dollar c.s (a + 1) = true → Calls Tryz.prog 162 #[.string ⟨c.s.toArray⟩, .int .i64 a, .int .i64 p, .int .i64 c.lv] v (ROut v.heap.size v (RP.expansion N c a))) :
    Calls Tryz.prog 151 #[.string ⟨c.s.toArray⟩, .int .i64 a, .int .i64 p, .int .i64 c.lv] w (ROut w.heap.size w (RP.dollar N c a)) := by
  obtain ⟨s, pl, op, lv, opn⟩ := c
  dsimp only at *
  obtain ⟨wb, FM⟩ := fm_of w
  have HF := Lib.hid (fun (x y : Int) (hy : y ≠ 0) v => rw_fail x y hy v wb.heap.size)
  have HX := Lib.hid (fun v => rx_begins s a v ha (by omega))
  rw [decide_eq_true h36, Bool.true_and] at HX
  cases hd : LX.dollar s (a + 1) with
  | true =>
    rw [show RP.dollar N ⟨s, pl, op, lv, opn⟩ a = RP.expansion N ⟨s, pl, op, lv, opn⟩ a by unfold RP.dollar; rw [if_pos hd]]
    rw [hd] at HX
    have HBB := Lib.hid (fun v (h : wb.heap.size ≤ v.heap.size) => (hE v hd).mono (fun e w' (hh : ROut v.heap.size v (RP.expansion N ⟨s, pl, op, lv, opn⟩ a) e w') => hh.mono h))
    clear hE hp h36 hd HF
    go_enter Tryz.func151, Tryz.ntmps151
    go_wp2_with (go_at_call 124; refine (HX.out _).mono ?_; rintro e w' ⟨rfl, rfl⟩)
    (try rw [← FM.eq])
    refine (HBB.out _ (Nat.le_refl _)).mono ?_
    rintro e w2 ⟨A, n, cap, x, y, rfl, hb, hg⟩
    have HB2 := Lib.hid (btr (Below.refl _ _) hb)
    have HG2 := Lib.hid hg
    obtain ⟨c0, c1, c2, f0, f1, f2⟩ := FM.blk w2 HB2.out
    have hz := HB2.out.size
    have hz2 := FM.lt
    clear hb hg
    go_wp2
    exact bodyPost_ret (v := .agg #[.slice A n cap, .int .i64 x, .int .i64 y]) (by simp [results, Tryz.results151, go_sem, c0, c1, c2]) rfl (FM.fin HB2.out HG2.out)
  | false =>
    rw [hd] at HX
    have HU := Lib.hid (show RP.dollar N ⟨s, pl, op, lv, opn⟩ a = if pl = 0 ∧ (a + 1 < s.length ∧ bt s (a + 1) = 96 ∨ LX.joins s (a + 1) = true) then none else RP.leaf 1 [36] (a + 1) by unfold RP.dollar; dsimp only; rw [if_neg (by rw [hd]; simp)])
    have HO := Lib.hid (fun v => rw_outside p pl op hp v)
    have HJ := Lib.hid (fun v => rw_joined s (a + 1) v (by omega) (by omega))
    have HL := Lib.hid (fun v h => rw_leaf 1 1 ((a : Int) + 1) [36] (a + 1) rfl (by omega) v wb.heap.size h)
    have HFF := Lib.hid (HF.out a 6 (by decide))
    clear hE hp h36 hd HF
    by_cases h0 : pl = 0
    · rw [decide_eq_true h0] at HO
      by_cases h1 : a + 1 < s.length
      · have q1 : ((a : Int) + 1 < (s.length : Int)) = True := eq_true (by omega)
        by_cases h96 : bt s (a + 1) = 96
        · rw [HU.out, if_pos ⟨h0, .inl ⟨h1, h96⟩⟩]
          have e96 : (bt s (a + 1) == 96) = true := by rw [beq_iff_eq]; exact h96
          clear HU HL h96 h0 HJ
          go_enter Tryz.func151, Tryz.ntmps151
          go_wp2_with (first | (go_at_call 124; refine (HX.out _).mono ?_; rintro e w' ⟨rfl, rfl⟩) | (go_at_call 147; refine (HO.out _).mono ?_; rintro e w' ⟨rfl, rfl⟩))
          (try rw [← FM.eq])
          refine (HFF.out _).mono ?_
          rintro e w2 ⟨A, n, cap, x, y, rfl, hb, hg⟩
          have HB2 := Lib.hid (btr (Below.refl _ _) hb)
          have HG2 := Lib.hid hg
          obtain ⟨c0, c1, c2, f0, f1, f2⟩ := FM.blk w2 HB2.out
          have hz := HB2.out.size
          have hz2 := FM.lt
          clear hb hg
          go_wp2
          exact bodyPost_ret (v := .agg #[.slice A n cap, .int .i64 x, .int .i64 y]) (by simp [results, Tryz.results151, go_sem, c0, c1, c2]) rfl (FM.fin HB2.out HG2.out)
        · have e96 := beq_f h96
          cases hj : LX.joins s (a + 1) with
          | true =>
            rw [HU.out, if_pos ⟨h0, .inr hj⟩]
            rw [hj] at HJ
            clear HU HL h96 h0 hj
            go_enter Tryz.func151, Tryz.ntmps151
            go_wp2_with (first | (go_at_call 124; refine (HX.out _).mono ?_; rintro e w' ⟨rfl, rfl⟩) | (go_at_call 147; refine (HO.out _).mono ?_; rintro e w' ⟨rfl, rfl⟩) | (go_at_call 148; refine (HJ.out _).mono ?_; rintro e w' ⟨rfl, rfl⟩))
            (try rw [← FM.eq])
            refine (HFF.out _).mono ?_
            rintro e w2 ⟨A, n, cap, x, y, rfl, hb, hg⟩
            have HB2 := Lib.hid (btr (Below.refl _ _) hb)
            have HG2 := Lib.hid hg
            obtain ⟨c0, c1, c2, f0, f1, f2⟩ := FM.blk w2 HB2.out
            have hz := HB2.out.size
            have hz2 := FM.lt
            clear hb hg
            go_wp2
            exact bodyPost_ret (v := .agg #[.slice A n cap, .int .i64 x, .int .i64 y]) (by simp [results, Tryz.results151, go_sem, c0, c1, c2]) rfl (FM.fin HB2.out HG2.out)
          | false =>
            rw [HU.out, if_neg (fun e => e.2.elim (fun e => h96 e.2) (fun e => by rw [hj] at e; cases e))]
            rw [hj] at HJ
            clear HU HFF h96 h0 hj
            go_enter Tryz.func151, Tryz.ntmps151
            go_wp2_with (first | (go_at_call 124; refine (HX.out _).mono ?_; rintro e w' ⟨rfl, rfl⟩) | (go_at_call 147; refine (HO.out _).mono ?_; rintro e w' ⟨rfl, rfl⟩) | (go_at_call 148; refine (HJ.out _).mono ?_; rintro e w' ⟨rfl, rfl⟩))
            (try rw [← FM.eq])
            refine (HL.out _ (Nat.le_refl _)).mono ?_
            rintro e w2 ⟨A, n, cap, x, y, rfl, hb, hg⟩
            have HB2 := Lib.hid (btr (Below.refl _ _) hb)
            have HG2 := Lib.hid hg
            obtain ⟨c0, c1, c2, f0, f1, f2⟩ := FM.blk w2 HB2.out
            have hz := HB2.out.size
            have hz2 := FM.lt
            clear hb hg
            go_wp2
            exact bodyPost_ret (v := .agg #[.slice A n cap, .int .i64 x, .int .i64 y]) (by simp [results, Tryz.results151, go_sem, c0, c1, c2]) rfl (FM.fin HB2.out HG2.out)
      · have q1 : ((a : Int) + 1 < (s.length : Int)) = False := eq_false (by omega)
        have hj : LX.joins s (a + 1) = false := by
          cases hj : LX.joins s (a + 1) with
          | false => rfl
          | true => have := (LX.joins_iff.1 hj).2.2; omega
        rw [HU.out, if_neg (fun e => e.2.elim (fun e => h1 e.1) (fun e => by rw [hj] at e; cases e))]
        rw [hj] at HJ
        clear HU HFF h0 hj
        go_enter Tryz.func151, Tryz.ntmps151
        go_wp2_with (first | (go_at_call 124; refine (HX.out _).mono ?_; rintro e w' ⟨rfl, rfl⟩) | (go_at_call 147; refine (HO.out _).mono ?_; rintro e w' ⟨rfl, rfl⟩) | (go_at_call 148; refine (HJ.out _).mono ?_; rintro e w' ⟨rfl, rfl⟩))
        (try rw [← FM.eq])
        refine (HL.out _ (Nat.le_refl _)).mono ?_
        rintro e w2 ⟨A, n, cap, x, y, rfl, hb, hg⟩
        have HB2 := Lib.hid (btr (Below.refl _ _) hb)
        have HG2 := Lib.hid hg
        obtain ⟨c0, c1, c2, f0, f1, f2⟩ := FM.blk w2 HB2.out
        have hz := HB2.out.size
        have hz2 := FM.lt
        clear hb hg
        go_wp2
        exact bodyPost_ret (v := .agg #[.slice A n cap, .int .i64 x, .int .i64 y]) (by simp [results, Tryz.results151, go_sem, c0, c1, c2]) rfl (FM.fin HB2.out HG2.out)
    · rw [decide_eq_false h0] at HO
      rw [HU.out, if_neg (fun e => h0 e.1)]
      clear HU HFF h0
      go_enter Tryz.func151, Tryz.ntmps151
      go_wp2_with (first | (go_at_call 124; refine (HX.out _).mono ?_; rintro e w' ⟨rfl, rfl⟩) | (go_at_call 147; refine (HO.out _).mono ?_; rintro e w' ⟨rfl, rfl⟩))
      (try rw [← FM.eq])
      refine (HL.out _ (Nat.le_refl _)).mono ?_
      rintro e w2 ⟨A, n, cap, x, y, rfl, hb, hg⟩
      have HB2 := Lib.hid (btr (Below.refl _ _) hb)
      have HG2 := Lib.hid hg
      obtain ⟨c0, c1, c2, f0, f1, f2⟩ := FM.blk w2 HB2.out
      have hz := HB2.out.size
      have hz2 := FM.lt
      clear hb hg
      go_wp2
      exact bodyPost_ret (v := .agg #[.slice A n cap, .int .i64 x, .int .i64 y]) (by simp [results, Tryz.results151, go_sem, c0, c1, c2]) rfl (FM.fin HB2.out HG2.out)
end W
end Go.Proofs.YtcbdhheelddgeaaGreatDoor
