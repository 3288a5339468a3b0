/- Chapter 10: document. -/
import Derived.Test.YtggjhkmokgliaaaDoorW10b
import Derived.Test.YtggjhkmokgliaaaDoorP10b
namespace Go.Proofs.YtggjhkmokgliaaaDoor
open Go.RowKit Go.Shelf K
attribute [local go_sem] Oper.semAt_some
/-- A goal that several ways share. -/
structure Shared (G : Prop) : Prop where
  out : G
theorem merge {G T : Prop} (h : Shared G → T) (g : G) : T := h ⟨g⟩
namespace W
/-- A block of cells stays what it is where other blocks turn. -/
theorem block_grown {w w' : World} {row : Option Nat} {k : Nat} {o : Obj} (hg : w.grownBy w' row) (hr : ∀ r, row = some r → ∃ o : Obj, w.heap[r]? = some o ∧ o.isCells = false) (hk : w.heap[k]? = some o) (ho : o.isCells = true) : w'.heap[k]? = some o := by
  rw [hg.block k (Array.getElem?_eq_some_iff.1 hk).1 ?_]
  · exact hk
  · intro e
    obtain ⟨o', h1, h2⟩ := hr k e.symm
    rw [hk] at h1
    injection h1 with h1
    subst h1
    rw [ho] at h2
    cases h2
/-- The boxes of document: the offset, the delimiter, the three results, and the builder. -/
structure DB (z : Nat) (at_ : Int) (t : List UInt8) (st q : Bool) (r1 : List UInt8) (r2 : Int) (r3 : Bool) (l : List UInt8) (W : World) : Prop where
  b0 : W.heap[z]? = some (.cells #[.int .i64 at_] 3 (0, 0))
  b1 : W.heap[z + 1]? = some (.cells #[.string ⟨t.toArray⟩, .bool st, .bool q] 30 (0, 0))
  b2 : W.heap[z + 1 + 1]? = some (.cells #[.string ⟨r1.toArray⟩] 9 (0, 0))
  b3 : W.heap[z + 1 + 1 + 1]? = some (.cells #[.int .i64 r2] 3 (0, 0))
  b4 : W.heap[z + 1 + 1 + 1 + 1]? = some (.cells #[.bool r3] 4 (0, 0))
  bd : Bld (z + 1 + 1 + 1 + 1 + 1) l W
theorem DB.grown {z : Nat} {at_ : Int} {t : List UInt8} {st q : Bool} {r1 : List UInt8} {r2 : Int} {r3 : Bool} {l : List UInt8} {w w' : World} {row : Option Nat} (h : DB z at_ t st q r1 r2 r3 l w) (hg : w.grownBy w' row) (hr : ∀ r, row = some r → ∃ o : Obj, w.heap[r]? = some o ∧ o.isCells = false) : DB z at_ t st q r1 r2 r3 l w' :=
  ⟨block_grown hg hr h.b0 rfl, block_grown hg hr h.b1 rfl, block_grown hg hr h.b2 rfl, block_grown hg hr h.b3 rfl, block_grown hg hr h.b4 rfl, h.bd.grown hg hr⟩
theorem DB.later {z : Nat} {at_ : Int} {t : List UInt8} {st q : Bool} {r1 : List UInt8} {r2 : Int} {r3 : Bool} {l : List UInt8} {w w' : World} (h : DB z at_ t st q r1 r2 r3 l w) (hb : Below w.heap.size w w') : DB z at_ t st q r1 r2 r3 l w' := by
  have lt : ∀ {k : Nat} {o : Obj}, w.heap[k]? = some o → k < w.heap.size := fun hk => (Array.getElem?_eq_some_iff.1 hk).1
  exact ⟨(hb.block _ (lt h.b0)).trans h.b0, (hb.block _ (lt h.b1)).trans h.b1, (hb.block _ (lt h.b2)).trans h.b2, (hb.block _ (lt h.b3)).trans h.b3, (hb.block _ (lt h.b4)).trans h.b4, h.bd.below hb⟩
theorem DB.drew {z : Nat} {at_ : Int} {t : List UInt8} {st q : Bool} {r1 : List UInt8} {r2 : Int} {r3 : Bool} {l : List UInt8} {w : World} (h : DB z at_ t st q r1 r2 r3 l w) : DB z at_ t st q r1 r2 r3 l w.drew := ⟨h.b0, h.b1, h.b2, h.b3, h.b4, h.bd⟩
/-- Behind a method of the builder. -/
theorem DB.kept {z : Nat} {at_ : Int} {t : List UInt8} {st q : Bool} {r1 : List UInt8} {r2 : Int} {r3 : Bool} {l l' : List UInt8} {w w' : World} (h : DB z at_ t st q r1 r2 r3 l w) (hk : Bkept (z + 1 + 1 + 1 + 1 + 1) w w') (hb : Bld (z + 1 + 1 + 1 + 1 + 1) l' w') : DB z at_ t st q r1 r2 r3 l' w' :=
  ⟨(hk.below.block _ (by omega)).trans h.b0, (hk.below.block _ (by omega)).trans h.b1, (hk.below.block _ (by omega)).trans h.b2, (hk.below.block _ (by omega)).trans h.b3, (hk.below.block _ (by omega)).trans h.b4, hb⟩
theorem DB.cells {z : Nat} {at_ : Int} {t : List UInt8} {st q : Bool} {r1 : List UInt8} {r2 : Int} {r3 : Bool} {l : List UInt8} {w : World} (h : DB z at_ t st q r1 r2 r3 l w) :
    w.cell? ⟨z, 0, none⟩ = some (.int .i64 at_) ∧ w.cell? ⟨z + 1, 0, none⟩ = some (.string ⟨t.toArray⟩) ∧ w.cell? ⟨z + 1, 1, none⟩ = some (.bool st) ∧ w.cell? ⟨z + 1 + 1, 0, none⟩ = some (.string ⟨r1.toArray⟩) ∧ w.cell? ⟨z + 1 + 1 + 1, 0, none⟩ = some (.int .i64 r2) ∧ w.cell? ⟨z + 1 + 1 + 1 + 1, 0, none⟩ = some (.bool r3) :=
  ⟨Lib.cell_of_heap h.b0 0, Lib.cell_of_heap h.b1 0, Lib.cell_of_heap h.b1 1, Lib.cell_of_heap h.b2 0, Lib.cell_of_heap h.b3 0, Lib.cell_of_heap h.b4 0⟩
theorem DB.thaw {z : Nat} {at_ : Int} {t : List UInt8} {st q : Bool} {r1 : List UInt8} {r2 : Int} {r3 : Bool} {l : List UInt8} {w : World} (h : DB z at_ t st q r1 r2 r3 l w) :
    w.frozen? ⟨z, 0, none⟩ = false ∧ w.frozen? ⟨z + 1 + 1, 0, none⟩ = false ∧ w.frozen? ⟨z + 1 + 1 + 1, 0, none⟩ = false ∧ w.frozen? ⟨z + 1 + 1 + 1 + 1, 0, none⟩ = false :=
  ⟨Lib.frozen_of_heap h.b0 0, Lib.frozen_of_heap h.b2 0, Lib.frozen_of_heap h.b3 0, Lib.frozen_of_heap h.b4 0⟩
theorem Bld.setCell {b : Nat} {l : List UInt8} {w : World} (h : Bld b l w) {p : Addr} (hp : p.block < b) (v : Value) : Bld b l (w.setCell p v) := by
  have key : ∀ k, b ≤ k → (w.setCell p v).heap[k]? = w.heap[k]? := fun k hk => Below.heap_setCell w p v k (by omega)
  unfold Bld at h ⊢
  have : ∀ {P : Value}, Lib.BuilderAtF 42 5 b b P (Lib.byteCells l) w → Lib.BuilderAtF 42 5 b b P (Lib.byteCells l) (w.setCell p v) := by
    intro P h
    obtain ⟨hB, u, hbk, hown, hne⟩ := h
    refine ⟨hB, u, (key b (Nat.le_refl _)).trans hbk, ⟨hown.1, ?_⟩, hne⟩
    rcases hown.2 with hn | ⟨g, cap, cur, fz, hv, hbg, hg, rest⟩
    · exact .inl hn
    · exact .inr ⟨g, cap, cur, fz, hv, hbg, (key g hbg).trans hg, rest⟩
  rcases h with h | h
  · exact .inl (this h)
  · exact .inr (this h)
theorem DB.setAt {z : Nat} {at_ : Int} {t : List UInt8} {st q : Bool} {r1 : List UInt8} {r2 : Int} {r3 : Bool} {l : List UInt8} {w : World} (h : DB z at_ t st q r1 r2 r3 l w) (x : Int) : DB z x t st q r1 r2 r3 l (w.setCell ⟨z, 0, none⟩ (.int .i64 x)) := by
  have o : ∀ k, k ≠ z → (w.setCell ⟨z, 0, none⟩ (.int .i64 x)).heap[k]? = w.heap[k]? := fun k hk => Below.heap_setCell w _ _ k hk
  refine ⟨?_, (o _ (by omega)).trans h.b1, (o _ (by omega)).trans h.b2, (o _ (by omega)).trans h.b3, (o _ (by omega)).trans h.b4, h.bd.setCell (by dsimp only; omega) _⟩
  have := heap_setCell_same w z 0 _ _ (.int .i64 x) h.b0
  rw [this]; simp
theorem DB.setRes {z : Nat} {at_ : Int} {t : List UInt8} {st q : Bool} {r1 : List UInt8} {r2 : Int} {r3 : Bool} {l : List UInt8} {w : World} (h : DB z at_ t st q r1 r2 r3 l w) (x1 : List UInt8) (x2 : Int) (x3 : Bool) : DB z at_ t st q x1 x2 x3 l (((w.setCell ⟨z + 1 + 1, 0, none⟩ (.string ⟨x1.toArray⟩)).setCell ⟨z + 1 + 1 + 1, 0, none⟩ (.int .i64 x2)).setCell ⟨z + 1 + 1 + 1 + 1, 0, none⟩ (.bool x3)) := by
  have o : ∀ (w : World) (v : Value) (j k : Nat), k ≠ j → (w.setCell ⟨j, 0, none⟩ v).heap[k]? = w.heap[k]? := fun w v j k hk => Below.heap_setCell w _ _ k hk
  have a2 := heap_setCell_same w (z + 1 + 1) 0 _ _ (.string ⟨x1.toArray⟩) h.b2
  have a3 := heap_setCell_same (w.setCell ⟨z + 1 + 1, 0, none⟩ (.string ⟨x1.toArray⟩)) (z + 1 + 1 + 1) 0 _ _ (.int .i64 x2) ((o _ _ _ _ (by omega)).trans h.b3)
  have a4 := heap_setCell_same ((w.setCell ⟨z + 1 + 1, 0, none⟩ (.string ⟨x1.toArray⟩)).setCell ⟨z + 1 + 1 + 1, 0, none⟩ (.int .i64 x2)) (z + 1 + 1 + 1 + 1) 0 _ _ (.bool x3) ((o _ _ _ _ (by omega)).trans ((o _ _ _ _ (by omega)).trans h.b4))
  refine ⟨?_, ?_, ?_, ?_, ?_, ((h.bd.setCell (by dsimp only; omega) _).setCell (by dsimp only; omega) _).setCell (by dsimp only; omega) _⟩
  · exact (o _ _ _ _ (by omega)).trans ((o _ _ _ _ (by omega)).trans ((o _ _ _ _ (by omega)).trans h.b0))
  · exact (o _ _ _ _ (by omega)).trans ((o _ _ _ _ (by omega)).trans ((o _ _ _ _ (by omega)).trans h.b1))
  · rw [(o _ _ _ _ (by omega)).trans ((o _ _ _ _ (by omega)).trans a2)]; simp
  · rw [(o _ _ _ _ (by omega)).trans a3]; simp
  · rw [a4]; simp
theorem al_new (w : World) (o : Obj) : (w.alloc o).heap[w.heap.size]? = some o := heap_alloc_new w o
theorem DB.fresh (w : World) (at_ : Int) (t : List UInt8) (st q : Bool) : DB w.heap.size at_ t st q [] 0 false [] ((((((w.alloc (.cells #[.int .i64 at_] 3)).alloc (.cells #[.string ⟨t.toArray⟩, .bool st, .bool q] 30)).alloc (.cells #[.string ⟨#[]⟩] 9)).alloc (.cells #[.int .i64 0] 3)).alloc (.cells #[.bool false] 4)).alloc (.cells #[.pointer none, .slice none 0 0] 42)) := by
  obtain ⟨w1, h1⟩ : ∃ w1, w1 = w.alloc (.cells #[.int .i64 at_] 3) := ⟨_, rfl⟩
  have e1 := al_new w (.cells #[.int .i64 at_] 3)
  rw [← h1] at e1 ⊢
  have s1 : w1.heap.size = w.heap.size + 1 := by rw [h1]; simp
  obtain ⟨w2, h2⟩ : ∃ w2, w2 = w1.alloc (.cells #[.string ⟨t.toArray⟩, .bool st, .bool q] 30) := ⟨_, rfl⟩
  have e2 := al_new w1 (.cells #[.string ⟨t.toArray⟩, .bool st, .bool q] 30)
  have k2 := balloc w1 (.cells #[.string ⟨t.toArray⟩, .bool st, .bool q] 30)
  rw [← h2] at e2 k2 ⊢
  have s2 : w2.heap.size = w.heap.size + 1 + 1 := by rw [h2]; simp; omega
  obtain ⟨w3, h3⟩ : ∃ w3, w3 = w2.alloc (.cells #[.string ⟨#[]⟩] 9) := ⟨_, rfl⟩
  have e3 := al_new w2 (.cells #[.string ⟨#[]⟩] 9)
  have k3 := balloc w2 (.cells #[.string ⟨#[]⟩] 9)
  rw [← h3] at e3 k3 ⊢
  have s3 : w3.heap.size = w.heap.size + 1 + 1 + 1 := by rw [h3]; simp; omega
  obtain ⟨w4, h4⟩ : ∃ w4, w4 = w3.alloc (.cells #[.int .i64 0] 3) := ⟨_, rfl⟩
  have e4 := al_new w3 (.cells #[.int .i64 0] 3)
  have k4 := balloc w3 (.cells #[.int .i64 0] 3)
  rw [← h4] at e4 k4 ⊢
  have s4 : w4.heap.size = w.heap.size + 1 + 1 + 1 + 1 := by rw [h4]; simp; omega
  obtain ⟨w5, h5⟩ : ∃ w5, w5 = w4.alloc (.cells #[.bool false] 4) := ⟨_, rfl⟩
  have e5 := al_new w4 (.cells #[.bool false] 4)
  have k5 := balloc w4 (.cells #[.bool false] 4)
  rw [← h5] at e5 k5 ⊢
  have s5 : w5.heap.size = w.heap.size + 1 + 1 + 1 + 1 + 1 := by rw [h5]; simp; omega
  have k6 := balloc w5 (.cells #[.pointer none, .slice none 0 0] 42)
  have e6 := Bld.fresh w5
  rw [s5] at e6
  rw [s1] at e2
  rw [s2] at e3
  rw [s3] at e4
  rw [s4] at e5
  exact ⟨(k6.block _ (by omega)).trans ((k5.block _ (by omega)).trans ((k4.block _ (by omega)).trans ((k3.block _ (by omega)).trans ((k2.block _ (by omega)).trans e1)))),
    (k6.block _ (by omega)).trans ((k5.block _ (by omega)).trans ((k4.block _ (by omega)).trans ((k3.block _ (by omega)).trans e2))),
    (k6.block _ (by omega)).trans ((k5.block _ (by omega)).trans ((k4.block _ (by omega)).trans e3)),
    (k6.block _ (by omega)).trans ((k5.block _ (by omega)).trans e4), (k6.block _ (by omega)).trans e5, e6⟩
/-- What document returns. -/
def DPost (w : World) (at_ : Nat) (o : Option (List UInt8 × Nat)) (e : Ending) (w' : World) : Prop :=
  e = .returned (.tuple (match o with | some (a, n) => #[.string ⟨a.toArray⟩, .int .i64 ((at_ : Int) + (n : Int)), .bool true] | none => #[.string ⟨#[]⟩, .int .i64 0, .bool false])) ∧ Below w.heap.size w w'
set_option maxRecDepth 100000 in
set_option maxHeartbeats 4000000 in
theorem document_any (s : List UInt8) (at_ : Nat) (t : List UInt8) (st q : Bool) (w : World) (hl : s.length ≤ 10000) (ha : at_ ≤ s.length) :
    Calls Tryd.prog 22 #[.string ⟨s.toArray⟩, .int .i64 at_, .agg #[.string ⟨t.toArray⟩, .bool st, .bool q]] w (DPost w at_ (P.docP st t (P.lns (s.drop at_)))) := by
  refine (callsIn_wide (n := 3)).1 ?_
  refine callsIn_of_wp_marks Tryd.func22 rfl trivial ?_ rfl
  simp only [Tryd.ntmps22, List.size_toArray, List.length_cons, List.length_nil, Nat.reduceAdd, Nat.reduceSub, Array.replicate_succ, Array.replicate_zero, List.push_toArray, List.append_toArray, List.nil_append, List.cons_append]
  have HLN := Lib.hid (fun w => lines_any s at_ w)
  gi_wp2_with (first | (gi_at_call 14; refine (callsIn_wide.2 (HLN.out _)).mono ?_; rintro e w' ⟨rfl, rfl⟩) | (refine ⟨trivial, ?_⟩; gi_at_call 14; refine (callsIn_wide.2 (HLN.out _)).mono ?_; rintro e w' ⟨rfl, rfl⟩))
  obtain ⟨x, hx⟩ : ∃ x, x = ((((((w.alloc (.cells #[.int .i64 at_] 3)).alloc (.cells #[.string ⟨t.toArray⟩, .bool st, .bool q] 30)).alloc (.cells #[.string ⟨#[]⟩] 9)).alloc (.cells #[.int .i64 0] 3)).alloc (.cells #[.bool false] 4)).alloc (.cells #[.pointer none, .slice none 0 0] 42)) := ⟨_, rfl⟩
  have hdb : DB w.heap.size at_ t st q [] 0 false [] x := by rw [hx]; exact DB.fresh w at_ t st q
  have hxs : x.heap.size = w.heap.size + 1 + 1 + 1 + 1 + 1 + 1 := by rw [hx]; simp
  have hBx : Below w.heap.size w x := by rw [hx]; exact btr (btr (btr (btr (btr (balloc _ _) (balloc _ _)) (balloc _ _)) (balloc _ _)) (balloc _ _)) (balloc _ _)
  rw [← hx]
  obtain ⟨y, hy⟩ : ∃ y, y = (x.alloc (.cells #[.string ⟨s.toArray⟩] 9)).alloc (.cells #[.int .i64 at_] 3) := ⟨_, rfl⟩
  have hys : y.heap.size = w.heap.size + 8 := by rw [hy]; simp; omega
  have d1 : y.cell? ⟨w.heap.size + 1 + 1 + 1 + 1 + 1 + 1, 0, none⟩ = some (.string ⟨s.toArray⟩) := by rw [hy, ← hxs]; exact ((balloc _ _).cell (p := ⟨x.heap.size, 0, none⟩) (by simp)).trans (by simp)
  have d2 : y.cell? ⟨w.heap.size + 1 + 1 + 1 + 1 + 1 + 1 + 1, 0, none⟩ = some (.int .i64 at_) := by rw [hy, ← hxs, show x.heap.size + 1 = (x.alloc (.cells #[.string ⟨s.toArray⟩] 9)).heap.size by simp]; simp
  have hBy : Below w.heap.size w y := by rw [hy]; exact btr (btr hBx (balloc _ _)) (balloc _ _)
  have hD2 : DB w.heap.size at_ t st q [] 0 false [] y := by rw [hy]; exact (hdb.later (balloc _ _)).later (balloc _ _)
  rw [← hy]
  clear hx hy hxs hdb hBx
  have hOwn : Own (fun (pre : List SS) W => (∀ l ∈ vals pre, P.chomp (P.proc st l) ≠ t) ∧ DB w.heap.size ((at_ : Int) + (P.tot (vals pre) : Int)) t st q [] 0 false (P.acc st (vals pre)) W) := fun s A B row hs hg hr => ⟨hs.1, hs.2.grown hg hr⟩
  have hOwnX : ∀ c : Code, Own (fun (pre : List SS) W => c = .ret ∧ ∃ (p : List SS) (x : SS), pre = p ++ [x] ∧ (∀ l ∈ vals p, P.chomp (P.proc st l) ≠ t) ∧ P.chomp (P.proc st x.1) = t ∧ DB w.heap.size ((at_ : Int) + (P.tot (vals pre) : Int)) t st q (P.acc st (vals p)) ((at_ : Int) + (P.tot (vals pre) : Int)) true (P.acc st (vals p)) W) := fun c s A B row hs hg hr => by
    obtain ⟨h1, p, x, h2, h3, h4, h5⟩ := hs
    exact ⟨h1, p, x, h2, h3, h4, h5.grown hg hr⟩
  refine wpIn_rangeFunc_ownF rfl (by omega) (gf := 24) (lb := #[.pointer (some ⟨w.heap.size + 1 + 1 + 1 + 1 + 1 + 1, 0, none⟩), .pointer (some ⟨w.heap.size + 1 + 1 + 1 + 1 + 1 + 1 + 1, 0, none⟩)]) rfl trivial (enters_of Tryd.func24 (by kernel_rfl) rfl)
    (lines_stops _ (by omega) (w.heap.size + 1 + 1 + 1 + 1 + 1 + 1) (w.heap.size + 1 + 1 + 1 + 1 + 1 + 1 + 1) w.heap.size s at_ ha hl y (by omega) (by omega) d1 d2) belowK_t (belowK_b (by omega)) (Below.refl _ _) (fun _ => rfl)
    (fun pre W => ((∀ l ∈ vals pre, P.chomp (P.proc st l) ≠ t) ∧ DB w.heap.size ((at_ : Int) + (P.tot (vals pre) : Int)) t st q [] 0 false (P.acc st (vals pre)) W) ∧ Below w.heap.size w W)
    (fun c pre W => (c = .ret ∧ ∃ (p : List SS) (x : SS), pre = p ++ [x] ∧ (∀ l ∈ vals p, P.chomp (P.proc st l) ≠ t) ∧ P.chomp (P.proc st x.1) = t ∧ DB w.heap.size ((at_ : Int) + (P.tot (vals pre) : Int)) t st q (P.acc st (vals p)) ((at_ : Int) + (P.tot (vals pre) : Int)) true (P.acc st (vals p)) W) ∧ Below w.heap.size w W)
    (OwnFrom.and (hOwn.from _) (ownFrom_below (Nat.le_refl _) (by omega)))
    (fun c => OwnFrom.and ((hOwnX c).from _) (ownFrom_below (Nat.le_refl _) (by omega)))
    ⟨⟨by simp [vals], by simpa [vals, P.tot, P.acc] using hD2⟩, hBy⟩
    (fun x => { tmps := #[.string ⟨s.toArray⟩, .int .i64 at_, .agg #[.string ⟨t.toArray⟩, .bool st, .bool q], undef, .pointer (some ⟨w.heap.size, 0, none⟩), .pointer (some ⟨w.heap.size + 1, 0, none⟩), .pointer (some ⟨w.heap.size + 1 + 1, 0, none⟩), .pointer (some ⟨w.heap.size + 1 + 1 + 1, 0, none⟩), .pointer (some ⟨w.heap.size + 1 + 1 + 1 + 1, 0, none⟩), .pointer (some ⟨w.heap.size + 1 + 1 + 1 + 1 + 1, 0, none⟩), .string ⟨x.1.toArray⟩, .string ⟨s.toArray⟩, .int .i64 at_, .func (.func 24) #[] #[.pointer (some ⟨w.heap.size + 1 + 1 + 1 + 1 + 1 + 1, 0, none⟩), .pointer (some ⟨w.heap.size + 1 + 1 + 1 + 1 + 1 + 1 + 1, 0, none⟩)], .string ⟨x.1.toArray⟩, undef, undef, undef, undef, undef, undef, undef, undef, undef, undef, undef, undef, undef, undef, undef, undef, undef], defers := [] }) ?assign ?body ?done ?stop
  case assign =>
    intro l x W K hK
    gi_wp2
    exact hK
  case body =>
    rintro l pre x W ⟨⟨hno, hdb⟩, hB⟩ hpl
    have hmx : Tryd.prog.follows .mixedOrders = true := by kernel_rfl
    have htot := P.acc_len st (vals pre)
    have hv := vals_len pre
    have hxl := x.2
    have HTOT := Lib.hid (show P.tot (vals pre) ≤ 200000000 by unfold P.tot; omega)
    obtain ⟨X, hX⟩ : ∃ X, X = x.1 := ⟨_, rfl⟩
    obtain ⟨A, hA⟩ : ∃ A : Int, A = (at_ : Int) + (P.tot (vals pre) : Int) := ⟨_, rfl⟩
    have HX := Lib.hid hX
    have HA := Lib.hid hA
    rw [← hA] at hdb
    rw [← hX] at hxl ⊢
    have a1 : 0 ≤ A := by omega
    have a2 : A ≤ 300000000 := by have := HTOT.out; omega
    obtain ⟨AC, hAC⟩ : ∃ AC, AC = P.acc st (vals pre) := ⟨_, rfl⟩
    have HAC := Lib.hid hAC
    have HACL := Lib.hid (show AC.length ≤ 200000000 by rw [hAC]; have := HTOT.out; omega)
    rw [← hAC] at hdb
    have HPR := Lib.hid (P.proc_len st X)
    obtain ⟨PR, hPR⟩ : ∃ PR, PR = P.proc st X := ⟨_, rfl⟩
    rw [← hPR] at HPR
    have HPP := Lib.hid hPR
    have HTS := Lib.hid (fun w => TrimSuffix_nl PR w (by have := HPR.out; omega))
    obtain ⟨c0, c1, c2, c3, c4, c5⟩ := hdb.cells
    obtain ⟨f0, f2, f3, f4⟩ := hdb.thaw
    obtain ⟨W1, hW1⟩ : ∃ W1, W1 = W.setCell ⟨w.heap.size, 0, none⟩ (.int .i64 (A + (X.length : Int))) := ⟨_, rfl⟩
    have HW1 := Lib.hid hW1
    have HD1 := Lib.hid (show DB w.heap.size (A + (X.length : Int)) t st q [] 0 false AC W1 by rw [hW1]; exact hdb.setAt _)
    have HB1 := Lib.hid (show Below w.heap.size w W1 by rw [hW1]; exact hB.setCell (by simp) _)
    have HKO := Lib.hid (show KeepsOthers W W1 by rw [hW1]; exact KeepsOthers.setCell _ _ _)
    have HKB := Lib.hid (show Below w.heap.size W W1 by rw [hW1]; exact (Below.refl _ W).setCell (by simp) _)
    obtain ⟨e0, e1, e2, e3, e4, e5⟩ := HD1.out.cells
    have HTA := Lib.hid (show A + (X.length : Int) = (at_ : Int) + (P.tot (vals (pre ++ [x])) : Int) by rw [vals_snoc, P.tot_snoc, hA, hX]; omega)
    have HNO := Lib.hid hno
    have HTL := Lib.hid (TrimLeft_tab X W1)
    clear hX hA hAC hPR hW1 hdb hB htot hv hno hpl
    have HWS := Lib.hid (WriteString_k (w.heap.size + 1 + 1 + 1 + 1 + 1) AC PR W1.drew HD1.out.drew.bd (by have := HACL.out; omega) (by have := HPR.out; omega))
    have HSB := Lib.hid (fun V (hV : DB w.heap.size (A + (X.length : Int)) t st q [] 0 false AC V) => (String_k (w.heap.size + 1 + 1 + 1 + 1 + 1) AC V hV.bd).mono fun (e : Ending) (w' : World) h => (show e = .returned (.string ⟨AC.toArray⟩) ∧ DB w.heap.size (A + (X.length : Int)) t st q [] 0 false AC w' ∧ Bkept (w.heap.size + 1 + 1 + 1 + 1 + 1) V w' from ⟨h.1, hV.kept h.2.2 h.2.1, h.2.2⟩))
    rcases (show st = false ∨ st = true by cases st <;> simp) with hst | hst
    · have HEQ := Lib.hid (show PR = X by rw [HPP.out, hst]; rfl)
      have HPQ := Lib.hid (show P.proc st X = PR from HPP.out.symm)
      obtain rfl : PR = X := HEQ.out
      rw [hst] at c2 e2
      clear hst HPP
      gi_wp2
      rw [← HW1.out]
      apply merge
      case h =>
        intro hrest
        gi_region_with_o (first | (refine ⟨trivial, ?_⟩; gi_at_call 18; refine (CallsIn.inRound l (callsIn_wide.2 (HTS.out _))).mono ?_; rintro e w' ⟨rfl, rfl⟩))
        all_goals exact hrest.out
      case g =>
        cases hct : (P.chomp PR == t) with
        | false =>
          have HNE := Lib.hid (show P.chomp PR ≠ t by simpa using hct)
          clear hct
          gi_wp2_with (first | (refine ⟨trivial, ?_⟩; gi_at_call 15; refine (CallsIn.inRound l (callsIn_wide.2 HWS.out)).mono ?_; rintro e w' ⟨rfl, hb', hk'⟩))
          refine ⟨HKO.out.trans ((KeepsOthers.drew _).trans (kept_others hk' HD1.out.drew.bd.isCells)), HKB.out.trans (((Below.refl _ _).drew).trans (hk'.below.mono (by omega))), ⟨?_, ?_⟩, HB1.out.trans (((Below.refl _ _).drew).trans (hk'.below.mono (by omega)))⟩
          · intro y hy
            rw [vals_snoc] at hy
            rcases List.mem_append.1 hy with hy | hy
            · exact HNO.out y hy
            · simp at hy
              rw [hy, ← HX.out, HPQ.out]
              exact HNE.out
          · have := HD1.out.drew.kept hk' hb'
            rw [← HTA.out, vals_snoc, P.acc_snoc, ← HAC.out, ← HX.out, HPQ.out]
            exact this
        | true =>
          have HYE := Lib.hid (show P.chomp PR = t by simpa using hct)
          clear hct
          gi_wp2
          gi_region_with_o (first | (refine ⟨trivial, ?_⟩; gi_at_call 17; refine (CallsIn.inRound l (callsIn_wide.2 (HSB.out _ HD1.out.drew.drew))).mono ?_; rintro e w' ⟨rfl, hd', hk'⟩; obtain ⟨g0, g1, g2, g3, g4, g5⟩ := hd'.cells; obtain ⟨i0, i2, i3, i4⟩ := hd'.thaw))
          all_goals gi_wp2
          all_goals
            refine ⟨HKO.out.trans ((KeepsOthers.drew _).trans ((KeepsOthers.drew _).trans ((kept_others hk' HD1.out.drew.drew.bd.isCells).trans (((KeepsOthers.setCell _ _ _).trans (KeepsOthers.setCell _ _ _)).trans (KeepsOthers.setCell _ _ _))))), ⟨rfl, pre, x, rfl, HNO.out, ?_, ?_⟩, ?_⟩
            · rw [← HX.out, HPQ.out]; exact HYE.out
            · rw [← HTA.out, ← HAC.out]
              exact hd'.setRes AC _ true
            · exact HB1.out.trans (((Below.refl _ _).drew.drew).trans ((((hk'.below.mono (by omega)).setCell (by dsimp only; omega) _).setCell (by dsimp only; omega) _).setCell (by dsimp only; omega) _))
    · have HEQ := Lib.hid (show P.notab X = PR by rw [HPP.out, hst]; rfl)
      have HPQ := Lib.hid (show P.proc st X = PR from HPP.out.symm)
      rw [HEQ.out] at HTL
      rw [hst] at c2 e2
      clear hst HPP
      gi_wp2_with (first | (refine ⟨trivial, ?_⟩; gi_at_call 16; rw [← HW1.out]; refine (CallsIn.inRound l (callsIn_wide.2 HTL.out)).mono ?_; rintro e w' ⟨rfl, rfl⟩))
      apply merge
      case h =>
        intro hrest
        gi_region_with_o (first | (refine ⟨trivial, ?_⟩; gi_at_call 18; refine (CallsIn.inRound l (callsIn_wide.2 (HTS.out _))).mono ?_; rintro e w' ⟨rfl, rfl⟩))
        all_goals exact hrest.out
      case g =>
        cases hct : (P.chomp PR == t) with
        | false =>
          have HNE := Lib.hid (show P.chomp PR ≠ t by simpa using hct)
          clear hct
          gi_wp2_with (first | (refine ⟨trivial, ?_⟩; gi_at_call 15; refine (CallsIn.inRound l (callsIn_wide.2 HWS.out)).mono ?_; rintro e w' ⟨rfl, hb', hk'⟩))
          refine ⟨HKO.out.trans ((KeepsOthers.drew _).trans (kept_others hk' HD1.out.drew.bd.isCells)), HKB.out.trans (((Below.refl _ _).drew).trans (hk'.below.mono (by omega))), ⟨?_, ?_⟩, HB1.out.trans (((Below.refl _ _).drew).trans (hk'.below.mono (by omega)))⟩
          · intro y hy
            rw [vals_snoc] at hy
            rcases List.mem_append.1 hy with hy | hy
            · exact HNO.out y hy
            · simp at hy
              rw [hy, ← HX.out, HPQ.out]
              exact HNE.out
          · have := HD1.out.drew.kept hk' hb'
            rw [← HTA.out, vals_snoc, P.acc_snoc, ← HAC.out, ← HX.out, HPQ.out]
            exact this
        | true =>
          have HYE := Lib.hid (show P.chomp PR = t by simpa using hct)
          clear hct
          gi_wp2
          gi_region_with_o (first | (refine ⟨trivial, ?_⟩; gi_at_call 17; refine (CallsIn.inRound l (callsIn_wide.2 (HSB.out _ HD1.out.drew.drew))).mono ?_; rintro e w' ⟨rfl, hd', hk'⟩; obtain ⟨g0, g1, g2, g3, g4, g5⟩ := hd'.cells; obtain ⟨i0, i2, i3, i4⟩ := hd'.thaw))
          all_goals gi_wp2
          all_goals
            refine ⟨HKO.out.trans ((KeepsOthers.drew _).trans ((KeepsOthers.drew _).trans ((kept_others hk' HD1.out.drew.drew.bd.isCells).trans (((KeepsOthers.setCell _ _ _).trans (KeepsOthers.setCell _ _ _)).trans (KeepsOthers.setCell _ _ _))))), ⟨rfl, pre, x, rfl, HNO.out, ?_, ?_⟩, ?_⟩
            · rw [← HX.out, HPQ.out]; exact HYE.out
            · rw [← HTA.out, ← HAC.out]
              exact hd'.setRes AC _ true
            · exact HB1.out.trans (((Below.refl _ _).drew.drew).trans ((((hk'.below.mono (by omega)).setCell (by dsimp only; omega) _).setCell (by dsimp only; omega) _).setCell (by dsimp only; omega) _))
  case done =>
    rintro D ys W hD hys' ⟨⟨hno, hdb⟩, hB⟩ hK
    have HD := Lib.hid hdb
    obtain ⟨c0, c1, c2, c3, c4, c5⟩ := hdb.cells
    obtain ⟨f0, f2, f3, f4⟩ := hdb.thaw
    have HF := Lib.hid (show P.docP st t (P.lns (s.drop at_)) = none by rw [← hys']; exact P.docP_none hno)
    clear hys' hno hdb
    gi_wp2
    have hK' := (((KeepsOthers.setCell W ⟨w.heap.size + 1 + 1, 0, none⟩ (.string ⟨#[]⟩)).trans (KeepsOthers.setCell _ ⟨w.heap.size + 1 + 1 + 1, 0, none⟩ (.int .i64 0))).trans (KeepsOthers.setCell _ ⟨w.heap.size + 1 + 1 + 1 + 1, 0, none⟩ (.bool false))).same D _ hK rfl
    refine ⟨by simp, .inl ⟨_, _, rfl, run_takeDeferred hK', ?_⟩⟩
    have hd2 := (HD.out.setRes [] 0 false).grown (grownBy_putObj' _ D (.deferred none)) (fun r e => by cases e; exact ⟨_, hK', rfl⟩)
    obtain ⟨-, -, -, g3, g4, g5⟩ := hd2.cells
    refine ⟨.tuple #[.string ⟨#[]⟩, .int .i64 0, .bool false], ?_, ?_, ?_⟩
    · simp [results, Tryd.f22, go_sem, g3, g4, g5]
    · rw [HF.out]
    · exact ((((hB.setCell (by dsimp only; omega) _).setCell (by dsimp only; omega) _).setCell (by dsimp only; omega) _)).trans (belowK_b (w := w) (Nat.le_refl _) _ D _ _ (by omega) hK' rfl rfl)
  case stop =>
    rintro D c pre W hD hpre ⟨⟨rfl, p, x, hpx, hno, hyes, hdb⟩, hB⟩ hK
    have HF := Lib.hid (show P.docP st t (P.lns (s.drop at_)) = some (P.acc st (vals p), P.tot (vals pre)) by
      obtain ⟨r, hr⟩ := hpre
      rw [← hr, hpx, vals_snoc, List.append_assoc]
      exact P.docP_hit hno hyes)
    generalize P.docP st t (P.lns (s.drop at_)) = R at HF ⊢
    clear hpre hno hyes hpx
    gi_wp2
    refine ⟨by simp, .inl ⟨_, _, rfl, run_takeDeferred hK, ?_⟩⟩
    have hd2 := hdb.grown (grownBy_putObj' _ D (.deferred none)) (fun r e => by cases e; exact ⟨_, hK, rfl⟩)
    obtain ⟨-, -, -, g3, g4, g5⟩ := hd2.cells
    refine ⟨.tuple #[.string ⟨(P.acc st (vals p)).toArray⟩, .int .i64 ((at_ : Int) + (P.tot (vals pre) : Int)), .bool true], ?_, ?_, ?_⟩
    · simp [results, Tryd.f22, go_sem, g3, g4, g5]
    · rw [HF.out]
    · exact hB.trans (belowK_b (w := w) (Nat.le_refl _) _ D _ _ (by omega) hK rfl rfl)
end W
end Go.Proofs.YtggjhkmokgliaaaDoor
