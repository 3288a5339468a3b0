/- Chapter 12: several texts in one: W12g W12h W12i. -/
import Derived.Test.YtlhijlmbfjlglaaYD
import Derived.Test.YtlhijlmbfjlglaaYC
import Derived.Deep.DeepCutAuto
namespace Go.Proofs.Ytlhijlmbfjlglaa
open Go.RowKit K
open WP (GP gp gpL)
namespace W
/-- Parts in memory, in blocks of which F speaks. -/
def PS (w : World) (F : Nat → Prop) (A : Option Addr) (ps : List WP.Part) : Prop :=
  ps = [] ∨ ∃ b cells, A = some ⟨b, 0, none⟩ ∧ F b ∧ LRep w F ps cells ∧ ∀ j u, cells[j]? = some u → w.cell? ⟨b, j, none⟩ = some u
theorem PS.mono {w w' : World} {F F' : Nat → Prop} {A : Option Addr} {ps : List WP.Part} (hF : ∀ b, F b → b < w.heap.size → F' b ∧ w'.heap[b]? = w.heap[b]?) (h : PS w F A ps) : PS w' F' A ps := by
  rcases h with h | ⟨b, cells, h1, h2, h3, h4⟩
  · exact .inl h
  · by_cases hps : ps = []
    · exact .inl hps
    have hlen := h3.len
    have hpos : 0 < cells.length := by rw [hlen]; have := List.length_pos_iff.2 hps; omega
    obtain ⟨u, hu⟩ : ∃ u, cells[0]? = some u := ⟨cells[0], by simp [hpos]⟩
    obtain ⟨h5, h6⟩ := hF b h2 (lt_cell (h4 0 u hu))
    refine .inr ⟨b, cells, h1, h5, LRep.mono hF ps cells h3, fun j u hj => ?_⟩
    have h7 := h4 j u hj
    unfold World.cell? at h7 ⊢
    rw [h6]
    exact h7
theorem PS.gs {w : World} {F : Nat → Prop} {A : Option Addr} {ps : List WP.Part} (cap : Nat) (h : PS w F A ps) : GS w (fun b => b < w.heap.size) (.slice A ps.length cap) (gpL ps) :=
  (GS.of_rep (cap := cap) h).mono fun _ _ h2 => ⟨h2, rfl⟩
/-- A row of items: each is some plain cells and a slice of parts. -/
def IRep (w : World) (F : Nat → Prop) : List (List Value × List WP.Part) → List Value → Prop
  | [], vs => vs = []
  | p :: r, vs => ∃ A cap rest, vs = p.1 ++ .slice A p.2.length cap :: rest ∧ PS w F A p.2 ∧ IRep w F r rest
theorem IRep.mono {w w' : World} {F F' : Nat → Prop} (hF : ∀ b, F b → b < w.heap.size → F' b ∧ w'.heap[b]? = w.heap[b]?) : ∀ {l : List (List Value × List WP.Part)} {vs : List Value}, IRep w F l vs → IRep w' F' l vs
  | [], _, h => h
  | _ :: _, _, h => by
    obtain ⟨A, cap, rest, h1, h2, h3⟩ := h
    exact ⟨A, cap, rest, h1, h2.mono hF, IRep.mono hF h3⟩
theorem IRep.snoc {w : World} {F : Nat → Prop} {h : List Value} {ps : List WP.Part} {A : Option Addr} {cap n : Nat} (hn : n = ps.length) (hp : PS w F A ps) : ∀ {l : List (List Value × List WP.Part)} {vs : List Value}, IRep w F l vs → IRep w F (l ++ [(h, ps)]) (vs ++ (h ++ [.slice A n cap]))
  | [], vs, h0 => by
    rw [IRep] at h0
    subst h0 hn
    exact ⟨A, cap, [], rfl, hp, rfl⟩
  | p :: r, vs, h0 => by
    rw [IRep] at h0
    obtain ⟨A', cap', rest, rfl, h2, h3⟩ := h0
    exact ⟨A', cap', rest ++ (h ++ [.slice A n cap]), by simp, h2, IRep.snoc hn hp h3⟩
/-- The cells of the item i. -/
theorem IRep.at_ {w : World} {F : Nat → Prop} {k : Nat} : ∀ {l : List (List Value × List WP.Part)} {vs : List Value} {i : Nat} {p : List Value × List WP.Part}, (∀ q ∈ l, q.1.length = k) → IRep w F l vs → l[i]? = some p →
    ∃ A cap, (∀ j u, p.1[j]? = some u → vs[i * (k + 1) + j]? = some u) ∧ vs[i * (k + 1) + k]? = some (.slice A p.2.length cap) ∧ PS w F A p.2
  | [], _, i, _, _, _, h => by simp at h
  | p :: r, vs, 0, q, hk, h, hi => by
    rw [IRep] at h
    obtain ⟨A, cap, rest, rfl, h2, h3⟩ := h
    simp only [List.getElem?_cons_zero, Option.some.injEq] at hi
    subst hi
    have hpk := hk p (List.mem_cons_self ..)
    refine ⟨A, cap, fun j u hj => ?_, ?_, h2⟩
    · rw [Nat.zero_mul, Nat.zero_add, List.getElem?_append_left (List.getElem?_eq_some_iff.1 hj).1]
      exact hj
    · rw [Nat.zero_mul, Nat.zero_add, ← hpk, List.getElem?_append_right (Nat.le_refl _), Nat.sub_self]
      rfl
  | p :: r, vs, i + 1, q, hk, h, hi => by
    rw [IRep] at h
    obtain ⟨A, cap, rest, rfl, h2, h3⟩ := h
    have hpk := hk p (List.mem_cons_self ..)
    obtain ⟨A', cap', h4, h5, h6⟩ := IRep.at_ (k := k) (fun q hq => hk q (List.mem_cons_of_mem _ hq)) h3 (show r[i]? = some q from hi)
    have hsh : ∀ m, (p.1 ++ Value.slice A p.2.length cap :: rest)[(i + 1) * (k + 1) + m]? = rest[i * (k + 1) + m]? := fun m => by
      rw [Nat.add_mul, Nat.one_mul, List.getElem?_append_right (by omega), show i * (k + 1) + (k + 1) + m - p.1.length = (i * (k + 1) + m) + 1 by omega]
      rfl
    exact ⟨A', cap', fun j u hj => (hsh j).trans (h4 j u hj), (hsh k).trans h5, h6⟩
def asIt (a : SC.As) : List Value × List WP.Part := ([.int .i64 a.pos, .string ⟨a.name.toArray⟩, .int .i64 a.vpos], a.parts)
def wdIt (a : SC.Wd) : List Value × List WP.Part := ([.int .i64 a.pos], a.parts)
def rdIt (a : SC.Rd) : List Value × List WP.Part := ([.int .i64 a.pos, .int .i64 a.fd, .int .i64 a.op, .int .i64 a.wpos], a.parts)
def dlC (d : SC.Dl) : List Value := [.string ⟨d.text.toArray⟩, .bool d.strip, .bool d.quoted]
/-- The node's box. -/
def NB (W : World) (g : Nat) (pos : Int) (va vw vr : Value) : Prop :=
  W.heap[g]? = some (.cells #[.int .i64 1, .int .i64 pos, .string ⟨#[]⟩, .bool false, va, vw, vr, .slice none 0 0, .slice none 0 0] 32 (0, 0))
/-- The blocks that add may write: the node's box and the rows of its lists. -/
def nown (W : World) (g k : Nat) : Prop := k = g ∨ ∃ i v, (i = 4 ∨ i = 5 ∨ i = 6) ∧ W.cell? ⟨g, i, none⟩ = some v ∧ v.ownBlock = some k
section
variable {W W' : World} {g : Nat} {pos : Int} {va vw vr va' vw' vr' : Value}
theorem NB.lt (h : NB W g pos va vw vr) : g < W.heap.size := (Array.getElem?_eq_some_iff.1 h).1
theorem NB.cells (h : NB W g pos va vw vr) : W.cell? ⟨g, 0, none⟩ = some (.int .i64 1) ∧ W.cell? ⟨g, 1, none⟩ = some (.int .i64 pos) ∧ W.cell? ⟨g, 2, none⟩ = some (.string ⟨#[]⟩) ∧ W.cell? ⟨g, 3, none⟩ = some (.bool false) ∧ W.cell? ⟨g, 4, none⟩ = some va ∧ W.cell? ⟨g, 5, none⟩ = some vw ∧ W.cell? ⟨g, 6, none⟩ = some vr ∧ W.cell? ⟨g, 7, none⟩ = some (.slice none 0 0) ∧ W.cell? ⟨g, 8, none⟩ = some (.slice none 0 0) :=
  ⟨Lib.cell_of_heap h 0, Lib.cell_of_heap h 1, Lib.cell_of_heap h 2, Lib.cell_of_heap h 3, Lib.cell_of_heap h 4, Lib.cell_of_heap h 5, Lib.cell_of_heap h 6, Lib.cell_of_heap h 7, Lib.cell_of_heap h 8⟩
theorem NB.thaw (h : NB W g pos va vw vr) (k : Nat) : W.frozen? ⟨g, k, none⟩ = false := Lib.frozen_of_heap h k
theorem NB.kept (h : NB W g pos va vw vr) (hg : W'.heap[g]? = W.heap[g]?) : NB W' g pos va vw vr := hg.trans h
theorem NB.set1 (h : NB W g pos va vw vr) (p : Int) : NB (W.setCell ⟨g, 1, none⟩ (.int .i64 p)) g p va vw vr := by
  have := heap_setCell_same W g 1 _ _ (.int .i64 p) h
  unfold NB; rw [this]; simp
theorem NB.set4 (h : NB W g pos va vw vr) (v : Value) : NB (W.setCell ⟨g, 4, none⟩ v) g pos v vw vr := by
  have := heap_setCell_same W g 4 _ _ v h
  unfold NB; rw [this]; simp
theorem NB.set5 (h : NB W g pos va vw vr) (v : Value) : NB (W.setCell ⟨g, 5, none⟩ v) g pos va v vr := by
  have := heap_setCell_same W g 5 _ _ v h
  unfold NB; rw [this]; simp
theorem NB.set6 (h : NB W g pos va vw vr) (v : Value) : NB (W.setCell ⟨g, 6, none⟩ v) g pos va vw v := by
  have := heap_setCell_same W g 6 _ _ v h
  unfold NB; rw [this]; simp
theorem nown_iff (h : NB W g pos va vw vr) (k : Nat) : nown W g k ↔ k = g ∨ va.ownBlock = some k ∨ vw.ownBlock = some k ∨ vr.ownBlock = some k := by
  obtain ⟨-, -, -, -, c4, c5, c6, -, -⟩ := h.cells
  unfold nown
  constructor
  · rintro (h | ⟨i, v, hi, hv, ho⟩)
    · exact .inl h
    · rcases hi with rfl | rfl | rfl
      · rw [c4] at hv; injection hv with hv; subst hv; exact .inr (.inl ho)
      · rw [c5] at hv; injection hv with hv; subst hv; exact .inr (.inr (.inl ho))
      · rw [c6] at hv; injection hv with hv; subst hv; exact .inr (.inr (.inr ho))
  · rintro (h | h | h | h)
    · exact .inl h
    · exact .inr ⟨4, va, .inl rfl, c4, h⟩
    · exact .inr ⟨5, vw, .inr (.inl rfl), c5, h⟩
    · exact .inr ⟨6, vr, .inr (.inr rfl), c6, h⟩
end
/-- What leaves all as it was but the node's own blocks. -/
structure NFr (g : Nat) (W W' : World) : Prop where
  below : Below g W W'
  keep : ∀ k, k < W.heap.size → ¬ nown W g k → W'.heap[k]? = W.heap[k]?
  own : ∀ k, k < W.heap.size → nown W' g k → nown W g k
theorem NFr.refl (g : Nat) (W : World) : NFr g W W := ⟨Below.refl _ _, fun _ _ _ => rfl, fun _ _ h => h⟩
theorem NFr.trans {g : Nat} {W W' W'' : World} (h : NFr g W W') (h2 : NFr g W' W'') : NFr g W W'' :=
  ⟨h.below.trans h2.below, fun k hk hn => (h2.keep k (Nat.lt_of_lt_of_le hk h.below.size) (fun e => hn (h.own k hk e))).trans (h.keep k hk hn),
    fun k hk e => h.own k hk (h2.own k (Nat.lt_of_lt_of_le hk h.below.size) e)⟩
theorem nown_same {g : Nat} {W W' : World} (h : W'.heap[g]? = W.heap[g]?) (k : Nat) : nown W' g k ↔ nown W g k := by
  have hc : ∀ i, W'.cell? ⟨g, i, none⟩ = W.cell? ⟨g, i, none⟩ := fun i => World.cell?_of_block (a := ⟨g, i, none⟩) h
  unfold nown
  constructor
  · rintro (h1 | ⟨i, v, hi, hv, ho⟩)
    · exact .inl h1
    · exact .inr ⟨i, v, hi, (hc i).symm.trans hv, ho⟩
  · rintro (h1 | ⟨i, v, hi, hv, ho⟩)
    · exact .inl h1
    · exact .inr ⟨i, v, hi, (hc i).trans hv, ho⟩
theorem NFr.of_below {g : Nat} {W W' : World} (h : Below W.heap.size W W') (hg : g < W.heap.size) : NFr g W W' :=
  ⟨h.mono (by omega), fun k hk _ => h.block k hk, fun k _ e => (nown_same (h.block g hg) k).1 e⟩
/-- The blocks of a command's parts: behind the node's box, none of the node's, nor the row of the delimiters. -/
def pb (W : World) (g : Nat) (dl : Value) (b : Nat) : Prop := g ≤ b ∧ ¬ nown W g b ∧ dl.ownBlock ≠ some b
/-- A command in memory. -/
def NS (W : World) (g : Nat) (dl : Value) (pos : Int) (qs : List SC.As) (ws : List SC.Wd) (rs : List SC.Rd) : Prop :=
  ∃ va vw vr ac wc rc, NB W g pos va vw vr ∧ W.ownsRow (g + 1) 54 4 va qs.length ac ∧ W.ownsRow (g + 1) 39 2 vw ws.length wc ∧ W.ownsRow (g + 1) 41 5 vr rs.length rc ∧
    IRep W (pb W g dl) (qs.map asIt) ac ∧ IRep W (pb W g dl) (ws.map wdIt) wc ∧ IRep W (pb W g dl) (rs.map rdIt) rc
theorem NS.lt {W : World} {g : Nat} {dl : Value} {pos : Int} {qs : List SC.As} {ws : List SC.Wd} {rs : List SC.Rd} (h : NS W g dl pos qs ws rs) : g < W.heap.size := by
  obtain ⟨_, _, _, _, _, _, h1, _⟩ := h
  exact h1.lt
theorem pb_mono {W W' : World} {g : Nat} {dl dl' : Value} (hf : NFr g W W') (hd : ∀ r, dl'.ownBlock = some r → dl.ownBlock = some r ∨ W.heap.size ≤ r) : ∀ b, pb W g dl b → b < W.heap.size → pb W' g dl' b ∧ W'.heap[b]? = W.heap[b]? :=
  fun b hb hl => ⟨⟨hb.1, fun e => hb.2.1 (hf.own b hl e), fun e => by rcases hd b e with h | h; exact hb.2.2 h; omega⟩, hf.keep b hl hb.2.1⟩
theorem NS.below {W W' : World} {g : Nat} {dl : Value} {pos : Int} {qs : List SC.As} {ws : List SC.Wd} {rs : List SC.Rd} (h : NS W g dl pos qs ws rs) (hb : Below W.heap.size W W') : NS W' g dl pos qs ws rs := by
  have hg := h.lt
  obtain ⟨va, vw, vr, ac, wc, rc, h1, h2, h3, h4, h5, h6, h7⟩ := h
  have hm := pb_mono (dl := dl) (dl' := dl) (NFr.of_below hb hg) (fun r hr => .inl hr)
  exact ⟨va, vw, vr, ac, wc, rc, h1.kept (hb.block g hg), row_below h2 hb, row_below h3 hb, row_below h4 hb, h5.mono hm, h6.mono hm, h7.mono hm⟩
/-- Behind an append to one of the rows and its store: all other things are as they were. -/
theorem rows_push {W V w3 : World} {g i : Nat} {T : TypeId} {k n m : Nat} {v v' : Value} {xs ys : List Value} (hg : g < W.heap.size) (hown : W.ownsRow (g + 1) T k v n xs) (hV : Below W.heap.size W V) (hgr : V.grownBy w3 v.ownBlock)
    (hw : v'.ownBlock = v.ownBlock ∨ v'.ownBlock = some V.heap.size) (hn : w3.ownsRow (g + 1) T k v' m ys) :
    (∀ q, q < W.heap.size → q ≠ g → v.ownBlock ≠ some q → (w3.setCell ⟨g, i, none⟩ v').heap[q]? = W.heap[q]?) ∧ Below g W (w3.setCell ⟨g, i, none⟩ v') ∧
    (∀ (T' : TypeId) (k' m' : Nat) (u : Value) (zs : List Value), T' ≠ T → W.ownsRow (g + 1) T' k' u m' zs → (w3.setCell ⟨g, i, none⟩ v').ownsRow (g + 1) T' k' u m' zs) ∧
    (w3.setCell ⟨g, i, none⟩ v').ownsRow (g + 1) T k v' m ys ∧ (∀ r, v'.ownBlock = some r → v.ownBlock = some r ∨ W.heap.size ≤ r) ∧ w3.heap[g]? = W.heap[g]? := by
  have hr : ∀ r, v.ownBlock = some r → g + 1 ≤ r := fun r hr => (hown.lt r hr).1
  have hgg : w3.heap[g]? = W.heap[g]? := (hgr.block g (Nat.lt_of_lt_of_le hg hV.size) (fun e => by have := hr g e.symm; omega)).trans (hV.block g hg)
  refine ⟨fun q h1 h2 h3 => ?_, ?_, fun T' k' m' u zs hne hu => ?_, row_set hn (by simp) _, fun r hr' => ?_, hgg⟩
  · rw [Below.heap_setCell _ _ _ q (by dsimp only; exact h2), hgr.block q (Nat.lt_of_lt_of_le h1 hV.size) (fun e => h3 e.symm)]
    exact hV.block q h1
  · exact ((hV.mono (by omega)).grown hgr (Nat.le_trans (by omega) hV.size) (fun r h => by have := hr r h; omega)).setCell (by simp) _
  · exact row_set (row_grown (row_below hu hV) hgr (fun r h h' => rows_apart hown hu (fun e => hne e.symm) r h h')) (by simp) _
  · rcases hw with h | h
    · exact .inl (h ▸ hr')
    · rw [h] at hr'; injection hr' with hr'; exact .inr (hr' ▸ hV.size)
end W
end Go.Proofs.Ytlhijlmbfjlglaa
namespace Go.Proofs.Ytlhijlmbfjlglaa
open Go.RowKit K
open WP (GP gp gpL)
namespace W
theorem infoAsg : (Try.prog.info? 54).map (fun i => (i.zero, i.size, i.bytes)) = some (some (.agg #[.int .i64 0, .string ⟨#[]⟩, .int .i64 0, .slice none 0 0]), 4, 56) := by kernel_rfl
theorem infoWord : (Try.prog.info? 39).map (fun i => (i.zero, i.size, i.bytes)) = some (some (.agg #[.int .i64 0, .slice none 0 0]), 2, 32) := by kernel_rfl
theorem cells_at4 (w : World) (k : Nat) (hk : k = w.heap.size) (a b c d : Value) (T : TypeId) : ∀ (j : Nat) (u : Value), [a, b, c, d][j]? = some u → ((w.alloc (.cells #[a, b, c, d] T)).drew).cell? ((⟨k, 0, none⟩ : Addr).add j) = some u := by
  subst hk
  intro j u hj
  match j, hj with
  | 0, hj => simp at hj; subst hj; simp [Addr.add]
  | 1, hj => simp at hj; subst hj; simp [Addr.add]
  | 2, hj => simp at hj; subst hj; simp [Addr.add]
  | 3, hj => simp at hj; subst hj; simp [Addr.add]
  | n + 4, hj => simp at hj
theorem cells_at2 (w : World) (k : Nat) (hk : k = w.heap.size) (a b : Value) (T : TypeId) : ∀ (j : Nat) (u : Value), [a, b][j]? = some u → ((w.alloc (.cells #[a, b] T)).drew).cell? ((⟨k, 0, none⟩ : Addr).add j) = some u := by
  subst hk
  intro j u hj
  match j, hj with
  | 0, hj => simp at hj; subst hj; simp [Addr.add]
  | 1, hj => simp at hj; subst hj; simp [Addr.add]
  | n + 2, hj => simp at hj
/-- What add leaves. -/
def AddOut (W : World) (g : Nat) (dl : Value) (pos : Int) (qs : List SC.As) (ws : List SC.Wd) (rs : List SC.Rd) : SC.AddR → Ending → World → Prop
  | .err p x, e, W' => e = .returned (.tuple #[.int .i64 p, .int .i64 x]) ∧ Below W.heap.size W W'
  | .asg a, e, W' => e = .returned (.tuple #[.int .i64 0, .int .i64 0]) ∧ NFr g W W' ∧ NS W' g dl pos (qs ++ [a]) ws rs
  | .word a, e, W' => e = .returned (.tuple #[.int .i64 0, .int .i64 0]) ∧ NFr g W W' ∧ NS W' g dl pos qs (ws ++ [a]) rs
section
variable {W V w3 : World} {g : Nat} {dl : Value} {pos : Int} {qs : List SC.As} {ws : List SC.Wd} {rs : List SC.Rd} {va vw vr v' : Value} {ac wc rc : List Value}
theorem pushA (h1 : NB W g pos va vw vr) (h2 : W.ownsRow (g + 1) 54 4 va qs.length ac) (h3 : W.ownsRow (g + 1) 39 2 vw ws.length wc) (h4 : W.ownsRow (g + 1) 41 5 vr rs.length rc)
    (h5 : IRep W (pb W g dl) (qs.map asIt) ac) (h6 : IRep W (pb W g dl) (ws.map wdIt) wc) (h7 : IRep W (pb W g dl) (rs.map rdIt) rc) (hV : Below W.heap.size W V) (hgr : V.grownBy w3 va.ownBlock)
    (hw : v'.ownBlock = va.ownBlock ∨ v'.ownBlock = some V.heap.size) (a : SC.As) (A : Option Addr) (cap n : Nat) (hnp : n = a.parts.length) (hp : PS W (pb W g dl) A a.parts)
    (hn : w3.ownsRow (g + 1) 54 4 v' (qs.length + 1) (ac ++ [.int .i64 a.pos, .string ⟨a.name.toArray⟩, .int .i64 a.vpos, .slice A n cap])) :
    NFr g W (w3.setCell ⟨g, 4, none⟩ v') ∧ NS (w3.setCell ⟨g, 4, none⟩ v') g dl pos (qs ++ [a]) ws rs := by
  obtain ⟨p1, p2, p3, p4, p5, p6⟩ := rows_push (i := 4) h1.lt h2 hV hgr hw hn
  have hb : NB (w3.setCell ⟨g, 4, none⟩ v') g pos v' vw vr := (h1.kept p6).set4 v'
  have hf : NFr g W (w3.setCell ⟨g, 4, none⟩ v') := ⟨p2, fun k hk ho => by
      rw [nown_iff h1] at ho
      exact p1 k hk (fun e => ho (.inl e)) (fun e => ho (.inr (.inl e))), fun k hk ho => by
      rw [nown_iff h1]
      rw [nown_iff hb] at ho
      rcases ho with h | h | h | h
      · exact .inl h
      · rcases p5 k h with h | h
        · exact .inr (.inl h)
        · omega
      · exact .inr (.inr (.inl h))
      · exact .inr (.inr (.inr h))⟩
  have hm := pb_mono (dl := dl) (dl' := dl) hf (fun r hr => .inl hr)
  refine ⟨hf, v', vw, vr, ac ++ [.int .i64 a.pos, .string ⟨a.name.toArray⟩, .int .i64 a.vpos, .slice A n cap], wc, rc, hb, ?_, p3 _ _ _ _ _ (by decide) h3, p3 _ _ _ _ _ (by decide) h4, ?_, h6.mono hm, h7.mono hm⟩
  · rw [List.length_append, List.length_singleton]; exact p4
  · rw [List.map_append]; exact (h5.mono hm).snoc hnp (hp.mono hm)
theorem pushW (h1 : NB W g pos va vw vr) (h2 : W.ownsRow (g + 1) 54 4 va qs.length ac) (h3 : W.ownsRow (g + 1) 39 2 vw ws.length wc) (h4 : W.ownsRow (g + 1) 41 5 vr rs.length rc)
    (h5 : IRep W (pb W g dl) (qs.map asIt) ac) (h6 : IRep W (pb W g dl) (ws.map wdIt) wc) (h7 : IRep W (pb W g dl) (rs.map rdIt) rc) (hV : Below W.heap.size W V) (hgr : V.grownBy w3 vw.ownBlock)
    (hw : v'.ownBlock = vw.ownBlock ∨ v'.ownBlock = some V.heap.size) (a : SC.Wd) (A : Option Addr) (cap n : Nat) (hnp : n = a.parts.length) (hp : PS W (pb W g dl) A a.parts)
    (hn : w3.ownsRow (g + 1) 39 2 v' (ws.length + 1) (wc ++ [.int .i64 a.pos, .slice A n cap])) :
    NFr g W (w3.setCell ⟨g, 5, none⟩ v') ∧ NS (w3.setCell ⟨g, 5, none⟩ v') g dl pos qs (ws ++ [a]) rs := by
  obtain ⟨p1, p2, p3, p4, p5, p6⟩ := rows_push (i := 5) h1.lt h3 hV hgr hw hn
  have hb : NB (w3.setCell ⟨g, 5, none⟩ v') g pos va v' vr := (h1.kept p6).set5 v'
  have hf : NFr g W (w3.setCell ⟨g, 5, none⟩ v') := ⟨p2, fun k hk ho => by
      rw [nown_iff h1] at ho
      exact p1 k hk (fun e => ho (.inl e)) (fun e => ho (.inr (.inr (.inl e)))), fun k hk ho => by
      rw [nown_iff h1]
      rw [nown_iff hb] at ho
      rcases ho with h | h | h | h
      · exact .inl h
      · exact .inr (.inl h)
      · rcases p5 k h with h | h
        · exact .inr (.inr (.inl h))
        · omega
      · exact .inr (.inr (.inr h))⟩
  have hm := pb_mono (dl := dl) (dl' := dl) hf (fun r hr => .inl hr)
  refine ⟨hf, va, v', vr, ac, wc ++ [.int .i64 a.pos, .slice A n cap], rc, hb, p3 _ _ _ _ _ (by decide) h2, ?_, p3 _ _ _ _ _ (by decide) h4, h5.mono hm, ?_, h7.mono hm⟩
  · rw [List.length_append, List.length_singleton]; exact p4
  · rw [List.map_append]; exact (h6.mono hm).snoc hnp (hp.mono hm)
theorem pushR (h1 : NB W g pos va vw vr) (h2 : W.ownsRow (g + 1) 54 4 va qs.length ac) (h3 : W.ownsRow (g + 1) 39 2 vw ws.length wc) (h4 : W.ownsRow (g + 1) 41 5 vr rs.length rc)
    (h5 : IRep W (pb W g dl) (qs.map asIt) ac) (h6 : IRep W (pb W g dl) (ws.map wdIt) wc) (h7 : IRep W (pb W g dl) (rs.map rdIt) rc) (hV : Below W.heap.size W V) (hgr : V.grownBy w3 vr.ownBlock)
    (hw : v'.ownBlock = vr.ownBlock ∨ v'.ownBlock = some V.heap.size) (a : SC.Rd) (A : Option Addr) (cap n : Nat) (hnp : n = a.parts.length) (hp : PS W (pb W g dl) A a.parts)
    (hn : w3.ownsRow (g + 1) 41 5 v' (rs.length + 1) (rc ++ [.int .i64 a.pos, .int .i64 a.fd, .int .i64 a.op, .int .i64 a.wpos, .slice A n cap])) :
    NFr g W (w3.setCell ⟨g, 6, none⟩ v') ∧ NS (w3.setCell ⟨g, 6, none⟩ v') g dl pos qs ws (rs ++ [a]) := by
  obtain ⟨p1, p2, p3, p4, p5, p6⟩ := rows_push (i := 6) h1.lt h4 hV hgr hw hn
  have hb : NB (w3.setCell ⟨g, 6, none⟩ v') g pos va vw v' := (h1.kept p6).set6 v'
  have hf : NFr g W (w3.setCell ⟨g, 6, none⟩ v') := ⟨p2, fun k hk ho => by
      rw [nown_iff h1] at ho
      exact p1 k hk (fun e => ho (.inl e)) (fun e => ho (.inr (.inr (.inr e)))), fun k hk ho => by
      rw [nown_iff h1]
      rw [nown_iff hb] at ho
      rcases ho with h | h | h | h
      · exact .inl h
      · exact .inr (.inl h)
      · exact .inr (.inr (.inl h))
      · rcases p5 k h with h | h
        · exact .inr (.inr (.inr h))
        · omega⟩
  have hm := pb_mono (dl := dl) (dl' := dl) hf (fun r hr => .inl hr)
  refine ⟨hf, va, vw, v', ac, wc, rc ++ [.int .i64 a.pos, .int .i64 a.fd, .int .i64 a.op, .int .i64 a.wpos, .slice A n cap], hb, p3 _ _ _ _ _ (by decide) h2, p3 _ _ _ _ _ (by decide) h3, ?_, h5.mono hm, h6.mono hm, ?_⟩
  · rw [List.length_append, List.length_singleton]; exact p4
  · rw [List.map_append]; exact (h7.mono hm).snoc hnp (hp.mono hm)
end
end W
end Go.Proofs.Ytlhijlmbfjlglaa
namespace Go.Proofs.Ytlhijlmbfjlglaa
open Go.RowKit K
open WP (GP gp gpL)
namespace W
theorem infoRedir : (Try.prog.info? 41).map (fun i => (i.zero, i.size, i.bytes)) = some (some (.agg #[.int .i64 0, .int .i64 0, .int .i64 0, .int .i64 0, .slice none 0 0]), 5, 56) := by kernel_rfl
theorem infoDelim : (Try.prog.info? 56).map (fun i => (i.zero, i.size, i.bytes)) = some (some (.agg #[.string ⟨#[]⟩, .bool false, .bool false]), 3, 24) := by kernel_rfl
section
variable {W W' V w3 : World} {g : Nat} {dl dl' : Value} {pos : Int} {qs : List SC.As} {ws : List SC.Wd} {rs : List SC.Rd}
theorem NFr.set1 {va vw vr : Value} (h : NB W g pos va vw vr) (p : Int) : NFr g W (W.setCell ⟨g, 1, none⟩ (.int .i64 p)) :=
  ⟨(Below.refl g W).setCell (p := ⟨g, 1, none⟩) (Nat.le_refl g) _, fun k _ ho => Below.heap_setCell _ _ _ k (by dsimp only; exact fun e => ho (.inl e)), fun k _ e => (nown_iff h k).2 ((nown_iff (h.set1 p) k).1 e)⟩
theorem NS.set1 (h : NS W g dl pos qs ws rs) (p : Int) : NS (W.setCell ⟨g, 1, none⟩ (.int .i64 p)) g dl p qs ws rs ∧ NFr g W (W.setCell ⟨g, 1, none⟩ (.int .i64 p)) := by
  obtain ⟨va, vw, vr, ac, wc, rc, h1, h2, h3, h4, h5, h6, h7⟩ := h
  have hf := NFr.set1 h1 p
  have hm := pb_mono (dl := dl) (dl' := dl) hf (fun r hr => .inl hr)
  exact ⟨⟨va, vw, vr, ac, wc, rc, h1.set1 p, row_set h2 (by simp) _, row_set h3 (by simp) _, row_set h4 (by simp) _, h5.mono hm, h6.mono hm, h7.mono hm⟩, hf⟩
/-- The row of the delimiters stays where the node's blocks turn. -/
theorem row_nfr {n : Nat} {xs : List Value} (hf : NFr g W W') (h : NS W g dl pos qs ws rs) (hr : W.ownsRow (g + 1) 56 3 dl' n xs) : W'.ownsRow (g + 1) 56 3 dl' n xs := by
  obtain ⟨va, vw, vr, ac, wc, rc, h1, h2, h3, h4, -⟩ := h
  refine ⟨hr.1, ?_⟩
  rcases hr.2 with e | ⟨q, cap, cur, hv, hb, hgb, rest⟩
  · exact .inl e
  · refine .inr ⟨q, cap, cur, hv, hb, (hf.keep q (Array.getElem?_eq_some_iff.1 hgb).1 fun e => ?_).trans hgb, rest⟩
    have ho : dl'.ownBlock = some q := by rw [hv]; rfl
    rw [nown_iff h1] at e
    rcases e with e | e | e | e
    · omega
    · exact rows_apart h2 hr (by decide) q e ho
    · exact rows_apart h3 hr (by decide) q e ho
    · exact rows_apart h4 hr (by decide) q e ho
theorem NS.push_d {n : Nat} {xs : List Value} (h : NS W g dl pos qs ws rs) (hr : W.ownsRow (g + 1) 56 3 dl n xs) (hV : Below W.heap.size W V) (hgr : V.grownBy w3 dl.ownBlock)
    (hw : dl'.ownBlock = dl.ownBlock ∨ dl'.ownBlock = some V.heap.size) : NS w3 g dl' pos qs ws rs := by
  obtain ⟨va, vw, vr, ac, wc, rc, h1, h2, h3, h4, h5, h6, h7⟩ := h
  have hlo : ∀ r, dl.ownBlock = some r → g + 1 ≤ r := fun r h => (hr.lt r h).1
  have hgg : w3.heap[g]? = W.heap[g]? := (hgr.block g (Nat.lt_of_lt_of_le h1.lt hV.size) (fun e => by have := hlo g e.symm; omega)).trans (hV.block g h1.lt)
  have hm : ∀ b, pb W g dl b → b < W.heap.size → pb w3 g dl' b ∧ w3.heap[b]? = W.heap[b]? := fun b hb hl =>
    ⟨⟨hb.1, fun e => hb.2.1 ((nown_same hgg b).1 e), fun e => by
      rcases hw with h | h
      · exact hb.2.2 (h ▸ e)
      · rw [h] at e; injection e with e; have := hV.size; omega⟩, (hgr.block b (Nat.lt_of_lt_of_le hl hV.size) (fun e => hb.2.2 e.symm)).trans (hV.block b hl)⟩
  exact ⟨va, vw, vr, ac, wc, rc, h1.kept hgg, row_grown (row_below h2 hV) hgr (fun r h h' => rows_apart hr h2 (by decide) r h h'), row_grown (row_below h3 hV) hgr (fun r h h' => rows_apart hr h3 (by decide) r h h'),
    row_grown (row_below h4 hV) hgr (fun r h h' => rows_apart hr h4 (by decide) r h h'), h5.mono hm, h6.mono hm, h7.mono hm⟩
end
/-- The empty node. -/
def zNode : Value := .agg #[.int .i64 0, .int .i64 0, .string ⟨#[]⟩, .bool false, .slice none 0 0, .slice none 0 0, .slice none 0 0, .slice none 0 0, .slice none 0 0]
def CmdOk (w' : World) (B : Nat) (va vw vr vd : Value) (st : SC.St) : Prop :=
  ∃ ac wc rc, w'.ownsRow B 54 4 va st.qs.length ac ∧ w'.ownsRow B 39 2 vw st.ws.length wc ∧ w'.ownsRow B 41 5 vr st.rs.length rc ∧ w'.ownsRow B 56 3 vd st.ds.length (st.ds.flatMap dlC) ∧
    IRep w' (fun _ => True) (st.qs.map asIt) ac ∧ IRep w' (fun _ => True) (st.ws.map wdIt) wc ∧ IRep w' (fun _ => True) (st.rs.map rdIt) rc
/-- What Command leaves. -/
def CmdOut (w : World) : SC.CR → Ending → World → Prop
  | .err p x, e, w' => e = .returned (.tuple #[.agg #[.int .i64 0, .int .i64 0, .string ⟨#[]⟩, .bool false, .slice none 0 0, .slice none 0 0, .slice none 0 0, .slice none 0 0, .slice none 0 0], .slice none 0 0, .int .i64 p, .int .i64 x]) ∧ Below w.heap.size w w'
  | .ok st, e, w' => ∃ va vw vr vd, e = .returned (.tuple #[.agg #[.int .i64 1, .int .i64 st.pos, .string ⟨#[]⟩, .bool false, va, vw, vr, .slice none 0 0, .slice none 0 0], vd, .int .i64 st.a, .int .i64 0]) ∧ Below w.heap.size w w' ∧ CmdOk w' w.heap.size va vw vr vd st
theorem blk9 {v : World} {b : Nat} {a0 a1 a2 a3 a4 a5 a6 a7 a8 : Value} {t : TypeId} (h : v.heap[b]? = some (.cells #[a0, a1, a2, a3, a4, a5, a6, a7, a8] t (0, 0))) :
    v.cell? ⟨b, 0, none⟩ = some a0 ∧ v.cell? ⟨b, 1, none⟩ = some a1 ∧ v.cell? ⟨b, 2, none⟩ = some a2 ∧ v.cell? ⟨b, 3, none⟩ = some a3 ∧ v.cell? ⟨b, 4, none⟩ = some a4 ∧ v.cell? ⟨b, 5, none⟩ = some a5 ∧ v.cell? ⟨b, 6, none⟩ = some a6 ∧ v.cell? ⟨b, 7, none⟩ = some a7 ∧ v.cell? ⟨b, 8, none⟩ = some a8 ∧
      v.frozen? ⟨b, 0, none⟩ = false ∧ v.frozen? ⟨b, 1, none⟩ = false ∧ v.frozen? ⟨b, 2, none⟩ = false ∧ v.frozen? ⟨b, 3, none⟩ = false ∧ v.frozen? ⟨b, 4, none⟩ = false ∧ v.frozen? ⟨b, 5, none⟩ = false ∧ v.frozen? ⟨b, 6, none⟩ = false ∧ v.frozen? ⟨b, 7, none⟩ = false ∧ v.frozen? ⟨b, 8, none⟩ = false :=
  ⟨Lib.cell_of_heap h 0, Lib.cell_of_heap h 1, Lib.cell_of_heap h 2, Lib.cell_of_heap h 3, Lib.cell_of_heap h 4, Lib.cell_of_heap h 5, Lib.cell_of_heap h 6, Lib.cell_of_heap h 7, Lib.cell_of_heap h 8,
    Lib.frozen_of_heap h 0, Lib.frozen_of_heap h 1, Lib.frozen_of_heap h 2, Lib.frozen_of_heap h 3, Lib.frozen_of_heap h 4, Lib.frozen_of_heap h 5, Lib.frozen_of_heap h 6, Lib.frozen_of_heap h 7, Lib.frozen_of_heap h 8⟩
def set9 (v : World) (b : Nat) (u0 u1 u2 u3 u4 u5 u6 u7 u8 : Value) : World := ((((((((v.setCell ⟨b, 0, none⟩ u0).setCell ⟨b, 1, none⟩ u1).setCell ⟨b, 2, none⟩ u2).setCell ⟨b, 3, none⟩ u3).setCell ⟨b, 4, none⟩ u4).setCell ⟨b, 5, none⟩ u5).setCell ⟨b, 6, none⟩ u6).setCell ⟨b, 7, none⟩ u7).setCell ⟨b, 8, none⟩ u8
theorem set9_heap {v : World} {b : Nat} {a0 a1 a2 a3 a4 a5 a6 a7 a8 : Value} {t : TypeId} (h : v.heap[b]? = some (.cells #[a0, a1, a2, a3, a4, a5, a6, a7, a8] t (0, 0))) (u0 u1 u2 u3 u4 u5 u6 u7 u8 : Value) :
    (set9 v b u0 u1 u2 u3 u4 u5 u6 u7 u8).heap[b]? = some (.cells #[u0, u1, u2, u3, u4, u5, u6, u7, u8] t (0, 0)) := by
  have e0 : (v.setCell ⟨b, 0, none⟩ u0).heap[b]? = some (.cells #[u0, a1, a2, a3, a4, a5, a6, a7, a8] t (0, 0)) := heap_setCell_same _ b 0 _ _ u0 h
  have e1 : ((v.setCell ⟨b, 0, none⟩ u0).setCell ⟨b, 1, none⟩ u1).heap[b]? = some (.cells #[u0, u1, a2, a3, a4, a5, a6, a7, a8] t (0, 0)) := heap_setCell_same _ b 1 _ _ u1 e0
  have e2 : (((v.setCell ⟨b, 0, none⟩ u0).setCell ⟨b, 1, none⟩ u1).setCell ⟨b, 2, none⟩ u2).heap[b]? = some (.cells #[u0, u1, u2, a3, a4, a5, a6, a7, a8] t (0, 0)) := heap_setCell_same _ b 2 _ _ u2 e1
  have e3 : ((((v.setCell ⟨b, 0, none⟩ u0).setCell ⟨b, 1, none⟩ u1).setCell ⟨b, 2, none⟩ u2).setCell ⟨b, 3, none⟩ u3).heap[b]? = some (.cells #[u0, u1, u2, u3, a4, a5, a6, a7, a8] t (0, 0)) := heap_setCell_same _ b 3 _ _ u3 e2
  have e4 : (((((v.setCell ⟨b, 0, none⟩ u0).setCell ⟨b, 1, none⟩ u1).setCell ⟨b, 2, none⟩ u2).setCell ⟨b, 3, none⟩ u3).setCell ⟨b, 4, none⟩ u4).heap[b]? = some (.cells #[u0, u1, u2, u3, u4, a5, a6, a7, a8] t (0, 0)) := heap_setCell_same _ b 4 _ _ u4 e3
  have e5 : ((((((v.setCell ⟨b, 0, none⟩ u0).setCell ⟨b, 1, none⟩ u1).setCell ⟨b, 2, none⟩ u2).setCell ⟨b, 3, none⟩ u3).setCell ⟨b, 4, none⟩ u4).setCell ⟨b, 5, none⟩ u5).heap[b]? = some (.cells #[u0, u1, u2, u3, u4, u5, a6, a7, a8] t (0, 0)) := heap_setCell_same _ b 5 _ _ u5 e4
  have e6 : (((((((v.setCell ⟨b, 0, none⟩ u0).setCell ⟨b, 1, none⟩ u1).setCell ⟨b, 2, none⟩ u2).setCell ⟨b, 3, none⟩ u3).setCell ⟨b, 4, none⟩ u4).setCell ⟨b, 5, none⟩ u5).setCell ⟨b, 6, none⟩ u6).heap[b]? = some (.cells #[u0, u1, u2, u3, u4, u5, u6, a7, a8] t (0, 0)) := heap_setCell_same _ b 6 _ _ u6 e5
  have e7 : ((((((((v.setCell ⟨b, 0, none⟩ u0).setCell ⟨b, 1, none⟩ u1).setCell ⟨b, 2, none⟩ u2).setCell ⟨b, 3, none⟩ u3).setCell ⟨b, 4, none⟩ u4).setCell ⟨b, 5, none⟩ u5).setCell ⟨b, 6, none⟩ u6).setCell ⟨b, 7, none⟩ u7).heap[b]? = some (.cells #[u0, u1, u2, u3, u4, u5, u6, u7, a8] t (0, 0)) := heap_setCell_same _ b 7 _ _ u7 e6
  have e8 : (((((((((v.setCell ⟨b, 0, none⟩ u0).setCell ⟨b, 1, none⟩ u1).setCell ⟨b, 2, none⟩ u2).setCell ⟨b, 3, none⟩ u3).setCell ⟨b, 4, none⟩ u4).setCell ⟨b, 5, none⟩ u5).setCell ⟨b, 6, none⟩ u6).setCell ⟨b, 7, none⟩ u7).setCell ⟨b, 8, none⟩ u8).heap[b]? = some (.cells #[u0, u1, u2, u3, u4, u5, u6, u7, u8] t (0, 0)) := heap_setCell_same _ b 8 _ _ u8 e7
  exact e8
theorem set9_below {B b : Nat} {w v : World} (h : Below B w v) (hb : B ≤ b) (u0 u1 u2 u3 u4 u5 u6 u7 u8 : Value) : Below B w (set9 v b u0 u1 u2 u3 u4 u5 u6 u7 u8) :=
  ((((((((h.setCell hb _).setCell hb _).setCell hb _).setCell hb _).setCell hb _).setCell hb _).setCell hb _).setCell hb _).setCell hb _
theorem set9_far {v : World} {b q : Nat} (hq : q ≠ b) (u0 u1 u2 u3 u4 u5 u6 u7 u8 : Value) : (set9 v b u0 u1 u2 u3 u4 u5 u6 u7 u8).heap[q]? = v.heap[q]? := by
  unfold set9
  rw [Below.heap_setCell _ _ _ q hq, Below.heap_setCell _ _ _ q hq, Below.heap_setCell _ _ _ q hq, Below.heap_setCell _ _ _ q hq, Below.heap_setCell _ _ _ q hq, Below.heap_setCell _ _ _ q hq, Below.heap_setCell _ _ _ q hq, Below.heap_setCell _ _ _ q hq, Below.heap_setCell _ _ _ q hq]
end W
end Go.Proofs.Ytlhijlmbfjlglaa
