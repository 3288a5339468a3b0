/- Several texts in one: BldS G08a H09. -/
import Derived.Test.YtcbdhheelddgeaaGreatDoorChecked
import Derived.Test.YtcbdhheelddgeaaGreatDoorK
import Derived.Lib.FrozenHead2
import Derived.Lib.Builder
import Derived.BigCall
import Derived.Shelf.Strings.BuilderK
import Derived.Test.YtcbdhheelddgeaaGreatDoorZB
import Derived.Test.YtcbdhheelddgeaaGreatDoorW08a
import Derived.Test.YtcbdhheelddgeaaGreatDoorWC
import Derived.Test.YtcbdhheelddgeaaGreatDoorShelfC
namespace Go.Proofs.YtcbdhheelddgeaaGreatDoor
open Go.RowKit K
namespace W

theorem sizeBuilder : (Tryz.prog.info? 124).map (·.size) = some 2 := by kernel_rfl
theorem infoByteS : (Tryz.prog.info? 5).map (fun i => (i.zero, i.size, i.bytes)) = some (some (.int .u8 0), 1, 1) := by kernel_rfl
theorem cellsByte : Tryz.prog.cellsOf 5 = 1 := by kernel_rfl

set_option maxRecDepth 100000 in
theorem copyCheck_fresh (b : Nat) (w : World) (h0 : w.cell? ⟨b, 0, none⟩ = some (.pointer none)) (hsh : w.shape? b = some (124, 2)) (hfz : w.frozen? ⟨b, 0, none⟩ = false) :
  Calls Tryz.prog 118 #[.pointer (some ⟨b, 0, none⟩)] w fun e w' => e = .returned (.tuple #[]) ∧ w' = w.setCell ⟨b, 0, none⟩ (.pointer (some ⟨b, 0, none⟩)) := by
 obtain ⟨j, hj, hjs⟩ := Option.map_eq_some_iff.1 sizeBuilder
 go_enter Tryz.func118, Tryz.ntmps118
 go_wp2
 rw [Lib.run_to_unsafe w ⟨b, 0, none⟩ Tryz.underlying121 Tryz.underlying163 hj (by rw [hjs]; decide) hsh (Nat.zero_lt_succ 1)]
 simp only [Result.andThen]
 rw [Oper.upon_value]
 go_wp2
 rw [run_callFunc_extern Tryz.func139 (by kernel_rfl) (by kernel_rfl) (by kernel_rfl) (e := Extern.AbiNoEscape.same) (by kernel_rfl)]
 rw [Lib.run_noEscape]
 simp only [Result.andThen]
 rw [Oper.upon_value]
 go_wp2
 rw [Lib.run_from_unsafe w ⟨b, 0, none⟩ Tryz.underlying163 Tryz.underlying121 hj hsh (by kernel_rfl)]
 simp only [Result.andThen]
 rw [Oper.upon_value]
 go_wp2
 go_end0
 exact ⟨rfl, rfl⟩

set_option maxRecDepth 100000 in
theorem copyCheck_used (b : Nat) (w : World) (h0 : w.cell? ⟨b, 0, none⟩ = some (.pointer (some ⟨b, 0, none⟩))) :
  Calls Tryz.prog 118 #[.pointer (some ⟨b, 0, none⟩)] w fun e w' => e = .returned (.tuple #[]) ∧ w = w' := by
 obtain ⟨j, hj, hjs⟩ := Option.map_eq_some_iff.1 sizeBuilder
 have hne := Lib.run_neq_ptr_same (P := Tryz.prog) w ⟨b, 0, none⟩ Tryz.underlying121 hj
 go_enter Tryz.func118, Tryz.ntmps118
 go_wp2
 go_end0
 exact ⟨rfl, rfl⟩

/-- A strings.Builder in block b (its own blocks from b on) that holds the bytes l. -/
def Bld (b : Nat) (l : List UInt8) (w : World) : Prop := Lib.IsBuilderF 124 5 b b (Lib.byteCells l) w
/-- What a builder's method leaves. -/
structure Bkept (b : Nat) (w w' : World) : Prop where
 below : Below b w w'
 others : Lib.OthersKept 5 (some b) w w'
theorem Bkept.refl (b : Nat) (w : World) : Bkept b w w := ⟨Below.refl _ _, Lib.OthersKept.refl _ _ _⟩
theorem Bkept.trans {b : Nat} {u v w : World} (h : Bkept b u v) (k : Bkept b v w) : Bkept b u w := ⟨h.below.trans k.below, h.others.trans k.others⟩

theorem Bld.lt {b : Nat} {l : List UInt8} {w : World} (h : Bld b l w) : b < w.heap.size := by
 unfold Bld at h
 rcases h with h | h
 ·exact h.lt
 ·exact h.lt
theorem builderAtF_below {T e : TypeId} {B b : Nat} {p : Value} {bs : List Value} {w w' : World} (h : Lib.BuilderAtF T e B b p bs w) (hb : Below w.heap.size w w') : Lib.BuilderAtF T e B b p bs w' := by
 have hlt := h.lt
 obtain ⟨hB, v, hbk, hown, hne⟩ := h
 refine ⟨hB, v, (hb.block b hlt).trans hbk, ⟨hown.1, ?_⟩, hne⟩
 rcases hown.2 with hn | ⟨g, cap, cur, fz, hv, hbg, hg, rest⟩
 ·exact .inl hn
 ·exact .inr ⟨g, cap, cur, fz, hv, hbg, (hb.block g (Array.getElem?_eq_some_iff.1 hg).1).trans hg, rest⟩
/-- A builder stays one while only new memory is made. -/
theorem Bld.below {b : Nat} {l : List UInt8} {w w' : World} (h : Bld b l w) (hb : Below w.heap.size w w') : Bld b l w' := by
 unfold Bld at h ⊢
 rcases h with h | h
 ·exact .inl (builderAtF_below h hb)
 ·exact .inr (builderAtF_below h hb)

theorem copyCheck_k (b : Nat) (bs : List Value) (w : World) (h : Lib.IsBuilderF 124 5 b b bs w) :
  Calls Tryz.prog 118 #[.pointer (some ⟨b, 0, none⟩)] w fun e w' => e = .returned (.tuple #[]) ∧ (Lib.BuilderAtF 124 5 b b (.pointer (some ⟨b, 0, none⟩)) bs w' ∧ Bkept b w w') := by
 rcases h with h | h
 ·refine (copyCheck_fresh b w h.cell0 h.shape h.frozen0).mono ?_
  rintro e w' ⟨rfl, rfl⟩
  exact ⟨rfl, h.used _, (Below.refl b w).setCell (p := ⟨b, 0, none⟩) h.1 _, (Lib.OthersKept.refl _ _ w).setCell ⟨b, 0, none⟩ rfl _⟩
 ·refine (copyCheck_used b w h.cell0).mono ?_
  rintro e w' ⟨rfl, rfl⟩
  exact ⟨rfl, h, Bkept.refl b _⟩

set_option maxHeartbeats 2000000 in
set_option maxRecDepth 100000 in
theorem WriteString_k (b : Nat) (l s : List UInt8) (w : World) (h : Bld b l w) (hlen : l.length ≤ 1000000000) (hs : s.length ≤ 1000000000) :
  Calls Tryz.prog 94 #[.pointer (some ⟨b, 0, none⟩), .string ⟨s.toArray⟩] w fun e w' => e = .returned (.tuple #[.int .i64 s.length, .nilIface]) ∧ Bld b (l ++ s) w' ∧ Bkept b w w' := by
 obtain ⟨i0, hi, hz0, hz1, hz2⟩ := info_parts infoByteS
 unfold Bld at h
 rw [show Bld b (l ++ s) = Lib.IsBuilderF 124 5 b b (Lib.byteCells l ++ Lib.strCells ⟨s.toArray⟩) from by unfold Bld; rw [Lib.byteCells_append]; rfl]
 have hlt0 : b < w.heap.size := by
  rcases h with h | h
  ·exact h.lt
  ·exact h.lt
 have hbl : (Lib.byteCells l).length ≤ 1000000000 := by rw [Lib.byteCells_length]; omega
 generalize Lib.byteCells l = bs at h hbl
 obtain ⟨S, hS⟩ : ∃ S : ByteArray, S = ⟨s.toArray⟩ := ⟨_, rfl⟩
 have hSl : S.size = s.length := by rw [hS]; simp [ByteArray.size]
 rw [← hS, ← hSl]
 rw [← hSl] at hs
 clear hS hSl
 go_enter Tryz.func94, Tryz.ntmps94
 go_wp2_with (go_at_call 118; refine (copyCheck_k b bs _ h).mono ?_)
 rintro e w1 ⟨rfl, h1, hb1, hk1⟩
 obtain ⟨hB, v, hbk, hown, hne⟩ := h1
 have c0 : w1.cell? ⟨b, 0, none⟩ = some (.pointer (some ⟨b, 0, none⟩)) := by rw [Lib.cell_of_heap hbk]; rfl
 have c1 : w1.cell? ⟨b, 1, none⟩ = some v := by rw [Lib.cell_of_heap hbk]; rfl
 go_wp2_with (at_builtin; refine Lib.wpList_append_own_stringF _ rfl _ _ 122 9 rfl b 5 i0 Tryz.underlying122 Tryz.underlying9 hi hz0 hz1 hz2 _ _ _ rfl hown S rfl ?c3 ?c4 ?c5 ?_)
 case c3 => unfold maxLen; omega
 case c4 => omega
 case c5 => have := hb1.size; omega
 intro v' w2 hown' hgrow _
 have hlt : b < w1.heap.size := by
  rcases Nat.lt_or_ge b w1.heap.size with h' | h'
  ·exact h'
  ·simp [Array.getElem?_eq_none h'] at hbk
 have hb2 : w2.heap[b]? = some (.cells #[.pointer (some ⟨b, 0, none⟩), v] 124 (0, 0)) := by
  rw [hgrow.block b hlt (fun e => hne e.symm)]
  exact hbk
 have d0 : w2.cell? ⟨b, 0, none⟩ = some (.pointer (some ⟨b, 0, none⟩)) := by rw [Lib.cell_of_heap hb2]; rfl
 have d1 : w2.cell? ⟨b, 1, none⟩ = some v := by rw [Lib.cell_of_heap hb2]; rfl
 have f1 : w2.frozen? ⟨b, 1, none⟩ = false := Lib.frozen_of_heap hb2 1
 obtain ⟨ao, n', cap, rfl⟩ : ∃ ao n' cap, v' = .slice ao n' cap := by
  rcases hown'.2 with ⟨hv, _⟩ | ⟨g, cap, cur, fz, hv, _⟩
  ·exact ⟨_, _, _, hv⟩
  ·exact ⟨_, _, _, hv⟩
 go_wp2
 go_ret2
 refine ⟨rfl, Or.inr ?_, ?_, (hk1.grown hgrow (Lib.ownsRowF_kind hown)).setCell ⟨b, 1, none⟩ rfl _⟩
 ·exact Lib.BuilderAtF.put (T := 124) (e := 5) hB hb2 (bs' := bs ++ Lib.strCells S) (by simpa [Lib.strCells_length] using hown') (by decide)
 ·exact (hb1.grown hgrow (by have := hb1.size; omega) (fun k hk => (hown.lt k hk).1)).setCell (p := ⟨b, 1, none⟩) hB _
end W
end Go.Proofs.YtcbdhheelddgeaaGreatDoor
namespace Go.Proofs.YtcbdhheelddgeaaGreatDoor
open Go.RowKit K
open WP (GP gp gpL)
namespace W
/- The cells of parts of any kind, in blocks of which F speaks. -/
mutual
def GR (w : World) (F : Nat → Prop) : GP → List Value → Prop
 | .mk k t o c ps, vs => ∃ (A : Option Addr) (cap : Nat), vs = pc k t o c (.slice A ps.length cap) ∧ (ps = [] ∨ ∃ b off cells, A = some ⟨b, off, none⟩ ∧ F b ∧ GL w F ps cells ∧ ∀ j u, cells[j]? = some u → w.cell? ⟨b, off + j, none⟩ = some u)
def GL (w : World) (F : Nat → Prop) : List GP → List Value → Prop
 | [], vs => vs = []
 | p :: ps, vs => ∃ a b, vs = a ++ b ∧ GR w F p a ∧ GL w F ps b
end
/-- A slice of parts. -/
def GS (w : World) (F : Nat → Prop) (v : Value) (l : List GP) : Prop :=
 ∃ (A : Option Addr) (cap : Nat), v = .slice A l.length cap ∧ (l = [] ∨ ∃ b off cells, A = some ⟨b, off, none⟩ ∧ F b ∧ GL w F l cells ∧ ∀ j u, cells[j]? = some u → w.cell? ⟨b, off + j, none⟩ = some u)
theorem GR.len {w : World} {F : Nat → Prop} {p : GP} {vs : List Value} (h : GR w F p vs) : vs.length = 5 := by
 obtain ⟨k, t, o, c, ps⟩ := p
 rw [GR] at h
 obtain ⟨A, cap, rfl, -⟩ := h
 rfl
theorem GL.len {w : World} {F : Nat → Prop} : ∀ {ps : List GP} {vs : List Value}, GL w F ps vs → vs.length = ps.length * 5
 | [], vs, h => by rw [GL] at h; subst h; rfl
 | p :: ps, vs, h => by
  rw [GL] at h
  obtain ⟨a, b, rfl, h1, h2⟩ := h
  rw [List.length_append, h1.len, GL.len h2, List.length_cons]
  omega
mutual
theorem GR.mono {w w' : World} {F F' : Nat → Prop} (hF : ∀ b, F b → b < w.heap.size → F' b ∧ w'.heap[b]? = w.heap[b]?) : ∀ (p : GP) (vs : List Value), GR w F p vs → GR w' F' p vs
 | .mk k t o c ps, vs, h => by
  rw [GR] at h ⊢
  obtain ⟨A, cap, h1, h2⟩ := h
  refine ⟨A, cap, h1, ?_⟩
  rcases h2 with h2 | ⟨b, off, cells, hA, hFb, hl, hc⟩
  ·exact .inl h2
  ·by_cases hps : ps = []
   ·exact .inl hps
   have hlen := hl.len
   have hpos : 0 < cells.length := by rw [hlen]; have := List.length_pos_iff.2 hps; omega
   obtain ⟨u, hu⟩ : ∃ u, cells[0]? = some u := ⟨cells[0], by simp [hpos]⟩
   obtain ⟨h3, h4⟩ := hF b hFb (lt_cell (hc 0 u hu))
   refine .inr ⟨b, off, cells, hA, h3, GL.mono hF ps cells hl, fun j u hj => ?_⟩
   have := hc j u hj
   unfold World.cell? at this ⊢
   rw [h4]
   exact this
theorem GL.mono {w w' : World} {F F' : Nat → Prop} (hF : ∀ b, F b → b < w.heap.size → F' b ∧ w'.heap[b]? = w.heap[b]?) : ∀ (ps : List GP) (vs : List Value), GL w F ps vs → GL w' F' ps vs
 | [], vs, h => by rw [GL] at h ⊢; exact h
 | p :: ps, vs, h => by
  rw [GL] at h ⊢
  obtain ⟨a, b, h1, h2, h3⟩ := h
  exact ⟨a, b, h1, GR.mono hF p a h2, GL.mono hF ps b h3⟩
end
theorem GS.mono {w w' : World} {F F' : Nat → Prop} (hF : ∀ b, F b → b < w.heap.size → F' b ∧ w'.heap[b]? = w.heap[b]?) {v : Value} {l : List GP} (h : GS w F v l) : GS w' F' v l := by
 obtain ⟨A, cap, h1, h2⟩ := h
 refine ⟨A, cap, h1, ?_⟩
 rcases h2 with h2 | ⟨b, off, cells, hA, hFb, hl, hc⟩
 ·exact .inl h2
 ·by_cases hps : l = []
  ·exact .inl hps
  have hlen := hl.len
  have hpos : 0 < cells.length := by rw [hlen]; have := List.length_pos_iff.2 hps; omega
  obtain ⟨u, hu⟩ : ∃ u, cells[0]? = some u := ⟨cells[0], by simp [hpos]⟩
  obtain ⟨h3, h4⟩ := hF b hFb (lt_cell (hc 0 u hu))
  refine .inr ⟨b, off, cells, hA, h3, GL.mono hF l cells hl, fun j u hj => ?_⟩
  have := hc j u hj
  unfold World.cell? at this ⊢
  rw [h4]
  exact this
/-- New memory, or writes in blocks from B on, leave parts below B as they are. -/
theorem GS.kept {w w' : World} {B : Nat} {v : Value} {l : List GP} (h : GS w (fun b => b < B) v l) (hb : Below B w w') : GS w' (fun b => b < B) v l := h.mono fun b h1 _ => ⟨h1, hb.block b h1⟩
theorem GS.below {w w' : World} {F : Nat → Prop} {v : Value} {l : List GP} (h : GS w F v l) (hb : Below w.heap.size w w') : GS w' F v l := h.mono fun b h1 h2 => ⟨h1, hb.block b h2⟩
theorem GS.nil (w : World) (F : Nat → Prop) (A : Option Addr) (cap : Nat) : GS w F (.slice A 0 cap) [] := ⟨A, cap, rfl, .inl rfl⟩
theorem GS.slice {w : World} {F : Nat → Prop} {v : Value} {l : List GP} (h : GS w F v l) : ∃ A cap, v = .slice A l.length cap := by
 obtain ⟨A, cap, h1, _⟩ := h
 exact ⟨A, cap, h1⟩
theorem GL.at_ {w : World} {F : Nat → Prop} : ∀ {l : List GP} {cells : List Value} {i : Nat} {p : GP}, GL w F l cells → l[i]? = some p → ∃ vs, GR w F p vs ∧ ∀ j u, vs[j]? = some u → cells[i * 5 + j]? = some u
 | [], _, i, p, _, hp => by simp at hp
 | q :: r, cells, i, p, h, hp => by
  rw [GL] at h
  obtain ⟨a, b, rfl, h1, h2⟩ := h
  cases i with
  | zero =>
   simp at hp
   subst hp
   refine ⟨a, h1, fun j u hj => ?_⟩
   rw [Nat.zero_mul, Nat.zero_add, List.getElem?_append_left (List.getElem?_eq_some_iff.1 hj).1]
   exact hj
  | succ i =>
   obtain ⟨vs, h3, h4⟩ := GL.at_ (i := i) h2 (by simpa using hp)
   refine ⟨vs, h3, fun j u hj => ?_⟩
   have hl := h1.len
   rw [List.getElem?_append_right (by omega), hl, show (i + 1) * 5 + j - 5 = i * 5 + j by omega]
   exact h4 j u hj
/-- What stands at an index of a slice of parts. -/
theorem GS.get {w : World} {F : Nat → Prop} {A : Option Addr} {n cap : Nat} {l : List GP} (h : GS w F (.slice A n cap) l) {i : Nat} {p : GP} (hp : l[i]? = some p) :
  ∃ b off A2 cap2, A = some ⟨b, off, none⟩ ∧ F b ∧ w.cell? ⟨b, off + i * 5, none⟩ = some (.int .i64 p.kind) ∧ w.cell? ⟨b, off + i * 5 + 1, none⟩ = some (.string ⟨p.text.toArray⟩) ∧ w.cell? ⟨b, off + i * 5 + 2, none⟩ = some (.int .i64 p.op) ∧ w.cell? ⟨b, off + i * 5 + 3, none⟩ = some (.bool p.colon) ∧ w.cell? ⟨b, off + i * 5 + 4, none⟩ = some (.slice A2 p.parts.length cap2) ∧ GS w F (.slice A2 p.parts.length cap2) p.parts := by
 obtain ⟨A', cap', h1, h2⟩ := h
 injection h1 with h1 h3 h4
 subst h1
 rcases h2 with h2 | ⟨b, off, cells, hA, hFb, hl, hc⟩
 ·rw [h2] at hp; simp at hp
 ·obtain ⟨vs, h5, h6⟩ := hl.at_ hp
  obtain ⟨k, t, o, c, ps⟩ := p
  rw [GR] at h5
  obtain ⟨A2, cap2, rfl, h7⟩ := h5
  have g : ∀ j u, (pc k t o c (.slice A2 ps.length cap2))[j]? = some u → w.cell? ⟨b, off + i * 5 + j, none⟩ = some u := fun j u hj => by
   have := hc _ u (h6 j u hj)
   rwa [← Nat.add_assoc] at this
  exact ⟨b, off, A2, cap2, hA, hFb, g 0 _ rfl, g 1 _ rfl, g 2 _ rfl, g 3 _ rfl, g 4 _ rfl, A2, cap2, rfl, h7⟩
mutual
theorem PRep.gen {w : World} {F : Nat → Prop} : ∀ (p : WP.Part) (vs : List Value), PRep w F p vs → GR w F (gp p) vs
 | .mk k t o c ps, vs, h => by
  rw [PRep] at h
  rw [gp, GR]
  obtain ⟨A, cap, h1, h2⟩ := h
  refine ⟨A, cap, by rw [WP.gpL_length]; exact h1, ?_⟩
  rcases h2 with h2 | ⟨b, cells, hA, hFb, hl, hc⟩
  ·subst h2; exact .inl (by rw [gpL])
  ·exact .inr ⟨b, 0, cells, hA, hFb, LRep.gen ps cells hl, fun j u hj => by rw [Nat.zero_add]; exact hc j u hj⟩
theorem LRep.gen {w : World} {F : Nat → Prop} : ∀ (ps : List WP.Part) (vs : List Value), LRep w F ps vs → GL w F (gpL ps) vs
 | [], vs, h => by rw [LRep] at h; rw [gpL, GL]; exact h
 | p :: ps, vs, h => by
  rw [LRep] at h
  rw [gpL, GL]
  obtain ⟨a, b, h1, h2, h3⟩ := h
  exact ⟨a, b, h1, PRep.gen p a h2, LRep.gen ps b h3⟩
end
/-- What Parse gives, as a slice of parts. -/
theorem GS.of_rep {w : World} {F : Nat → Prop} {ps : List WP.Part} {A : Option Addr} {cap : Nat} (h : ps = [] ∨ ∃ b cells, A = some ⟨b, 0, none⟩ ∧ F b ∧ LRep w F ps cells ∧ ∀ j u, cells[j]? = some u → w.cell? ⟨b, j, none⟩ = some u) : GS w F (.slice A ps.length cap) (gpL ps) := by
 refine ⟨A, cap, by rw [WP.gpL_length], ?_⟩
 rcases h with h | ⟨b, cells, h1, h2, h3, h4⟩
 ·subst h; exact .inl (by rw [gpL])
 ·exact .inr ⟨b, 0, cells, h1, h2, LRep.gen ps cells h3, fun j u hj => by rw [Nat.zero_add]; exact h4 j u hj⟩
theorem get_of_lt {l : List GP} {k : Nat} (h : k < l.length) : ∃ p, l[k]? = some p ∧ l.drop k = p :: l.drop (k + 1) :=
 ⟨l[k], List.getElem?_eq_getElem h, List.drop_eq_getElem_cons h⟩
end W
end Go.Proofs.YtcbdhheelddgeaaGreatDoor
namespace Go.Proofs.YtcbdhheelddgeaaGreatDoor
open Go.RowKit K
open WP (GP gp gpL)
namespace W
theorem GS.up {w w' : World} {B : Nat} {v : Value} {l : List GP} (h : GS w (fun b => b < B) v l) (hb : Below w.heap.size w w') : GS w' (fun b => b < w'.heap.size) v l :=
 h.mono fun b _ h2 => ⟨Nat.lt_of_lt_of_le h2 hb.size, hb.block b h2⟩
theorem len_cnt : ∀ l : List GP, l.length ≤ WP.cntL l
 | [] => Nat.zero_le _
 | .mk k t o c ps :: r => by
  have := len_cnt r
  rw [WP.cntL, WP.cntP, List.length_cons]
  omega
theorem cnt_get : ∀ {l : List GP} {k : Nat} {p : GP}, l[k]? = some p → WP.cntL p.parts < WP.cntL l
 | [], k, p, h => by simp at h
 | q :: r, 0, p, h => by
  simp at h
  subst h
  obtain ⟨k, t, o, c, ps⟩ := q
  show WP.cntL ps < _
  rw [WP.cntL, WP.cntP]
  omega
 | q :: r, k + 1, p, h => by
  have := cnt_get (l := r) (k := k) (by simpa using h)
  rw [WP.cntL]
  omega
def litStr : Option (List UInt8) → List UInt8 | none => [] | some s => s
/-- What Literal gives. -/
def LitOut (B : Nat) (w : World) (R : Option (List UInt8)) (e : Ending) (w' : World) : Prop := e = .returned (.tuple #[.string ⟨(litStr R).toArray⟩, .bool R.isSome]) ∧ Below B w w'
def app (acc : List UInt8) (r : Option (List UInt8)) : Option (List UInt8) := r.map (acc ++ ·)
theorem app_nil (acc : List UInt8) : app acc (some []) = some acc := by unfold app; rw [Option.map_some, List.append_nil]
theorem app_app (a b : List UInt8) (r : Option (List UInt8)) : app a (app b r) = app (a ++ b) r := by cases r <;> simp [app]
theorem lit_drop {l : List GP} {k : Nat} {p : GP} (h : l.drop k = p :: l.drop (k + 1)) : WP.glit (l.drop k) = (WP.glit1 p).bind fun a => app a (WP.glit (l.drop (k + 1))) := by rw [h, WP.glit]; rfl
theorem litIn_drop {l : List GP} {k : Nat} {p : GP} (h : l.drop k = p :: l.drop (k + 1)) : WP.glitIn (l.drop k) = if p.kind = 1 then app p.text (WP.glitIn (l.drop (k + 1))) else none := by rw [h, WP.glitIn]; rfl
theorem siz_drop {l : List GP} {k : Nat} {p : GP} (h : l.drop k = p :: l.drop (k + 1)) : WP.sizL (l.drop k) = WP.sizP p + WP.sizL (l.drop (k + 1)) := by rw [h, WP.sizL]
theorem bind_app (t : List UInt8) (X G : Option (List UInt8)) : ((app t X).bind fun a => app a G) = app t (X.bind fun a => app a G) := by
 cases X with
 | none => rfl
 | some x => exact (app_app t x G).symm
/-- What is still to be read of a double-quoted part and of the parts behind it. -/
def inG (ps : List GP) (G : Option (List UInt8)) : Option (List UInt8) := (WP.glitIn ps).bind fun a => app a G
theorem inG_nil (G : Option (List UInt8)) : inG [] G = G := by
 show app [] G = G
 cases G <;> rfl
theorem inG_yes {ps : List GP} {j : Nat} {k : Int} {t : List UInt8} {o : Int} {c : Bool} {qs : List GP} (G : Option (List UInt8)) (h : ps.drop j = .mk k t o c qs :: ps.drop (j + 1)) (hk : k = 1) : inG (ps.drop j) G = app t (inG (ps.drop (j + 1)) G) := by
 unfold inG
 rw [litIn_drop h, if_pos (show (GP.mk k t o c qs).kind = 1 from hk), bind_app]
 rfl
theorem inG_no {ps : List GP} {j : Nat} {k : Int} {t : List UInt8} {o : Int} {c : Bool} {qs : List GP} (G : Option (List UInt8)) (h : ps.drop j = .mk k t o c qs :: ps.drop (j + 1)) (hk : ¬ k = 1) : inG (ps.drop j) G = none := by
 unfold inG
 rw [litIn_drop h, if_neg (show ¬ (GP.mk k t o c qs).kind = 1 from hk)]
 rfl
theorem WriteString_lit (b : Nat) (l s : List UInt8) (w : World) (h : Bld b l w) (hlen : l.length ≤ 1000000) (hs : s.length ≤ 1000000) :
  Calls Tryz.prog 94 #[.pointer (some ⟨b, 0, none⟩), .string ⟨s.toArray⟩] w fun e w' => e = .returned (.tuple #[.int .i64 s.length, .nilIface]) ∧ Bld b (l ++ s) w' ∧ Below b w w' :=
 (WriteString_k b l s w h (by omega) (by omega)).mono fun _ _ ⟨h1, h2, h3⟩ => ⟨h1, h2, h3.below⟩
set_option maxRecDepth 100000 in
set_option maxHeartbeats 8000000 in
theorem Literal_any (v : Value) (l : List GP) (w : World) (h : GS w (fun b => b < w.heap.size) v l) (hn : WP.cntL l ≤ 1000000) (hz : WP.sizL l ≤ 1000000) :
  Calls Tryz.prog 71 #[v] w (LitOut w.heap.size w (WP.glit l)) := by
 obtain ⟨A, cap, rfl⟩ := h.slice
 have HG := Lib.hid h
 have hll := len_cnt l
 have HCN := Lib.hid hn
 obtain ⟨R, hR⟩ : ∃ R, WP.glit l = R := ⟨_, rfl⟩
 rw [hR]
 have HR := Lib.hid (show app [] (WP.glit (l.drop 0)) = R by rw [← hR]; show app [] (WP.glit l) = _; cases WP.glit l <;> rfl)
 have hn1 : l.length ≤ 1000000 := by omega
 have HZ := Lib.hid (show ([] : List UInt8).length + WP.sizL (l.drop 0) ≤ 1000000 from by rw [List.length_nil, Nat.zero_add]; exact hz)
 obtain ⟨V, hV⟩ : ∃ V, V = w.alloc (.cells #[.pointer none, .slice none 0 0] 124) := ⟨_, rfl⟩
 have HBV := Lib.hid (show Bld w.heap.size [] V from by
  unfold Bld
  refine .inl ⟨Nat.le_refl _, .slice none 0 0, ?_, ⟨rfl, .inl ⟨rfl, rfl⟩⟩, by simp [Value.ownBlock]⟩
  rw [hV]
  exact al_new w _)
 have HWV := Lib.hid (show Below w.heap.size w V by rw [hV]; exact balloc _ _)
 have hws : w.heap.size < V.heap.size := by rw [hV]; simp
 have HV := Lib.hid hV
 clear hR h hz hn hV hll
 go_enter Tryz.func71, Tryz.ntmps71
 go_wp2
 rw [← HV.out]
 go_loopw [11] (fun i wr => ∃ k acc, k ≤ l.length ∧ i = .int .i64 (k : Nat) ∧ Hid (app acc (WP.glit (l.drop k)) = R) ∧ Hid (acc.length + WP.sizL (l.drop k) ≤ 1000000) ∧ Hid (Bld w.heap.size acc wr) ∧ Hid (Below w.heap.size w wr)) (fun i _ => l.length - (intOf i).toNat)
 case atStart => exact ⟨0, [], Nat.zero_le _, rfl, HR, HZ, HBV, HWV⟩
 case round =>
  obtain ⟨k, acc, hk, rfl, HN, HA, HBL, HB⟩ := hrel
  have HLT := Lib.hid HBL.out.lt
  have HFAIL := Lib.hid (show R = none → ∀ Y, Below w.heap.size w Y → LitOut w.heap.size w R (.returned (.tuple #[.string ⟨#[]⟩, .bool false])) Y from fun e Y hY => by rw [e]; exact ⟨rfl, hY⟩)
  by_cases hlt : k < l.length
  ·obtain ⟨p, hp, hd⟩ := get_of_lt hlt
   have HQ := Lib.hid (lit_drop hd)
   have HSZ := Lib.hid (siz_drop hd)
   obtain ⟨b, off, A2, cap2, rfl, hb, g0, g1, g2, g3, g4, hg⟩ := (HG.out.kept HB.out).get hp
   have hbr : b < wr.heap.size := Nat.lt_of_lt_of_le hb HB.out.size
   have HGP := Lib.hid hg
   have hcp := cnt_get hp
   have hcl := HCN.out
   clear hp hd hb hg
   obtain ⟨kd, t, o, c, ps⟩ := p
   have hpl := len_cnt ps
   dsimp only [WP.GP.kind, WP.GP.text, WP.GP.op, WP.GP.colon, WP.GP.parts] at g0 g1 g2 g3 g4 HGP hcp
   have hps : (0 : Int) ≤ (ps.length : Int) := by omega
   have hpm : ps.length ≤ 1000000 := by omega
   have HSP := Lib.hid (show WP.sizP (.mk kd t o c ps) = t.length + WP.sizL ps by rw [WP.sizP])
   obtain ⟨X, hX⟩ : ∃ X, X = wr.alloc (.cells #[.int .i64 kd, .string ⟨t.toArray⟩, .int .i64 o, .bool c, .slice A2 ps.length cap2] 126) := ⟨_, rfl⟩
   have HWX := Lib.hid (show Below wr.heap.size wr X by rw [hX]; exact balloc _ _)
   have hxp : X.heap[wr.heap.size]? = some (.cells #[.int .i64 kd, .string ⟨t.toArray⟩, .int .i64 o, .bool c, .slice A2 ps.length cap2] 126 (0, 0)) := by rw [hX]; exact al_new wr _
   have x0 := Lib.cell_of_heap hxp 0
   have x1 := Lib.cell_of_heap hxp 1
   have x4 := Lib.cell_of_heap hxp 4
   have HXB := Lib.hid (show Bld w.heap.size acc X from HBL.out.below HWX.out)
   have HX := Lib.hid hX
   have hwsr := HLT.out
   clear hX hxp hcp hcl hpl
   have hB0 := HB.out
   by_cases h12 : kd = 1 ∨ kd = 2
   ·have HF := Lib.hid (show app (acc ++ t) (WP.glit (l.drop (k + 1))) = R by
     rw [← HN.out, HQ.out, WP.glit1, if_pos h12, ← app_app]; rfl)
    have HA2 := Lib.hid (show (acc ++ t).length + WP.sizL (l.drop (k + 1)) ≤ 1000000 by
     have h1 := HA.out; have h2 := HSZ.out; have h3 := HSP.out; rw [List.length_append]; omega)
    have HWS := Lib.hid (WriteString_lit w.heap.size acc t X HXB.out (by have := HA.out; omega) (by have := HA2.out; rw [List.length_append] at this; omega))
    rcases h12 with rfl | rfl
    all_goals
     go_wp2_with fail
     rw [← HX.out]
     refine HWS.out.mono ?_
     rintro e Y ⟨rfl, hby, hwy⟩
     have HBY := Lib.hid hby
     have HWY := Lib.hid ((HB.out.trans (HWX.out.mono HB.out.size)).trans hwy)
     clear hby hwy
     go_wp2
     go_roundw
     case rel => exact ⟨k + 1, acc ++ t, hlt, by go_num, HF, HA2, HBY, HWY⟩
     case measure => simp [intOf]; omega
   ·have n1 := beq_f (fun e => h12 (.inl e))
    have n2 := beq_f (fun e => h12 (.inr e))
    by_cases h3 : kd = 3
    ·subst h3
     obtain ⟨G, hG⟩ : ∃ G, WP.glit (l.drop (k + 1)) = G := ⟨_, rfl⟩
     have HGG := Lib.hid hG
     have HNI := Lib.hid (show app acc (inG (ps.drop 0) G) = R by rw [← HN.out, HQ.out, hG]; rfl)
     have HAI := Lib.hid (show acc.length + WP.sizL (ps.drop 0) + WP.sizL (l.drop (k + 1)) ≤ 1000000 by
      have h1 := HA.out; have h2 := HSZ.out; have h3 := HSP.out; show _ + WP.sizL ps + _ ≤ _; omega)
     have HBX := Lib.hid (HB.out.trans (HWX.out.mono HB.out.size))
     have HGX := Lib.hid (show GS X (fun b => b < w.heap.size) (.slice A2 ps.length cap2) ps from HGP.out.below HWX.out)
     clear hG hB0
     go_wp2
     rw [← HX.out]
     go_loopw [28] (fun i wr => ∃ j acc2, j ≤ ps.length ∧ i = .int .i64 (j : Nat) ∧ Hid (app acc2 (inG (ps.drop j) G) = R) ∧ Hid (acc2.length + WP.sizL (ps.drop j) + WP.sizL (l.drop (k + 1)) ≤ 1000000) ∧ Hid (Bld w.heap.size acc2 wr) ∧ Hid (Below w.heap.size X wr)) (fun i _ => ps.length - (intOf i).toNat)
     case atStart => exact ⟨0, acc, Nat.zero_le _, rfl, HNI, HAI, HXB, Lib.hid (Below.refl _ _)⟩
     case round =>
      clear HNI HAI x0 x1 x4 HX
      obtain ⟨j, acc2, hj, rfl, HN2, HA2, HBL2, HB2⟩ := hrel
      have HBW2 := Lib.hid (HBX.out.trans HB2.out)
      by_cases hjl : j < ps.length
      ·obtain ⟨q, hq, hdq⟩ := get_of_lt hjl
       have HSZ2 := Lib.hid (siz_drop hdq)
       obtain ⟨b2, off2, A3, cap3, rfl, hb2, y0, y1, y2, y3, y4, -⟩ := (HGX.out.kept HB2.out).get hq
       have hbr2 : b2 < wr.heap.size := Nat.lt_of_lt_of_le hb2 HBW2.out.size
       obtain ⟨kd2, t2, o2, c2, qs⟩ := q
       have HDQ := Lib.hid hdq
       clear hq hdq hb2
       dsimp only [WP.GP.kind, WP.GP.text, WP.GP.op, WP.GP.colon, WP.GP.parts] at y0 y1 y2 y3 y4
       have hqs : (0 : Int) ≤ (qs.length : Int) := by omega
       have HSP2 := Lib.hid (show WP.sizP (.mk kd2 t2 o2 c2 qs) = t2.length + WP.sizL qs by rw [WP.sizP])
       obtain ⟨Z, hZ⟩ : ∃ Z, Z = wr.alloc (.cells #[.int .i64 kd2, .string ⟨t2.toArray⟩, .int .i64 o2, .bool c2, .slice A3 qs.length cap3] 126) := ⟨_, rfl⟩
       have HWZ := Lib.hid (show Below wr.heap.size wr Z by rw [hZ]; exact balloc _ _)
       have HZB := Lib.hid (show Bld w.heap.size acc2 Z from HBL2.out.below HWZ.out)
       have HZZ := Lib.hid hZ
       clear hZ
       by_cases h1 : kd2 = 1
       ·subst h1
        have HF := Lib.hid (show app (acc2 ++ t2) (inG (ps.drop (j + 1)) G) = R by
         rw [← HN2.out, inG_yes G HDQ.out rfl, ← app_app])
        have HA3 := Lib.hid (show (acc2 ++ t2).length + WP.sizL (ps.drop (j + 1)) + WP.sizL (l.drop (k + 1)) ≤ 1000000 by
         have h1 := HA2.out; have h2 := HSZ2.out; have h3 := HSP2.out; rw [List.length_append]; omega)
        have HWS := Lib.hid (WriteString_lit w.heap.size acc2 t2 Z HZB.out (by have := HA2.out; omega) (by have := HA3.out; rw [List.length_append] at this; omega))
        go_wp2_with fail
        rw [← HZZ.out]
        refine HWS.out.mono ?_
        rintro e Y ⟨rfl, hby, hwy⟩
        have HBY := Lib.hid hby
        have HWY := Lib.hid ((HB2.out.trans (HWZ.out.mono HBW2.out.size)).trans hwy)
        clear hby hwy
        go_wp2
        go_roundw
        case rel => exact ⟨j + 1, acc2 ++ t2, hjl, by go_num, HF, HA3, HBY, HWY⟩
        case measure => simp [intOf]; omega
       ·have m1 := beq_f h1
        have m1' : (kd2 != 1) = true := by simpa using h1
        have HF := Lib.hid (show R = none by rw [← HN2.out, inG_no G HDQ.out h1]; rfl)
        have HWY := Lib.hid (HBW2.out.trans (HWZ.out.mono HBW2.out.size))
        go_wp2
        go_ret2
        exact HFAIL.out HF.out _ (by rw [← HZZ.out]; exact HWY.out)
      ·have HF := Lib.hid (show app acc2 (WP.glit (l.drop (k + 1))) = R by rw [← HN2.out, show ps.drop j = [] from List.drop_eq_nil_of_le (by omega), inG_nil, HGG.out])
       have HA3 := Lib.hid (show acc2.length + WP.sizL (l.drop (k + 1)) ≤ 1000000 by have := HA2.out; omega)
       go_wp2
       go_roundw
       case rel => exact ⟨k + 1, acc2, hlt, by go_num, HF, HA3, HBL2, HBW2⟩
       case measure => simp [intOf]; omega
    ·have n3 := beq_f h3
     have HF := Lib.hid (show R = none by rw [← HN.out, HQ.out, WP.glit1, if_neg h12, if_neg h3]; rfl)
     go_wp2
     go_ret2
     exact HFAIL.out HF.out _ (by rw [← HX.out]; exact HB.out.trans (HWX.out.mono HB.out.size))
  ·have HF := Lib.hid (show R = some acc by rw [← HN.out, List.drop_eq_nil_of_le (by omega), WP.glit, app_nil])
   have HST := Lib.hid (Tryz.Builder_String_any_k w.heap.size w.heap.size acc wr HBL.out (by have := HLT.out; omega))
   go_wp2_with fail
   refine HST.out.mono ?_
   rintro e Y ⟨rfl, -, hby, -⟩
   have HBY := Lib.hid (HB.out.trans hby)
   clear hby
   go_wp2
   go_ret2
   rw [HF.out]
   exact ⟨rfl, HBY.out⟩
end W
end Go.Proofs.YtcbdhheelddgeaaGreatDoor
